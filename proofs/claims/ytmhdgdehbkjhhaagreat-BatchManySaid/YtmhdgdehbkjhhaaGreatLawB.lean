/- Texts of a proof: no condition. -/
import Derived.Test.YtmhdgdehbkjhhaaGreatLawA
set_option autoImplicit true
set_option relaxedAutoImplicit true
set_option linter.all false
set_option linter.unusedVariables false
set_option linter.unusedSimpArgs false
namespace Go.L1
open Go Go.Proofs
theorem c_count {h : H} {cb : Nat} {kd : Int} {l : List V} {P : List Pr} {F : Nat → Prop} (o : ColX h cb kd l P F) (hP : P.length < 400000) (v : V) (hn : 0 ≤ getP P v.s ∧ getP P v.s < 1099511627776) :
    Rn (icP (.fn N_k108) [pt cb 0,v.v] h) fun r => r.1 = .tuple #[] ∧ (∀ x ∈ r.2.2,F x ∧ x < h.n) ∧ ColX r.2.1 cb kd l (countP P v) (fun b => F b ∨ h.n ≤ b) := by
  refine Rn.up (fun _ => ic_k108 rfl _ _) ?_
  unfold F_k108
  obtain ⟨ob,m,nl,D,q1,q2,q3,q4,q5,q6⟩ := o.blk
  have hc := o.lt
  have q1' := q1
  unfold colB at q1
  unfold countP
  cases h0 : v.k == 0
  · cases h2 : v.k == 2
    · have h2' : ¬ v.k = 2 := by simpa using h2
      simp -implicitDefEqProofs only [↓jn3,↓wsD,wsP,Nat.reduceBEq,reduceCtorEq,logOf,Nat.reduceAdd,Nat.reduceLeDiff,Nat.reduceMul,co_slv,wsF,h0,h2,h2']
      refine Rn_low (by simp) rfl ⟨rfl,by simp,o.mono fun _ => .inl⟩
    · have h2' : v.k = 2 := by simpa using h2
      obtain ⟨⟨w,hb2,lg⟩,e2,⟨b,p1⟩,p2,p3,mb,p4,p5⟩ := c_add (h := h.push (.cells v.cs T_api_Value false)) (l := slv ob l.length) (m := m) (nl := nl) (kd := kd) (P := P) (F := D) (s := v.s) (cb := cb) (by show cb < h.n + 1; omega)
        (by unfold colB; rw [H.get_push,if_neg (by omega),q1]) (q6.frame (by show h.n ≤ h.n + 1; omega) fun b hb _ => by rw [H.get_push,if_neg (by omega)]) q4 hP hn
      simp only at p1 p2 p3 p4 p5
      subst p1
      have hst := icP_stp _ _ _ _ _ _ e2
      have hle : h.n + 1 ≤ hb2.n := hst.le
      rw [if_pos h2']
      simp -implicitDefEqProofs only [↓jn3,↓wsD,wsP,Nat.reduceBEq,reduceCtorEq,logOf,Nat.reduceAdd,Nat.reduceLeDiff,Nat.reduceMul,co_slv,h0,h2,e2]
      rw [dr_ws [false,false,false,false,false,true] (by kernel_rfl)]
      simp -implicitDefEqProofs only [↓jn3,↓wsD,wsP,Nat.reduceBEq,reduceCtorEq,logOf,Nat.reduceAdd,Nat.reduceLeDiff,Nat.reduceMul,co_slv,wsF]
      have hD : ∀ x ∈ lg,F x := fun x hx => by
        rcases (p2 x hx).1 with rfl | h
        · exact o.fc
        · exact (q5 x h).1
      have hO : ColX hb2 cb kd l (addP P v.s) (fun b => F b ∨ h.n ≤ b) := by
        refine ⟨by omega,.inl o.fc,o.len,ob,pt mb 0,nl,fun b => (D b ∨ h.n + 1 ≤ b) ∧ b < hb2.n,p4,q2.frame (by omega) fun b e => ?_,fun b e => ⟨(q3 b e).1,.inl (q3 b e).2.1,fun hd => ?_⟩,fun hd => ?_,fun b hd => ?_,.inr ⟨mb,rfl,p5.bd⟩⟩
        · subst e
          have hb := q2.1
          rw [hst.same b (by show b < h.n + 1; omega) (fun hm => ?_),H.get_push,if_neg (by omega)]
          rcases (p2 b hm).1 with e | e
          · exact (q3 b rfl).1 e
          · exact (q3 b rfl).2.2 e
        · subst e
          have hb := q2.1
          rcases hd.1 with hd | hd
          · exact (q3 b rfl).2.2 hd
          · omega
        · rcases hd.1 with hd | hd
          · exact q4 hd
          · omega
        · refine ⟨?_,hd.2⟩
          rcases hd.1 with hd | hd
          · exact .inl (q5 b hd).1
          · exact .inr (by omega)
      obtain ⟨x,hx⟩ := List.exists_mem_of_ne_nil lg p3
      have hxn : x < h.n := by
        rcases (p2 x hx) with ⟨rfl | h1,h2⟩
        · exact hc
        · exact (q5 x h1).2
      refine Rn_mut x hx hxn fun k hk hm => ⟨rfl,fun y hy => ⟨hD y (hk y hy).1,(hk y hy).2⟩,hO⟩
  · have h2' : ¬ v.k = 2 := by
      have : v.k = 0 := by simpa using h0
      omega
    simp -implicitDefEqProofs only [↓jn3,↓wsD,wsP,Nat.reduceBEq,reduceCtorEq,logOf,Nat.reduceAdd,Nat.reduceLeDiff,Nat.reduceMul,co_slv,wsF,h0,q1,Nat.ne_of_lt hc,h2',if_false]
    refine Rn_mut cb (by simp) hc fun k hk hm => ⟨rfl,fun y hy => ⟨?_,(hk y hy).2⟩,?_⟩
    · have := (hk y hy).1
      simp only [List.mem_cons,List.not_mem_nil,or_false] at this
      subst this; exact o.fc
    · refine ⟨by show cb < h.n + 1; omega,.inl o.fc,o.len,ob,m,_,D,by unfold colB; rw [H.get_set,if_pos rfl],q2.frame (by show h.n ≤ h.n + 1; omega) fun b e => ?_,fun b e => ⟨(q3 b e).1,.inl (q3 b e).2.1,(q3 b e).2.2⟩,q4,fun b hd => ⟨.inl (q5 b hd).1,by have := (q5 b hd).2; show b < h.n + 1; omega⟩,q6.frame (by show h.n ≤ h.n + 1; omega) fun b hb hd => ?_⟩
      · subst e
        have hb := q2.1
        rw [H.get_set,if_neg (q3 b rfl).1,H.get_push,if_neg (by omega)]
      · rw [H.get_set,if_neg (fun e => q4 (by rw [← e]; exact hd)),H.get_push,if_neg (by omega)]
end Go.L1


namespace Go.L1
open Go Go.Proofs
theorem nodup_le {α : Type} [DecidableEq α] : ∀ {A B : List α},A.Nodup → (∀ a ∈ A,a ∈ B) → A.length ≤ B.length
  | [],_,_,_ => Nat.zero_le _
  | a :: A,B,hn,hs => by
    obtain ⟨h1,h2⟩ := List.nodup_cons.1 hn
    have ha := hs a (List.mem_cons_self)
    have := nodup_le (B := B.erase a) h2 fun x hx => by
      have hxa : x ≠ a := fun e => h1 (by rw [← e]; exact hx)
      exact (List.mem_erase_of_ne hxa).2 (hs x (List.mem_cons_of_mem _ hx))
    rw [List.length_erase_of_mem ha] at this
    have : 0 < B.length := List.length_pos_of_mem ha
    simp only [List.length_cons]
    omega
theorem Srt.nodup {P : List Pr} (hs : Srt P) : (P.map Prod.fst).Nodup := by
  rw [List.nodup_iff_pairwise_ne,List.pairwise_map]
  exact hs.imp fun h e => by rw [e,bl_irr] at h; cases h
theorem cnt_pos {l : List V} {s : List UInt8} : 0 < cnt l s ↔ ∃ v ∈ l,v.k = 2 ∧ v.s = s := by
  unfold cnt
  rw [List.countP_pos_iff]
  simp
theorem DictOf.mem {P : List Pr} {l : List V} (d : DictOf P l) (s : List UInt8) : s ∈ P.map Prod.fst ↔ ∃ v ∈ l,v.k = 2 ∧ v.s = s := by
  rw [← cnt_pos,List.mem_map]
  constructor
  · rintro ⟨⟨t,n⟩,hm,rfl⟩
    exact ((d t n).1 hm).2
  · intro h
    exact ⟨(s,_),(d s _).2 ⟨rfl,h⟩,rfl⟩
theorem DictOf.len {P : List Pr} {l : List V} (d : DictOf P l) (hs : Srt P) : P.length ≤ l.length := by
  have h := nodup_le (B := l.map V.s) hs.nodup fun s hm => by
    obtain ⟨v,hv,_,rfl⟩ := (d.mem s).1 hm
    exact List.mem_map_of_mem hv
  simpa using h
theorem cnt_le (l : List V) (s : List UInt8) : cnt l s ≤ l.length := List.countP_le_length
theorem bS_V (n : Nat) (v : V) : aBuildS pgB n T_Lapi_Value 1 [(0,v.v)] = some (.slice (some ⟨n,0,none⟩) 1 1,.cells v.cs T_api_Value false) := by
  show aBuildS pgB n T_Lapi_Value 1 [(0,.agg #[.int .i64 v.k,.int .i64 v.n,st v.s])] = some (.slice (some ⟨n,0,none⟩) 1 1,.cells [.int .i64 v.k,.int .i64 v.n,st v.s] T_api_Value false)
  kernel_rfl
theorem cnt_nil (s : List UInt8) : cnt [] s = 0 := rfl
theorem ColX.srt_put {h : H} {cb : Nat} {kd : Int} {l : List V} {P : List Pr} {F : Nat → Prop} (o : ColX h cb kd l P F) (hp : P ≠ []) : Srt P := by
  obtain ⟨ob,m,nl,D,q1,q2,q3,q4,q5,q6⟩ := o.blk
  rcases q6 with ⟨_,rfl⟩ | ⟨mb,_,o'⟩
  · exact absurd rfl hp
  · exact o'.srt
theorem ColX.srt {h : H} {cb : Nat} {kd : Int} {l : List V} {P : List Pr} {F : Nat → Prop} (o : ColX h cb kd l P F) : Srt P := by
  by_cases hp : P = []
  · subst hp; exact List.Pairwise.nil
  · exact o.srt_put hp
theorem c_cappend {h : H} {cb : Nat} {kd : Int} {l : List V} {F : Nat → Prop} (o : ColR h cb kd l F) (v : V) (hm : mayC kd v = true) (hs : v.s.length < 1000) (hlen : l.length < 90000) :
    Rn (icP (.fn N_k74) [pt cb 0,v.v] h) fun r => r.1 = .bool true ∧ (∀ x ∈ r.2.2,F x ∧ x < h.n) ∧ ColR r.2.1 cb kd (l ++ [v]) (fun b => F b ∨ h.n ≤ b) := by
  refine Rn.up (fun _ => ic_k74 rfl _ _) ?_
  unfold F_k74
  obtain ⟨P,o,hsP,d⟩ := o
  obtain ⟨ob,m,nl,D,q1,q2,q3,q4,q5,q6⟩ := o.blk
  have hc := o.lt
  have hcm := c_cmay (h := h.push (.cells v.cs T_api_Value false)) (l := slv ob l.length) (m := m) (nl := nl) (kd := kd) (cb := cb) (by show cb < h.n + 1; omega) (by unfold colB; rw [H.get_push,if_neg (by omega)]; exact q1) v hs
  unfold colB at q1
  rw [hm] at hcm
  simp -implicitDefEqProofs only [↓jn3,↓wsD,wsP,Nat.reduceBEq,reduceCtorEq,logOf,Nat.reduceAdd,Nat.reduceLeDiff,Nat.reduceMul,co_slv,hcm,q1,Nat.ne_of_lt hc,bS_V]
  generalize hh1 : (h.push (.cells v.cs T_api_Value false)).push (.cells v.cs T_api_Value false) = h1
  have hn1 : h1.n = h.n + 2 := by rw [← hh1]; rfl
  have hg1 : ∀ b,b < h.n → h1.get b = h.get b := fun b hb => by rw [← hh1,H.get_push,if_neg (by show ¬ b = h.n + 1; omega),H.get_push,if_neg (by omega)]
  have hgb : h1.get h.n = some (.cells v.cs T_api_Value false) := by rw [← hh1,H.get_push,if_neg (by show ¬ h.n = h.n + 1; omega),H.get_push,if_pos rfl]
  have hgx : h1.get (h.n + 1) = some (.cells v.cs T_api_Value false) := by rw [← hh1,H.get_push,if_pos (by rfl)]
  have hll := flat_len V.cs_len l
  have hsx : sliceCells h1.get 3 (some ⟨h.n + 1,0,none⟩) 1 = some v.cs := by rw [sliceCells_eq hgx (by simp [V.cs_len])]; rfl
  obtain ⟨⟨w,h5,lg⟩,e5,ob',p1,p2,p3,p4,p5⟩ := rApp_own (es := 3) (bytes := 32) (zero := [(.int .i64 0),(.int .i64 0),(.string ⟨#[]⟩)]) (n := l.length) (m := 1) (xc := 1) (new := v.cs) (q2.frame (h1 := h1) (by omega) fun b e => by subst e; exact hg1 b q2.1) hll (by omega) hsx rfl (by simp only [lim]; omega)
  simp only at p1 p2 p3 p4 p5
  subst p1
  have hle := p5.le
  have hob' : ∀ b,ob' = some b → b ≠ cb ∧ (F b ∨ h.n ≤ b) ∧ ¬ D b := fun b e => by
    rcases p3 with ⟨rfl,_⟩ | rfl
    · exact ⟨(q3 b e).1,.inl (q3 b e).2.1,(q3 b e).2.2⟩
    · cases e
      exact ⟨by omega,.inr (by omega),fun hd => by have := (q5 _ hd).2; omega⟩
  have hcb5 : h5.get cb = some (.cells [.int .i64 kd,slv ob l.length,m,.int .i64 nl] T_column_Column false) := by
    rw [p5.same cb (by omega) (fun hm => (q3 cb (p4 cb hm)).1 rfl),hg1 cb hc,q1]
  simp -implicitDefEqProofs only [↓jn3,↓wsD,wsP,Nat.reduceBEq,reduceCtorEq,logOf,Nat.reduceAdd,Nat.reduceLeDiff,Nat.reduceMul,co_slv,e5,hcb5]
  rw [dr_ws [false,false,false,false,false,false,false,true,false,false,true] (by kernel_rfl)]
  have hbox : h5.get h.n = some (.cells v.cs T_api_Value false) := by
    rw [p5.same h.n (by omega) (fun hm => by have := (q3 _ (p4 _ hm)); have h6 := p4 _ hm; subst h6; exact absurd q2.1 (by omega)),hgb]
  generalize hh6 : h5.set cb (.cells [.int .i64 kd,slv ob' (l.length + 1),m,.int .i64 nl] T_column_Column false) = h6
  have hn6 : h6.n = h5.n := by rw [← hh6]; rfl
  have hg6 : ∀ b,b ≠ cb → h6.get b = h5.get b := fun b hb => by rw [← hh6,H.get_set,if_neg hb]
  have hcb6 : colB h6 cb kd (slv ob' (l.length + 1)) m nl := by unfold colB; rw [← hh6,H.get_set,if_pos rfl]
  have hX : ColX h6 cb kd (l ++ [v]) P (fun b => F b ∨ h.n ≤ b) := by
    refine ⟨by omega,.inl o.fc,by simp; omega,ob',m,nl,D,?_,?_,hob',q4,fun b hd => ⟨.inl (q5 b hd).1,by have := (q5 b hd).2; omega⟩,q6.frame (by omega) fun b hb hd => ?_⟩
    · simpa using hcb6
    · have : (l ++ [v]).flatMap V.cs = l.flatMap V.cs ++ v.cs := by rw [List.flatMap_append]; simp
      rw [this]
      exact p2.frame (by omega) fun b e => hg6 b (hob' b e).1
    · rw [hg6 b (fun e => q4 (by rw [← e]; exact hd)),p5.same b (by omega) (fun hm => (q3 b (p4 b hm)).2.2 hd),hg1 b hb]
  have hgp : 0 ≤ getP P v.s ∧ getP P v.s < 1099511627776 := by
    have := cnt_le l v.s
    rw [(d.has hsP v.s).1]; omega
  obtain ⟨⟨w7,h7,lg7⟩,e7,r1,r2,r3⟩ := c_count hX (by have := d.len hsP; omega) v hgp
  simp only at r1 r2 r3
  simp -implicitDefEqProofs only [↓jn3,↓wsD,wsP,Nat.reduceBEq,reduceCtorEq,logOf,Nat.reduceAdd,Nat.reduceLeDiff,Nat.reduceMul,co_slv,wsF,hh6,hbox,Nat.ne_of_gt hc,e7]
  refine Rn_mut cb (by simp) hc fun k hk hm => ⟨rfl,fun x hx => ⟨?_,(hk x hx).2⟩,?_⟩
  · have h8 := hk x hx
    simp only [List.mem_append,List.mem_cons,List.not_mem_nil,or_false] at h8
    obtain ⟨h9,h10⟩ := h8
    rcases h9 with h9 | h9 | h9
    · exact (r2 x h9).1.resolve_right (by omega)
    · exact (q3 x (p4 x h9)).2.1
    · subst h9; exact o.fc
  · exact ⟨_,r3.mono fun b hb => by rcases hb with hb | hb; exact hb; exact .inr (by omega),r3.srt,d.add hsP (cnt_snoc l v)⟩
end Go.L1


namespace Go.L1
open Go Go.Proofs
theorem c_clen {h : H} {cb : Nat} {kd : Int} {l : List V} {F : Nat → Prop} (o : ColR h cb kd l F) : icP (.fn N_k93) [pt cb 0] h = some (.int .i64 l.length,h,[]) := by
  refine Rn.eq (Rn.up (fun _ => ic_k93 rfl _) ?_)
  unfold F_k93
  obtain ⟨P,o,hsP,d⟩ := o
  obtain ⟨ob,m,nl,D,q1,q2,q3,q4,q5,q6⟩ := o.blk
  unfold colB at q1
  have hl : rLenL (slv ob l.length) = some (.int .i64 l.length) := rLenL_slv fun e => by
    subst e
    have h3 : l.flatMap V.cs = [] := q2
    have := flat_len V.cs_len l
    rw [h3,List.length_nil] at this; omega
  simp -implicitDefEqProofs only [↓jn3,↓wsD,wsP,Nat.reduceBEq,reduceCtorEq,logOf,Nat.reduceAdd,Nat.reduceLeDiff,Nat.reduceMul,co_slv,wsF,q1,hl]
  exact Rn_low (by simp) rfl rfl
theorem vat {h : H} {ob : Option Nat} {l : List V} (o : own h T_api_Value ob (l.flatMap V.cs)) {i : Nat} {v : V} (hv : l[i]? = some v) :
    ∃ b J,ob = some b ∧ b < h.n ∧ h.get b = some (.cells (l.flatMap V.cs ++ J) T_api_Value false) ∧ rIdxS 3 (slv ob l.length) (.int .i64 (i : Int)) = some (pt b (i * 3)) ∧ i * 3 + 3 ≤ (l.flatMap V.cs ++ J).length ∧ ((l.flatMap V.cs ++ J).drop (i * 3)).take 3 = v.cs := by
  obtain ⟨hi,_⟩ := List.getElem?_eq_some_iff.1 hv
  cases ob with
  | none =>
    have h3 : l.flatMap V.cs = [] := o
    have := flat_len V.cs_len l
    rw [h3,List.length_nil] at this; omega
  | some b =>
    obtain ⟨hb,J,hg⟩ := o
    obtain ⟨r1,r2⟩ := flat_row V.cs_len hv J
    exact ⟨b,J,rfl,hb,hg,by simp [slv,rIdxS,idxN_nat,hi],r1,r2⟩
theorem c_at {h : H} {cb : Nat} {kd : Int} {l : List V} {F : Nat → Prop} (o : ColR h cb kd l F) {i : Nat} {v : V} (hv : l[i]? = some v) : icP (.fn N_k94) [pt cb 0,.int .i64 (i : Int)] h = some (.tuple [v.v,.bool true].toArray,h,[]) := by
  refine Rn.eq (Rn.up (fun _ => ic_k94 rfl _ _) ?_)
  unfold F_k94
  have hl := c_clen (o.frame (h1 := h.push (.cells [.int .i64 0,.int .i64 0,.string ⟨#[]⟩] T_api_Value false)) (by show h.n ≤ h.n + 1; omega) fun b hb _ => by rw [H.get_push,if_neg (by omega)])
  obtain ⟨P,o,hsP,d⟩ := o
  obtain ⟨ob,m,nl,D,q1,q2,q3,q4,q5,q6⟩ := o.blk
  unfold colB at q1
  obtain ⟨b,J,rfl,hb,hg,r0,r1,r2⟩ := vat q2 hv
  obtain ⟨hi,_⟩ := List.getElem?_eq_some_iff.1 hv
  have e1 : decide ((i : Int) < 0) = false := by simp
  have e2 : decide ((i : Int) ≥ l.length) = false := by simp; exact_mod_cast hi
  simp -implicitDefEqProofs only [↓jn3,↓wsD,wsP,Nat.reduceBEq,reduceCtorEq,logOf,Nat.reduceAdd,Nat.reduceLeDiff,Nat.reduceMul,co_slv,hl,e1,e2,q1,Nat.ne_of_lt o.lt,r0,hg,Nat.ne_of_lt hb,r1,r2,wsF]
  exact Rn_low (by simp) (bel_Vb _ _ _) rfl
theorem c_cwords {h : H} {cb : Nat} {kd : Int} {l : List V} {F : Nat → Prop} (o : ColR h cb kd l F) :
    Rn (icP (.fn N_k143) [pt cb 0] h) fun r => (∃ P : List Pr,Srt P ∧ DictOf P l ∧ r.1 = .int .i64 P.length) ∧ (∀ x ∈ r.2.2,F x ∧ x < h.n) ∧ ColR r.2.1 cb kd l (fun b => F b ∨ h.n ≤ b) := by
  refine Rn.up (fun _ => ic_k143 rfl _) ?_
  unfold F_k143
  obtain ⟨P,o,hsP,d⟩ := o
  obtain ⟨ob,m,nl,D,q1,q2,q3,q4,q5,q6⟩ := o.blk
  have hc := o.lt
  obtain ⟨⟨v,h1,lg⟩,e1,p1,p2⟩ := c_dlen hc q1 q6
  simp only at p1 p2
  subst p1
  have hst := icP_stp _ _ _ _ _ _ e1
  simp -implicitDefEqProofs only [↓jn3,↓wsD,wsP,Nat.reduceBEq,reduceCtorEq,logOf,Nat.reduceAdd,Nat.reduceLeDiff,Nat.reduceMul,co_slv,wsF,e1]
  rcases p2 with ⟨rfl,rfl⟩ | ⟨rfl,mb,p3,p4⟩
  · exact Rn_low (by simp) rfl ⟨⟨P,hsP,d,rfl⟩,by simp,P,o.mono fun _ => .inl,hsP,d⟩
  · rw [settle_hit hc]
    have hle := hst.le
    refine Rn.ret ⟨⟨P,hsP,d,rfl⟩,fun x hx => by simp at hx; subst hx; exact ⟨o.fc,hc⟩,P,⟨by simp only; omega,.inl o.fc,o.len,ob,pt mb 0,nl,fun b => (D b ∨ h.n ≤ b) ∧ b < h1.n,p3,q2.frame hle fun b e => ?_,fun b e => ⟨(q3 b e).1,.inl (q3 b e).2.1,fun hd => ?_⟩,fun hd => ?_,fun b hd => ⟨?_,hd.2⟩,.inr ⟨mb,rfl,p4.bd⟩⟩,hsP,d⟩
    · subst e
      exact hst.same b q2.1 (by simp; exact (q3 b rfl).1)
    · subst e
      have := q2.1
      rcases hd.1 with h | h
      · exact (q3 b rfl).2.2 h
      · omega
    · rcases hd.1 with h | h
      · exact q4 h
      · omega
    · rcases hd.1 with h | h
      · exact .inl (q5 b h).1
      · exact .inr h
theorem c_cnew (h : H) (kd : Int) (hk : kd = 1 ∨ kd = 2) : Rn (icP (.fn N_k118) [.int .i64 kd] h) fun r => r = (pt h.n 0,h.push (.cells [.int .i64 kd,.slice none 0 0,.pointer none,.int .i64 0] T_column_Column false),[]) ∧ ColR r.2.1 h.n kd [] (fun b => h.n ≤ b) := by
  refine Rn.up (fun _ => ic_k118 rfl _) ?_
  unfold F_k118
  have e1 : oBuild pgB T_column_Column [(0,.int .i64 kd)] = some (.agg #[.int .i64 kd,.slice none 0 0,.pointer none,.int .i64 0]) := by kernel_rfl
  have e2 : ∀ n,aBx n T_column_Column 4 (.agg #[.int .i64 kd,.slice none 0 0,.pointer none,.int .i64 0]) = some (pt n 0,.cells [.int .i64 kd,.slice none 0 0,.pointer none,.int .i64 0] T_column_Column false) := fun _ => rfl
  have e3 : settle h (pt h.n 0) (h.push (.cells [.int .i64 kd,.slice none 0 0,.pointer none,.int .i64 0] T_column_Column false)) [] = (pt h.n 0,h.push (.cells [.int .i64 kd,.slice none 0 0,.pointer none,.int .i64 0] T_column_Column false),[]) := by
    simp [settle,belowV]
  have fin : ColR (h.push (.cells [.int .i64 kd,.slice none 0 0,.pointer none,.int .i64 0] T_column_Column false)) h.n kd [] (fun b => h.n ≤ b) := by
    refine ⟨[],⟨by show h.n < h.n + 1; omega,Nat.le_refl _,by simp,none,.pointer none,0,fun _ => False,by unfold colB; rw [H.get_push,if_pos rfl]; rfl,rfl,fun b e => (by cases e),id,fun b h => h.elim,.inl ⟨rfl,rfl⟩⟩,List.Pairwise.nil,fun s n => by simp [cnt_nil]⟩
  rcases hk with rfl | rfl
  · simp -implicitDefEqProofs only [↓jn3,↓wsD,wsP,Nat.reduceBEq,reduceCtorEq,logOf,Nat.reduceAdd,Nat.reduceLeDiff,Nat.reduceMul,co_slv,wsF,e1,e2,Int.reduceBNe,tupled,e3]
    exact Rn.ret ⟨rfl,fin⟩
  · simp -implicitDefEqProofs only [↓jn3,↓wsD,wsP,Nat.reduceBEq,reduceCtorEq,logOf,Nat.reduceAdd,Nat.reduceLeDiff,Nat.reduceMul,co_slv,wsF,e1,e2,Int.reduceBNe,tupled,e3]
    exact Rn.ret ⟨rfl,fin⟩
theorem cnt_set {l : List V} {i : Nat} {w : V} (hw : l[i]? = some w) (v : V) (s : List UInt8) :
    cnt (l.set i v) s + (if w.k = 2 ∧ w.s = s then 1 else 0) = cnt l s + (if v.k = 2 ∧ v.s = s then 1 else 0) := by
  obtain ⟨hi,rfl⟩ := List.getElem?_eq_some_iff.1 hw
  have e1 : l = l.take i ++ l[i] :: l.drop (i + 1) := by
    rw [← List.drop_eq_getElem_cons hi,List.take_append_drop]
  have e2 : l.set i v = l.take i ++ v :: l.drop (i + 1) := by rw [List.set_eq_take_append_cons_drop,if_pos hi]
  have key : ∀ u : V,cnt (l.take i ++ u :: l.drop (i + 1)) s = cnt (l.take i) s + cnt (l.drop (i + 1)) s + if u.k = 2 ∧ u.s = s then 1 else 0 := by
    intro u
    unfold cnt
    rw [List.countP_append,List.countP_cons]
    by_cases h : u.k = 2 ∧ u.s = s
    · simp [h]; omega
    · have : (u.k == 2 && u.s == s) = false := by rw [Bool.eq_false_iff]; simpa using h
      rw [this,if_neg h]; simp
  have k1 := key v
  have k2 := key l[i]
  rw [← e1] at k2
  rw [e2]
  omega
end Go.L1


namespace Go.L1
open Go Go.Proofs
theorem cnt_mid {l : List V} {i : Nat} {w : V} (hw : l[i]? = some w) (s : List UInt8) : cnt l s = cnt (l.take i ++ l.drop (i + 1)) s + if w.k = 2 ∧ w.s = s then 1 else 0 := by
  obtain ⟨hi,rfl⟩ := List.getElem?_eq_some_iff.1 hw
  have e1 : l = l.take i ++ l[i] :: l.drop (i + 1) := by
    rw [← List.drop_eq_getElem_cons hi,List.take_append_drop]
  have : cnt l s = cnt (l.take i ++ l[i] :: l.drop (i + 1)) s := by rw [← e1]
  rw [this]
  unfold cnt
  rw [List.countP_append,List.countP_cons,List.countP_append]
  by_cases h : l[i].k = 2 ∧ l[i].s = s
  · simp [h]; omega
  · have : (l[i].k == 2 && l[i].s == s) = false := by rw [Bool.eq_false_iff]; simpa using h
    rw [this,if_neg h]; simp
theorem c_cset {h : H} {cb : Nat} {kd : Int} {l : List V} {F : Nat → Prop} (o : ColR h cb kd l F) {i : Nat} {w : V} (hw : l[i]? = some w) (v : V) (hm : mayC kd v = true) (hs : v.s.length < 1000) :
    Rn (icP (.fn N_k83) [pt cb 0,.int .i64 (i : Int),v.v] h) fun r => r.1 = .bool true ∧ (∀ x ∈ r.2.2,F x ∧ x < h.n) ∧ ColR r.2.1 cb kd (l.set i v) (fun b => F b ∨ h.n ≤ b) := by
  refine Rn.up (fun _ => ic_k83 rfl _ _ _) ?_
  unfold F_k83
  obtain ⟨P,o,hsP,d⟩ := o
  obtain ⟨ob,m,nl,D,q1,q2,q3,q4,q5,q6⟩ := o.blk
  have hc := o.lt
  have hc1 : cb ≠ h.n + 1 := by omega
  have hc2 : h.n + 1 ≠ cb := by omega
  have hlen := o.len
  obtain ⟨hi,_⟩ := List.getElem?_eq_some_iff.1 hw
  have hcm := c_cmay (h := h.push (.cells v.cs T_api_Value false)) (l := slv ob l.length) (m := m) (nl := nl) (kd := kd) (cb := cb) (by show cb < h.n + 1; omega) (by unfold colB; rw [H.get_push,if_neg (by omega)]; exact q1) v hs
  have q1' := q1
  unfold colB at q1
  rw [hm] at hcm
  obtain ⟨b,J,rfl,hb,hg,r0,r1,r2⟩ := vat q2 hw
  have hbc := (q3 b rfl).1
  have hb1 : b ≠ h.n + 1 := by omega
  have e1 : decide ((i : Int) < 0) = false := by simp
  have e2 : decide ((i : Int) ≥ l.length) = false := by simp; exact_mod_cast hi
  have rl : rLenL (slv (some b) l.length) = some (.int .i64 l.length) := rfl
  have hnn : ¬ h.n = h.n + 1 := by omega
  generalize hh1 : ((h.push (.cells v.cs T_api_Value false)).push (.cells [.int .i64 0,.int .i64 0,.string ⟨#[]⟩] T_api_Value false)).set (h.n + 1) (.cells w.cs T_api_Value false) = h1
  have hn1 : h1.n = h.n + 2 := by rw [← hh1]; rfl
  have hg1 : ∀ c,c < h.n → h1.get c = h.get c := fun c hc => by rw [← hh1,H.get_set,if_neg (by omega),H.get_push,if_neg (by show ¬ c = h.n + 1; omega),H.get_push,if_neg (by omega)]
  have hgv : h1.get h.n = some (.cells v.cs T_api_Value false) := by rw [← hh1,H.get_set,if_neg (by omega),H.get_push,if_neg (by show ¬ h.n = h.n + 1; omega),H.get_push,if_pos rfl]
  have hgw : h1.get (h.n + 1) = some (.cells w.cs T_api_Value false) := by rw [← hh1,H.get_set,if_pos rfl]
  have o1 : ColX h1 cb kd l P F := o.frame (by omega) fun c hc _ => hg1 c hc
  have hgp : 0 ≤ getP P w.s ∧ getP P w.s < 1099511627776 := by
    have := cnt_le l w.s
    rw [(d.has hsP w.s).1]; omega
  have hPl := d.len hsP
  have hcount : w.k = 2 → hasP P w.s = true := fun hk => (d.has hsP w.s).2.2 (cnt_pos.2 ⟨w,List.mem_of_getElem? hw,hk,rfl⟩)
  have e22 : ∀ s,cnt l s = cnt (l.take i ++ l.drop (i + 1)) s + if w.k = 2 ∧ w.s = s then 1 else 0 := cnt_mid hw
  have e23 : ∀ s,cnt (l.set i v) s = cnt (l.take i ++ l.drop (i + 1)) s + if v.k = 2 ∧ v.s = s then 1 else 0 := fun s => by
    have h1 := cnt_set hw v s
    have h2 := e22 s
    omega
  have dg := d.gone hsP e22
  have step2 : ∀ (h3 : H) (m3 : Value) (nl3 : Int),h1.n ≤ h3.n → h3.get h.n = some (.cells v.cs T_api_Value false) → ColX h3 cb kd l (goneP P w) (fun c => (F c ∧ c < h.n) ∨ h1.n ≤ c) → colB h3 cb kd (slv (some b) l.length) m3 nl3 →
      ∃ J3 h7 lg7,h3.get b = some (.cells (l.flatMap V.cs ++ J3) T_api_Value false) ∧ i * 3 + 3 ≤ (l.flatMap V.cs ++ J3).length ∧
        icP (.fn N_k108) [pt cb 0,v.v] (h3.set b (.cells (putAt (l.flatMap V.cs ++ J3) (i * 3) v.cs) T_api_Value false)) = some (.tuple #[],h7,lg7) ∧ (∀ x ∈ lg7,F x ∨ h.n ≤ x) ∧ ColR h7 cb kd (l.set i v) (fun c => F c ∨ h.n ≤ c) := by
    intro h3 m3 nl3 hle hv3 hX hcol
    obtain ⟨ob3,m4,nl4,D3,t1,t2,t3,t4,t5,t6⟩ := hX.blk
    have hbb : ob3 = some b := by
      unfold colB at t1 hcol
      rw [hcol] at t1
      cases ob3 with
      | none => simp [slv] at t1
      | some b3 => simp only [slv,Option.some.injEq,IObj.cells.injEq,List.cons.injEq,Value.slice.injEq,Addr.mk.injEq] at t1; rw [t1.1.2.1.1.1]
    subst hbb
    obtain ⟨b3,J3,e3,hb3,hg3,s0,s1,s2⟩ := vat t2 hw
    cases e3
    have hF3 := (t3 b rfl).2.1
    have hset := set_flat V.cs_len (a := v) hi J3
    generalize hh4 : h3.set b (.cells (putAt (l.flatMap V.cs ++ J3) (i * 3) v.cs) T_api_Value false) = h4
    have hg4 : ∀ c,c ≠ b → h4.get c = h3.get c := fun c hc => by rw [← hh4,H.get_set,if_neg hc]
    have hn4 : h4.n = h3.n := by rw [← hh4]; rfl
    have hX4 : ColX h4 cb kd (l.set i v) (goneP P w) (fun c => F c ∨ h.n ≤ c) := by
      have : ColX h4 cb kd (l.set i v) (goneP P w) (fun c => (F c ∧ c < h.n) ∨ h1.n ≤ c) := by
        refine ⟨by rw [hn4]; exact hX.lt,hX.fc,by simpa using hX.len,some b,m4,nl4,D3,?_,⟨by omega,J3,?_⟩,t3,t4,fun c hd => by rw [hn4]; exact t5 c hd,t6.frame (by omega) fun c hc hd => hg4 c fun e => (t3 b rfl).2.2 (by rw [← e]; exact hd)⟩
        · unfold colB
          rw [hg4 cb (Ne.symm (t3 b rfl).1),List.length_set]
          exact t1
        · rw [← hh4,H.get_set,if_pos rfl,hset]
      exact this.mono fun c hc => by rcases hc with hc | hc; exact .inl hc.1; exact .inr (by omega)
    have hsg := hX4.srt
    have hgp2 : 0 ≤ getP (goneP P w) v.s ∧ getP (goneP P w) v.s < 1099511627776 := by
      have := cnt_le (l.take i ++ l.drop (i + 1)) v.s
      have h9 : (l.take i ++ l.drop (i + 1)).length ≤ l.length := by simp; omega
      rw [(dg.has hsg v.s).1]; omega
    have hl9 : (goneP P w).length ≤ (l.take i ++ l.drop (i + 1)).length := dg.len hsg
    have h9 : (l.take i ++ l.drop (i + 1)).length ≤ l.length := by simp; omega
    obtain ⟨⟨u,h7,lg7⟩,e7,u1,u2,u3⟩ := c_count hX4 (by omega) v hgp2
    simp only at u1 u2 u3
    subst u1
    exact ⟨J3,h7,lg7,hg3,s1,by rw [hh4]; exact e7,fun x hx => (u2 x hx).1,_,u3.mono fun c hc => by rcases hc with hc | hc; exact hc; exact .inr (by omega),u3.srt,dg.add hsg e23⟩
  have fin : ∀ (h7 : H) (lg lg7 lg3 : List Nat),ColR h7 cb kd (l.set i v) (fun c => F c ∨ h.n ≤ c) → (∀ x ∈ lg7,F x ∨ h.n ≤ x) → (∀ x ∈ lg3,F x ∨ h.n ≤ x) → (∀ x ∈ lg,x ∈ lg7 ∨ x = b ∨ x ∈ lg3) → b ∈ lg →
      Rn (some (settle h (tupled [.bool true]) h7 lg)) fun r => r.1 = .bool true ∧ (∀ x ∈ r.2.2,F x ∧ x < h.n) ∧ ColR r.2.1 cb kd (l.set i v) (fun b => F b ∨ h.n ≤ b) := by
    intro h7 lg lg7 lg3 hR k1 k2 k4 hx
    refine Rn_mut b hx hb fun k hk hm => ⟨rfl,fun y hy => ?_,hR⟩
    obtain ⟨hy1,hy2⟩ := hk y hy
    refine ⟨?_,hy2⟩
    rcases k4 y hy1 with h | h | h
    · exact (k1 y h).resolve_right (by omega)
    · subst h; exact (q3 y rfl).2.1
    · exact (k2 y h).resolve_right (by omega)
  cases h0 : w.k == 0
  · cases h2 : w.k == 2
    · -- a number
      have hk : ¬ w.k = 2 := by simpa using h2
      obtain ⟨J3,h7,lg7,f1,f2,f3,f4,f5⟩ := step2 h1 m nl (Nat.le_refl _) hgv (by
        have : goneP P w = P := by unfold goneP; rw [if_neg hk]
        rw [this]
        exact (o.bd.frame (by omega) fun c hc _ => hg1 c hc).mono fun _ => .inl) (by unfold colB; rw [hg1 cb hc]; exact q1)
      simp -implicitDefEqProofs only [↓jn3,↓wsD,wsP,Nat.reduceBEq,reduceCtorEq,logOf,Nat.reduceAdd,Nat.reduceLeDiff,Nat.reduceMul,co_slv,hcm,e1,e2,q1,Nat.ne_of_lt hc,hc1,Nat.ne_of_lt hb,r0,hg,r1,r2,rl,hh1,hgw,h0,h2,hgv,hg1 cb hc,f1,f2]
      rw [dr_ws [false,false,false,false,false,false,false,true] (by kernel_rfl)]
      simp -implicitDefEqProofs only [↓jn3,↓wsD,wsP,Nat.reduceBEq,reduceCtorEq,logOf,Nat.reduceAdd,Nat.reduceLeDiff,Nat.reduceMul,co_slv,wsF,hgv,Nat.ne_of_gt hb,f3]
      exact fin _ _ lg7 [h.n + 1] f5 f4 (fun x hx => .inr (by simp at hx; omega)) (fun x hx => by simpa using hx) (by simp)
    · -- a text
      have hk : w.k = 2 := by simpa using h2
      obtain ⟨⟨u,h3,lg3⟩,e3,⟨bb,u1⟩,u2,u3,mb,u4,u5⟩ := c_take (h := h1) (l := slv (some b) l.length) (m := m) (nl := nl) (kd := kd) (P := P) (F := D) (cb := cb) (by omega) (by unfold colB; rw [hg1 cb hc]; exact q1) (q6.frame (by omega) fun c hc _ => hg1 c hc) q4 w.s (by omega) (hcount hk) hgp
      simp only at u1 u2 u3 u4 u5
      subst u1
      have hst := icP_stp _ _ _ _ _ _ e3
      have hle := hst.le
      have hD : ∀ x ∈ lg3,F x ∧ x < h.n := fun x hx => by
        rcases (u2 x hx).1 with rfl | h
        · exact ⟨o.fc,hc⟩
        · exact q5 x h
      have hv3 : h3.get h.n = some (.cells v.cs T_api_Value false) := by
        rw [hst.same h.n (by omega) (fun hm => by have := (hD _ hm).2; omega),hgv]
      have hb3 : h3.get b = h.get b := by
        rw [hst.same b (by omega) (fun hm => ?_),hg1 b hb]
        rcases (u2 b hm).1 with h | h
        · exact hbc h
        · exact (q3 b rfl).2.2 h
      obtain ⟨J3,h7,lg7,f1,f2,f3,f4,f5⟩ := step2 h3 (pt mb 0) nl hle hv3 (by
        have : goneP P w = takeP P w.s := by unfold goneP; rw [if_pos hk]
        rw [this]
        refine ⟨by omega,.inl ⟨o.fc,hc⟩,o.len,some b,pt mb 0,nl,fun c => (D c ∨ h1.n ≤ c) ∧ c < h3.n,u4,⟨by omega,J,by rw [hb3,hg]⟩,fun c e => ?_,fun hd => ?_,fun c hd => ⟨?_,hd.2⟩,.inr ⟨mb,rfl,u5.bd⟩⟩
        · cases e
          refine ⟨hbc,.inl ⟨(q3 b rfl).2.1,hb⟩,fun hd => ?_⟩
          rcases hd.1 with h | h
          · exact (q3 b rfl).2.2 h
          · omega
        · rcases hd.1 with h | h
          · exact q4 h
          · omega
        · rcases hd.1 with h | h
          · exact .inl (q5 c h)
          · exact .inr h) u4
      unfold colB at u4
      simp -implicitDefEqProofs only [↓jn3,↓wsD,wsP,Nat.reduceBEq,reduceCtorEq,logOf,Nat.reduceAdd,Nat.reduceLeDiff,Nat.reduceMul,co_slv,hcm,e1,e2,q1,Nat.ne_of_lt hc,hc1,Nat.ne_of_lt hb,r0,hg,r1,r2,rl,hh1,hgw,h0,h2,hgv,hg1 cb hc,e3]
      rw [dr_ws [false,false,false,false,false,true] (by kernel_rfl)]
      simp -implicitDefEqProofs only [↓jn3,↓wsD,wsP,Nat.reduceBEq,reduceCtorEq,logOf,Nat.reduceAdd,Nat.reduceLeDiff,Nat.reduceMul,co_slv,hv3,u4,f1,f2,r0]
      rw [dr_ws [false,false,false,false,false,false,false,true] (by kernel_rfl)]
      simp -implicitDefEqProofs only [↓jn3,↓wsD,wsP,Nat.reduceBEq,reduceCtorEq,logOf,Nat.reduceAdd,Nat.reduceLeDiff,Nat.reduceMul,co_slv,wsF,hv3,Nat.ne_of_gt hb,f3]
      exact fin _ _ lg7 (lg3 ++ [h.n + 1]) f5 f4 (fun x hx => by
        rcases List.mem_append.1 hx with hx | hx
        · exact .inl (hD x hx).1
        · exact .inr (by simp at hx; omega)) (fun x hx => by simpa using hx) (by simp)
  · -- nothing
    have hk : ¬ w.k = 2 := by
      have : w.k = 0 := by simpa using h0
      omega
    generalize hh3 : h1.set cb (.cells [.int .i64 kd,slv (some b) l.length,m,.int .i64 (IntKind.i64.wrap (nl - 1))] T_column_Column false) = h3
    have hg3 : ∀ c,c ≠ cb → h3.get c = h1.get c := fun c hc => by rw [← hh3,H.get_set,if_neg hc]
    have hn3 : h3.n = h1.n := by rw [← hh3]; rfl
    have hv3 : h3.get h.n = some (.cells v.cs T_api_Value false) := by rw [hg3 _ (by omega),hgv]
    have u4 : colB h3 cb kd (slv (some b) l.length) m (IntKind.i64.wrap (nl - 1)) := by unfold colB; rw [← hh3,H.get_set,if_pos rfl]
    obtain ⟨J3,h7,lg7,f1,f2,f3,f4,f5⟩ := step2 h3 m _ (by omega) hv3 (by
      have : goneP P w = P := by unfold goneP; rw [if_neg hk]
      rw [this]
      exact ⟨by omega,.inl ⟨o.fc,hc⟩,o.len,some b,m,_,D,u4,⟨by omega,J,by rw [hg3 b hbc,hg1 b hb,hg]⟩,fun c e => by cases e; exact ⟨hbc,.inl ⟨(q3 b rfl).2.1,hb⟩,(q3 b rfl).2.2⟩,q4,fun c hd => ⟨.inl (q5 c hd),by have := (q5 c hd).2; omega⟩,q6.frame (by omega) fun c hc hd => by rw [hg3 c (fun e => q4 (by rw [← e]; exact hd)),hg1 c hc]⟩) u4
    unfold colB at u4
    simp -implicitDefEqProofs only [↓jn3,↓wsD,wsP,Nat.reduceBEq,reduceCtorEq,logOf,Nat.reduceAdd,Nat.reduceLeDiff,Nat.reduceMul,co_slv,hcm,e1,e2,q1,Nat.ne_of_lt hc,hc1,Nat.ne_of_lt hb,r0,hg,r1,r2,rl,hh1,hgw,h0,hgv,hg1 cb hc,hh3,hv3,u4,f1,f2]
    rw [dr_ws [false,false,false,false,false,false,false,true] (by kernel_rfl)]
    simp -implicitDefEqProofs only [↓jn3,↓wsD,wsP,Nat.reduceBEq,reduceCtorEq,logOf,Nat.reduceAdd,Nat.reduceLeDiff,Nat.reduceMul,co_slv,wsF,hv3,Nat.ne_of_gt hb,f3]
    exact fin _ _ lg7 [cb,h.n + 1] f5 f4 (fun x hx => by
      simp only [List.mem_cons,List.not_mem_nil,or_false] at hx
      rcases hx with rfl | rfl
      · exact .inl o.fc
      · exact .inr (by omega)) (fun x hx => by simpa using hx) (by simp)
end Go.L1


namespace Go.L1
open Go Go.Proofs
def Sup (h h' : H) : Prop := h.n ≤ h'.n ∧ ∀ b,b < h.n → h'.get b = h.get b
theorem Sup.refl (h : H) : Sup h h := ⟨Nat.le_refl _,fun _ _ => rfl⟩
theorem Sup.push (h : H) (o : IObj) : Sup h (h.push o) := ⟨by show h.n ≤ h.n + 1; omega,fun b hb => by rw [H.get_push,if_neg (by omega)]⟩
theorem Sup.trans {h h1 h2 : H} (a : Sup h h1) (b : Sup h1 h2) : Sup h h2 := ⟨Nat.le_trans a.1 b.1,fun x hx => (b.2 x (Nat.lt_of_lt_of_le hx a.1)).trans (a.2 x hx)⟩
structure SrtD (h : H) (x cmp : Value) (n : Nat) (E : Nat → Value) (c : Nat → Nat → Int) : Prop where
  hx : ∃ a cap,x = .slice a n cap
  hn : n < 1000000
  ix : ∀ i,i < n → ∃ q,rIdxS 2 x (.int .i64 (i : Int)) = some q ∧ ∀ h',Sup h h' → rLdA h'.get 2 q = some (E i)
  run : ∀ h',Sup h h' → ∀ i j,i < n → j < n → callV icP h' cmp [E i,E j] = some (.int .i64 (c i j),h',[])
  mono : ∀ i j,j ≤ i → i < n → ¬ c i j < 0
theorem SrtD.sup {h h1 : H} {x cmp : Value} {n : Nat} {E : Nat → Value} {c : Nat → Nat → Int} (d : SrtD h x cmp n E c) (s : Sup h h1) : SrtD h1 x cmp n E c :=
  ⟨d.hx,d.hn,fun i hi => by obtain ⟨q,h1,h2⟩ := d.ix i hi; exact ⟨q,h1,fun h' s' => h2 h' (s.trans s')⟩,fun h' s' => d.run h' (s.trans s'),d.mono⟩
section
variable {h : H} {x cmp : Value} {n : Nat} {E : Nat → Value} {c : Nat → Nat → Int}
theorem c_order2 (d : SrtD h x cmp n E c) {a b : Nat} (hab : a ≤ b) (hb : b < n) (s : Value) : icP (.fn N_k203) [x,.int .i64 (a : Int),.int .i64 (b : Int),s,cmp] h = some (.tuple [.int .i64 (a : Int),.int .i64 (b : Int)].toArray,h,[]) := by
  refine Rn.eq (Rn.up (fun _ => ic_k203 rfl _ _ _ _ _) ?_)
  unfold F_k203
  obtain ⟨qa,a1,a2⟩ := d.ix a (by omega)
  obtain ⟨qb,b1,b2⟩ := d.ix b hb
  have hc : decide (c b a < 0) = false := by simpa using d.mono b a hab hb
  simp -implicitDefEqProofs only [↓jn3,↓wsD,wsP,Nat.reduceBEq,reduceCtorEq,logOf,Nat.reduceAdd,Nat.reduceLeDiff,Nat.reduceMul,co_slv,wsF,a1,b1,a2 h (Sup.refl h),b2 h (Sup.refl h),d.run h (Sup.refl h) b a hb (by omega),hc]
  exact Rn_low (by simp) rfl rfl
theorem c_median (d : SrtD h x cmp n E c) {i j k : Nat} (hij : i ≤ j) (hjk : j ≤ k) (hk : k < n) (s : Value) : icP (.fn N_k193) [x,.int .i64 (i : Int),.int .i64 (j : Int),.int .i64 (k : Int),s,cmp] h = some (.int .i64 (j : Int),h,[]) := by
  refine Rn.eq (Rn.up (fun _ => ic_k193 rfl _ _ _ _ _ _) ?_)
  unfold F_k193
  simp -implicitDefEqProofs only [↓jn3,↓wsD,wsP,Nat.reduceBEq,reduceCtorEq,logOf,Nat.reduceAdd,Nat.reduceLeDiff,Nat.reduceMul,co_slv,wsF,c_order2 d hij (show j < n by omega) s,c_order2 d hjk hk s]
  exact Rn_low (by simp) rfl rfl
theorem c_medadj (d : SrtD h x cmp n E c) {i : Nat} (hi : 1 ≤ i) (hk : i + 1 < n) (s : Value) : icP (.fn N_k192) [x,.int .i64 (i : Int),s,cmp] h = some (.int .i64 (i : Int),h,[]) := by
  refine Rn.eq (Rn.up (fun _ => ic_k192 rfl _ _ _ _) ?_)
  unfold F_k192
  have hn := d.hn
  have w1 : IntKind.i64.wrap ((i : Int) - 1) = ((i - 1 : Nat) : Int) := by rw [wrapI (by omega) (by omega)]; omega
  have w2 : IntKind.i64.wrap ((i : Int) + 1) = ((i + 1 : Nat) : Int) := by rw [wrapI (by omega) (by omega)]; rfl
  simp -implicitDefEqProofs only [↓jn3,↓wsD,wsP,Nat.reduceBEq,reduceCtorEq,logOf,Nat.reduceAdd,Nat.reduceLeDiff,Nat.reduceMul,co_slv,wsF,w1,w2,c_median d (show i - 1 ≤ i by omega) (show i ≤ i + 1 by omega) hk s]
  exact Rn_low (by simp) rfl rfl
theorem bI_quo {ty : Nat → Option TyI} (a b : Int) (h : b ≠ 0) : binV ty (tyD (.int .i64)) .quo (.int .i64 a) (.int .i64 b) = some (.int .i64 (IntKind.i64.wrap (a.tdiv b))) := by
  show (if b = 0 then none else some (Value.int .i64 (IntKind.i64.wrap (a.tdiv b)))) = _
  rw [if_neg h]
theorem bI_mul {ty : Nat → Option TyI} (a b : Int) : binV ty (tyD (.int .i64)) .mul (.int .i64 a) (.int .i64 b) = some (.int .i64 (IntKind.i64.wrap (a * b))) := rfl
theorem c_choose (d : SrtD h x cmp n E c) (hn8 : 12 < n) : ∃ j : Nat,icP (.fn N_k162) [x,.int .i64 0,.int .i64 (n : Int),cmp] h = some (.tuple [.int .i64 (j : Int),.int .i64 1].toArray,h,[]) := by
  refine ⟨n / 4 * 2,?_⟩
  refine Rn.eq (Rn.up (fun _ => ic_k162 rfl _ _ _ _) ?_)
  unfold F_k162
  have hn := d.hn
  have w0 : IntKind.i64.wrap ((n : Int) - 0) = (n : Int) := by rw [wrapI (by omega) (by omega)]; omega
  have w1 : IntKind.i64.wrap ((n : Int).tdiv 4) = ((n / 4 : Nat) : Int) := by
    rw [Int.tdiv_eq_ediv_of_nonneg (by omega),wrapI (by omega) (by omega)]; rfl
  have w2 : IntKind.i64.wrap (((n / 4 : Nat) : Int) * 1) = ((n / 4 : Nat) : Int) := by rw [wrapI (by omega) (by omega)]; omega
  have w3 : IntKind.i64.wrap (((n / 4 : Nat) : Int) * 2) = ((n / 4 * 2 : Nat) : Int) := by rw [wrapI (by omega) (by omega)]; rfl
  have w4 : IntKind.i64.wrap (((n / 4 : Nat) : Int) * 3) = ((n / 4 * 3 : Nat) : Int) := by rw [wrapI (by omega) (by omega)]; rfl
  have z1 : IntKind.i64.wrap (0 + ((n / 4 : Nat) : Int)) = ((n / 4 : Nat) : Int) := by rw [wrapI (by omega) (by omega)]; omega
  have z2 : IntKind.i64.wrap (0 + ((n / 4 * 2 : Nat) : Int)) = ((n / 4 * 2 : Nat) : Int) := by rw [wrapI (by omega) (by omega)]; omega
  have z3 : IntKind.i64.wrap (0 + ((n / 4 * 3 : Nat) : Int)) = ((n / 4 * 3 : Nat) : Int) := by rw [wrapI (by omega) (by omega)]; omega
  have g8 : decide ((n : Int) ≥ 8) = true := by simp; omega
  have s1 : Sup h (h.push (.cells [.int .i64 0] T_i64_b false)) := Sup.push _ _
  have d1 := d.sup s1
  have n4 : (4 : Int) ≠ 0 := by omega
  by_cases g : 50 ≤ n
  · have g5 : decide ((n : Int) ≥ 50) = true := by simp; omega
    simp -implicitDefEqProofs only [↓jn3,↓wsD,wsP,Nat.reduceBEq,reduceCtorEq,logOf,Nat.reduceAdd,Nat.reduceLeDiff,Nat.reduceMul,co_slv,wsF,bI_quo _ _ n4,bI_mul,w0,w1,w2,w3,w4,z1,z2,z3,g8,g5,c_medadj d1 (i := n / 4) (by omega) (by omega),c_medadj d1 (i := n / 4 * 2) (by omega) (by omega),c_medadj d1 (i := n / 4 * 3) (by omega) (by omega),
      c_median d1 (i := n / 4) (j := n / 4 * 2) (k := n / 4 * 3) (by omega) (by omega) (by omega)]
    exact Rn_low (by simp) rfl rfl
  · have g5 : decide ((n : Int) ≥ 50) = false := by simp; omega
    simp -implicitDefEqProofs only [↓jn3,↓wsD,wsP,Nat.reduceBEq,reduceCtorEq,logOf,Nat.reduceAdd,Nat.reduceLeDiff,Nat.reduceMul,co_slv,wsF,bI_quo _ _ n4,bI_mul,w0,w1,w2,w3,w4,z1,z2,z3,g8,g5,c_median d1 (i := n / 4) (j := n / 4 * 2) (k := n / 4 * 3) (by omega) (by omega) (by omega)]
    exact Rn_low (by simp) rfl rfl
end
end Go.L1


namespace Go.L1
open Go Go.Proofs
theorem lw_once {b : List Value → H → Option LOut} {vs : List Value} {h : H} {Q : LOut → Prop} (hb : Rn (b vs h) fun o => o.ex ≠ .normal ∧ Q o) : Rn (lw b vs h) Q := by
  obtain ⟨o,e,hx,q⟩ := hb
  exact ⟨o,lw_last e hx,q⟩
section
variable {h : H} {x cmp : Value} {n : Nat} {E : Nat → Value} {c : Nat → Nat → Int}
theorem c_partial (d : SrtD h x cmp n E c) (hn0 : 1 ≤ n) : icP (.fn N_k164) [x,.int .i64 0,.int .i64 (n : Int),cmp] h = some (.bool true,h,[]) := by
  refine Rn.eq (Rn.up (fun _ => ic_k164 rfl _ _ _ _) ?_)
  unfold F_k164
  have hn := d.hn
  have w1 : IntKind.i64.wrap ((0 : Int) + 1) = ((1 : Nat) : Int) := by rw [wrapI (by omega) (by omega)]; rfl
  simp -implicitDefEqProofs only [↓jn3,↓wsD,wsP,Nat.reduceBEq,reduceCtorEq,logOf,Nat.reduceAdd,Nat.reduceLeDiff,Nat.reduceMul,co_slv,w1]
  refine Rn_ob (P := fun o => o.lg = [] ∧ o.h = h ∧ o.ex = .ret ∧ nt o.vs 4 = .bool true) (lw_once ?_) fun o ⟨q1,q2,q3,q4⟩ => ?_
  · unfold F_k164_L122
    have e5 : decide ((0 : Int) < 5) = true := rfl
    simp -implicitDefEqProofs only [↓jn3,↓wsD,wsP,Nat.reduceBEq,reduceCtorEq,logOf,Nat.reduceAdd,Nat.reduceLeDiff,Nat.reduceMul,co_slv,e5]
    refine Rn_ob (lw_cnt (fun _ => False) n (fun i vs h' => h' = h ∧ 1 ≤ i ∧ ∃ J,vs = x :: .int .i64 0 :: .int .i64 n :: cmp :: .bool false :: .int .i64 i :: .int .i64 0 :: J)
      (fun ex vs h' => h' = h ∧ ex = .exit 2 ∧ ∃ J,vs = x :: .int .i64 0 :: .int .i64 n :: cmp :: .bool false :: .int .i64 n :: .int .i64 0 :: J)
      (fun i vs h' hi hI => ?_) (fun vs h' hI => ?_) hn0 ⟨rfl,Nat.le_refl _,_,rfl⟩) fun o ⟨hlo,e1,e2,J,hJ⟩ => ?_
    · obtain ⟨rfl,hi1,J,rfl⟩ := hI
      unfold F_k164_L7824
      obtain ⟨qa,a1,a2⟩ := d.ix i hi
      obtain ⟨qb,b1,b2⟩ := d.ix (i - 1) (by omega)
      have hlt : decide ((i : Int) < n) = true := by simpa using hi
      have w2 : IntKind.i64.wrap ((i : Int) - 1) = ((i - 1 : Nat) : Int) := by rw [wrapI (by omega) (by omega)]; omega
      have w3 : IntKind.i64.wrap ((i : Int) + 1) = ((i + 1 : Nat) : Int) := by rw [wrapI (by omega) (by omega)]; rfl
      have hc : decide (c i (i - 1) < 0) = false := by simpa using d.mono i (i - 1) (by omega) hi
      simp -implicitDefEqProofs only [↓jn3,↓wsD,wsP,Nat.reduceBEq,reduceCtorEq,logOf,Nat.reduceAdd,Nat.reduceLeDiff,Nat.reduceMul,co_slv,hlt,w2,w3,a1,b1,a2 h' (Sup.refl h'),b2 h' (Sup.refl h'),d.run h' (Sup.refl h') i (i - 1) hi (by omega),hc]
      exact Rn.ret ⟨fun _ h => by simp at h,.inl ⟨rfl,rfl,by first | trivial | omega,_,rfl⟩⟩
    · obtain ⟨rfl,hi1,J,rfl⟩ := hI
      unfold F_k164_L7824
      simp -implicitDefEqProofs only [↓jn3,↓wsD,wsP,Nat.reduceBEq,reduceCtorEq,logOf,Nat.reduceAdd,Nat.reduceLeDiff,Nat.reduceMul,co_slv,Int.lt_irrefl,decide_false]
      exact Rn.ret ⟨fun _ h => by simp at h,by simp,rfl,rfl,_,rfl⟩
    · obtain ⟨ex,vs,h1,lg⟩ := o
      simp only at hlo e1 e2 hJ
      subst e1 e2 hJ
      have : lg = [] := List.eq_nil_iff_forall_not_mem.2 hlo
      subst this
      simp -implicitDefEqProofs only [↓jn3,↓wsD,wsP,Nat.reduceBEq,reduceCtorEq,logOf,Nat.reduceAdd,Nat.reduceLeDiff,Nat.reduceMul,co_slv,Nat.reduceBEq]
      exact Rn.ret ⟨by simp,rfl,rfl,rfl,rfl⟩
  · obtain ⟨ex,vs,h1,lg⟩ := o
    simp only at q1 q2 q3 q4
    subst q1 q2 q3
    simp -implicitDefEqProofs only [↓jn3,↓wsD,wsP,Nat.reduceBEq,reduceCtorEq,logOf,Nat.reduceAdd,Nat.reduceLeDiff,Nat.reduceMul,co_slv,wsF,q4]
    exact Rn_low (by simp) rfl rfl
theorem c_insertion (d : SrtD h x cmp n E c) : icP (.fn N_k159) [x,.int .i64 0,.int .i64 (n : Int),cmp] h = some (.tuple #[],h,[]) := by
  refine Rn.eq (Rn.up (fun _ => ic_k159 rfl _ _ _ _) ?_)
  unfold F_k159
  have hn := d.hn
  have w1 : IntKind.i64.wrap ((0 : Int) + 1) = ((1 : Nat) : Int) := by rw [wrapI (by omega) (by omega)]; rfl
  simp -implicitDefEqProofs only [↓jn3,↓wsD,wsP,Nat.reduceBEq,reduceCtorEq,logOf,Nat.reduceAdd,Nat.reduceLeDiff,Nat.reduceMul,co_slv,w1]
  refine Rn_ob (lw_cnt (fun _ => False) (max n 1) (fun i vs h' => h' = h ∧ 1 ≤ i ∧ ∃ J,vs = x :: .int .i64 0 :: .int .i64 n :: cmp :: .int .i64 i :: J)
      (fun ex vs h' => h' = h ∧ ex = .exit 0)
      (fun i vs h' hi hI => ?_) (fun vs h' hI => ?_) (Nat.le_max_right _ _) ⟨rfl,Nat.le_refl _,_,rfl⟩) fun o ⟨hlo,e1,e2⟩ => ?_
  · obtain ⟨rfl,hi1,J,rfl⟩ := hI
    have hi : i < n := by omega
    unfold F_k159_L14
    have hlt : decide ((i : Int) < n) = true := by simpa using hi
    have w3 : IntKind.i64.wrap ((i : Int) + 1) = ((i + 1 : Nat) : Int) := by rw [wrapI (by omega) (by omega)]; rfl
    simp -implicitDefEqProofs only [↓jn3,↓wsD,wsP,Nat.reduceBEq,reduceCtorEq,logOf,Nat.reduceAdd,Nat.reduceLeDiff,Nat.reduceMul,co_slv,hlt]
    refine Rn_ob (P := fun o => o.lg = [] ∧ o.h = h' ∧ o.ex = .exit 2 ∧ ∃ J,o.vs = x :: .int .i64 0 :: .int .i64 n :: cmp :: .int .i64 i :: J) (lw_once ?_) fun o ⟨q1,q2,q3,J,q4⟩ => ?_
    · unfold F_k159_L914
      obtain ⟨qa,a1,a2⟩ := d.ix i hi
      obtain ⟨qb,b1,b2⟩ := d.ix (i - 1) (by omega)
      have hgt : decide ((i : Int) > 0) = true := by simp; omega
      have w2 : IntKind.i64.wrap ((i : Int) - 1) = ((i - 1 : Nat) : Int) := by rw [wrapI (by omega) (by omega)]; omega
      have hc : decide (c i (i - 1) < 0) = false := by simpa using d.mono i (i - 1) (by omega) hi
      simp -implicitDefEqProofs only [↓jn3,↓wsD,wsP,Nat.reduceBEq,reduceCtorEq,logOf,Nat.reduceAdd,Nat.reduceLeDiff,Nat.reduceMul,co_slv,hgt,w2,a1,b1,a2 h' (Sup.refl h'),b2 h' (Sup.refl h'),d.run h' (Sup.refl h') i (i - 1) hi (by omega),hc]
      exact Rn.ret ⟨by simp,rfl,rfl,rfl,_,rfl⟩
    · obtain ⟨ex,vs,h1,lg⟩ := o
      simp only at q1 q2 q3 q4
      subst q1 q2 q3 q4
      simp -implicitDefEqProofs only [↓jn3,↓wsD,wsP,Nat.reduceBEq,reduceCtorEq,logOf,Nat.reduceAdd,Nat.reduceLeDiff,Nat.reduceMul,co_slv,w3,Nat.reduceBEq]
      exact Rn.ret ⟨fun _ h => by simp at h,.inl ⟨rfl,rfl,by first | trivial | omega,_,rfl⟩⟩
  · obtain ⟨rfl,hi1,J,rfl⟩ := hI
    unfold F_k159_L14
    have hlt : decide (((max n 1 : Nat) : Int) < n) = false := by simp; omega
    simp -implicitDefEqProofs only [↓jn3,↓wsD,wsP,Nat.reduceBEq,reduceCtorEq,logOf,Nat.reduceAdd,Nat.reduceLeDiff,Nat.reduceMul,co_slv,hlt]
    exact Rn.ret ⟨fun _ h => by simp at h,by simp,rfl,rfl⟩
  · obtain ⟨ex,vs,h1,lg⟩ := o
    simp only at hlo e1 e2
    subst e1 e2
    have : lg = [] := List.eq_nil_iff_forall_not_mem.2 hlo
    subst this
    simp -implicitDefEqProofs only [↓jn3,↓wsD,wsP,Nat.reduceBEq,reduceCtorEq,logOf,Nat.reduceAdd,Nat.reduceLeDiff,Nat.reduceMul,co_slv,wsF,Nat.reduceBEq]
    exact Rn_low (by simp) rfl rfl
theorem c_pdq (d : SrtD h x cmp n E c) (lim : Int) (hl : 12 < n → lim ≠ 0) : icP (.fn N_k140) [x,.int .i64 0,.int .i64 (n : Int),.int .i64 lim,cmp] h = some (.tuple #[],h,[]) := by
  refine Rn.eq (Rn.up (fun _ => ic_k140 rfl _ _ _ _ _) ?_)
  unfold F_k140
  have hn := d.hn
  simp -implicitDefEqProofs only [↓jn3,↓wsD,wsP,Nat.reduceBEq,reduceCtorEq,logOf,Nat.reduceAdd,Nat.reduceLeDiff,Nat.reduceMul,co_slv]
  refine Rn_ob (P := fun o => o.lg = [] ∧ o.h = h ∧ o.ex = .ret) (lw_once ?_) fun o ⟨q1,q2,q3⟩ => ?_
  · unfold F_k140_L30
    have w0 : IntKind.i64.wrap ((n : Int) - 0) = (n : Int) := by rw [wrapI (by omega) (by omega)]; omega
    by_cases g : n ≤ 12
    · have hle : decide ((n : Int) ≤ 12) = true := by simp; omega
      simp -implicitDefEqProofs only [↓jn3,↓wsD,wsP,Nat.reduceBEq,reduceCtorEq,logOf,Nat.reduceAdd,Nat.reduceLeDiff,Nat.reduceMul,co_slv,w0,hle,c_insertion d]
      exact Rn.ret ⟨by simp,rfl,rfl,rfl⟩
    · have hle : decide ((n : Int) ≤ 12) = false := by simp; omega
      have hz : (lim == 0) = false := by simpa using hl (by omega)
      obtain ⟨j,hj⟩ := c_choose d (by omega)
      have e12 : ((1 : Int) == 2) = false := rfl
      have e11 : ((1 : Int) == 1) = true := rfl
      simp -implicitDefEqProofs only [↓jn3,↓wsD,wsP,Nat.reduceBEq,reduceCtorEq,logOf,Nat.reduceAdd,Nat.reduceLeDiff,Nat.reduceMul,co_slv,w0,hle,hz,hj,e12,e11,c_partial d (by omega)]
      exact Rn.ret ⟨by simp,rfl,rfl,rfl⟩
  · obtain ⟨ex,vs,h1,lg⟩ := o
    simp only at q1 q2 q3
    subst q1 q2 q3
    simp -implicitDefEqProofs only [↓jn3,↓wsD,wsP,Nat.reduceBEq,reduceCtorEq,logOf,Nat.reduceAdd,Nat.reduceLeDiff,Nat.reduceMul,co_slv,wsF]
    exact Rn_low (by simp) rfl rfl
end
end Go.L1


set_option maxRecDepth 100000
namespace Go.L1
open Go Go.Proofs
theorem tab_rn {a : Array UInt8} {n : Nat} (hn : n < 256) (hs : ((List.range 256).all fun i => (a.toList[i]?).any fun b => decide (i ≤ 12) || b != 0) = true) :
    Rn (rIxStr (.string ⟨a⟩) (.int .u8 (n : Int))) fun v => ∃ l : Nat,v = .int .u8 l ∧ l < 256 ∧ (12 < n → l ≠ 0) := by
  have h1 := List.all_eq_true.1 hs n (List.mem_range.2 hn)
  cases hb : a.toList[n]? with
  | none => rw [hb] at h1; cases h1
  | some b =>
    rw [hb] at h1
    refine ⟨.int .u8 b.toNat,by simp [rIxStr,rIdxStr,idxN_nat,hb],b.toNat,rfl,b.toNat_lt,fun h e => ?_⟩
    simp only [Option.any_some,Bool.or_eq_true,decide_eq_true_eq,bne_iff_ne] at h1
    rcases h1 with h1 | h1
    · omega
    · exact h1 (by rw [← UInt8.toNat_inj]; exact e)
theorem bU64_geq {ty : Nat → Option TyI} (a b : Int) : binV ty (tyD (.int .u64)) .geq (.int .u64 a) (.int .u64 b) = some (.bool (decide (a ≥ b))) := rfl
theorem c_len64 {n : Nat} (hn : n < 256) (h : H) : ∃ l : Nat,icP (.fn N_k168) [.int .u64 (n : Int)] h = some (.int .i64 (l : Int),h,[]) ∧ (12 < n → l ≠ 0) := by
  have : Rn (icP (.fn N_k168) [.int .u64 (n : Int)] h) fun r => ∃ l : Nat,r = (.int .i64 (l : Int),h,[]) ∧ (12 < n → l ≠ 0) := by
    refine Rn.up (fun _ => ic_k168 rfl _) ?_
    unfold F_k168
    have g1 : decide ((n : Int) ≥ 4294967296) = false := by simp; omega
    have g2 : decide ((n : Int) ≥ 65536) = false := by simp; omega
    have g3 : decide ((n : Int) ≥ 256) = false := by simp; omega
    have cv : rCvI .u8 (.int .u64 (n : Int)) = some (.int .u8 (n : Int)) := by
      simp only [rCvI]
      have : IntKind.u8.wrap (n : Int) = n := by simp only [IntKind.wrap,IntKind.bits,IntKind.signed]; simp; omega
      rw [this]
    simp -implicitDefEqProofs only [↓jn3,↓wsD,wsP,Nat.reduceBEq,reduceCtorEq,logOf,Nat.reduceAdd,Nat.reduceLeDiff,Nat.reduceMul,co_slv,bU64_geq,g1,g2,g3,cv]
    refine Rn_ob (tab_rn hn (by kernel_rfl)) fun v ⟨l,hv,hl,hz⟩ => ?_
    subst hv
    have w : IntKind.i64.wrap (0 + (l : Int)) = (l : Int) := by rw [wrapI (by omega) (by omega)]; omega
    have cv2 : rCvI .i64 (.int .u8 (l : Int)) = some (.int .i64 (l : Int)) := by simp only [rCvI]; rw [wrapI (by omega) (by omega)]
    simp -implicitDefEqProofs only [↓jn3,↓wsD,wsP,Nat.reduceBEq,reduceCtorEq,logOf,Nat.reduceAdd,Nat.reduceLeDiff,Nat.reduceMul,co_slv,wsF,cv2,w]
    exact Rn_low (by simp) rfl ⟨l,rfl,hz⟩
  obtain ⟨r,e,l,rfl,hz⟩ := this
  exact ⟨l,e,hz⟩
theorem c_len {n : Nat} (hn : n < 256) (h : H) : ∃ l : Nat,icP (.fn N_k141) [.int .u64 (n : Int)] h = some (.int .i64 (l : Int),h,[]) ∧ (12 < n → l ≠ 0) := by
  obtain ⟨l,e,hz⟩ := c_len64 hn h
  refine ⟨l,?_,hz⟩
  refine Rn.eq (Rn.up (fun _ => ic_k141 rfl _) ?_)
  unfold F_k141
  simp -implicitDefEqProofs only [↓jn3,↓wsD,wsP,Nat.reduceBEq,reduceCtorEq,logOf,Nat.reduceAdd,Nat.reduceLeDiff,Nat.reduceMul,co_slv,wsF,e]
  exact Rn_low (by simp) rfl rfl
theorem c_sortf {h : H} {x cmp : Value} {n : Nat} {E : Nat → Value} {c : Nat → Nat → Int} (d : SrtD h x cmp n E c) (hn : n < 256) : icP (.fn N_k110) [x,cmp] h = some (.tuple #[],h,[]) := by
  refine Rn.eq (Rn.up (fun _ => ic_k110 rfl _ _) ?_)
  unfold F_k110
  obtain ⟨l,e,hz⟩ := c_len hn h
  obtain ⟨a,cap,hx⟩ := d.hx
  have hp := c_pdq d l (fun h => by have := hz h; omega)
  rw [hx] at hp ⊢
  have cv : rCvI .u64 (.int .i64 (n : Int)) = some (.int .u64 (n : Int)) := by
    simp only [rCvI,IntKind.wrap_u64]
    congr 2
    omega
  simp -implicitDefEqProofs only [↓jn3,↓wsD,wsP,Nat.reduceBEq,reduceCtorEq,logOf,Nat.reduceAdd,Nat.reduceLeDiff,Nat.reduceMul,co_slv,wsF,cv,e,hp]
  exact Rn_low (by simp) rfl rfl
abbrev Sp := Nat × Nat
def sc1 (p : Sp) : List Value := [.int .i64 (p.1 : Int),.int .i64 (p.2 : Int)]
theorem sc1_len (p : Sp) : (sc1 p).length = 2 := rfl
def addS (S : List Sp) (f t : Nat) : List Sp := match S.getLast? with
  | some (a,b) => if f ≤ b then S.dropLast ++ [(a,max b t)] else if f < t then S ++ [(f,t)] else S
  | none => if f < t then [(f,t)] else []
theorem rIdxA_0 (b o : Nat) : rIdxA 2 1 (.pointer (some ⟨b,o,none⟩)) (.int .i64 0) = some (.pointer (some ⟨b,o,none⟩)) := rfl
theorem rIdxA_1 (b o : Nat) : rIdxA 2 1 (.pointer (some ⟨b,o,none⟩)) (.int .i64 1) = some (.pointer (some ⟨b,o + 1,none⟩)) := rfl
theorem max_i (a b : Int) : foldMM true (.int .i64 a) [.int .i64 b] = some (.int .i64 (if b > a then b else a)) := rfl
theorem min_i (a b : Int) : foldMM false (.int .i64 a) [.int .i64 b] = some (.int .i64 (if b < a then b else a)) := rfl
theorem settle_nil {h : H} : settle h (.tuple #[]) h [] = (.tuple #[],h,[]) := rfl
theorem c_badd {h : H} {vb : Nat} {ob : Option Nat} {S : List Sp} {f t : Nat} (hv : vb < h.n) (hg : h.get vb = some (.cells [slv ob S.length] T_bitmap_Map false)) (ho : own h T_A2i64 ob (S.flatMap sc1)) (hob : ob ≠ some vb) (hlen : S.length < 100000) :
    Rn (icP (.fn N_k112) [pt vb 0,.int .i64 (f : Int),.int .i64 (t : Int)] h) fun r => r.1 = .tuple #[] ∧ (∀ x ∈ r.2.2,x = vb ∨ ob = some x) ∧
      ∃ ob',r.2.1.get vb = some (.cells [slv ob' (addS S f t).length] T_bitmap_Map false) ∧ own r.2.1 T_A2i64 ob' ((addS S f t).flatMap sc1) ∧ (ob' = ob ∨ ∃ b,ob' = some b ∧ h.n ≤ b) := by
  refine Rn.up (fun _ => ic_k112 rfl _ _ _) ?_
  unfold F_k112
  have hl2 := flat_len sc1_len S
  have hnl : rLenL (slv ob S.length) = some (.int .i64 S.length) := rLenL_slv fun e => by
    subst e
    have h3 : S.flatMap sc1 = [] := ho
    rw [h3,List.length_nil] at hl2; omega
  -- laid behind
  have app : f < t → S ≠ [] ∨ S = [] → ∃ h5 lg ob',rApp (h.push (.cells [.int .i64 (f : Int),.int .i64 (t : Int)] T_A2i64 false)) T_A2i64 2 16 [(.int .i64 0),(.int .i64 0)] (slv ob S.length) (.slice (some ⟨h.n,0,none⟩) 1 1) = some (slv ob' (S.length + 1),h5,lg) ∧
      (∀ x ∈ lg,ob = some x) ∧ h.n < h5.n ∧ h5.get vb = some (.cells [slv ob S.length] T_bitmap_Map false) ∧ ob' ≠ some vb ∧ own h5 T_A2i64 ob' ((S ++ [(f,t)]).flatMap sc1) ∧ (ob' = ob ∨ ∃ b,ob' = some b ∧ h.n ≤ b) := by
    intro _ _
    generalize hh1 : h.push (.cells [.int .i64 (f : Int),.int .i64 (t : Int)] T_A2i64 false) = h1
    have hn1 : h1.n = h.n + 1 := by rw [← hh1]; rfl
    have hg1 : ∀ b,b < h.n → h1.get b = h.get b := fun b hb => by rw [← hh1,H.get_push,if_neg (by omega)]
    have hgx : h1.get h.n = some (.cells [.int .i64 (f : Int),.int .i64 (t : Int)] T_A2i64 false) := by rw [← hh1,H.get_push,if_pos rfl]
    have hsx : sliceCells h1.get 2 (some ⟨h.n,0,none⟩) 1 = some [.int .i64 (f : Int),.int .i64 (t : Int)] := by rw [sliceCells_eq hgx (by simp)]; rfl
    obtain ⟨⟨w,h5,lg⟩,e5,ob',p1,p2,p3,p4,p5⟩ := rApp_own (es := 2) (bytes := 16) (zero := [(.int .i64 0),(.int .i64 0)]) (n := S.length) (m := 1) (xc := 1) (new := [.int .i64 (f : Int),.int .i64 (t : Int)]) (ho.frame (h1 := h1) (by omega) fun b e => by subst e; exact hg1 b ho.1) hl2 (by omega) hsx rfl (by simp only [lim]; omega)
    simp only at p1 p2 p3 p4 p5
    subst p1
    have hle := p5.le
    refine ⟨h5,lg,ob',e5,p4,by omega,?_,?_,?_,?_⟩
    · rw [p5.same vb (by omega) (fun hm => hob (p4 vb hm)),hg1 vb hv,hg]
    · rcases p3 with ⟨rfl,_⟩ | rfl
      · exact hob
      · intro e; cases e; omega
    · have : (S ++ [(f,t)]).flatMap sc1 = S.flatMap sc1 ++ [.int .i64 (f : Int),.int .i64 (t : Int)] := by rw [List.flatMap_append]; rfl
      rw [this]; exact p2
    · rcases p3 with ⟨rfl,_⟩ | rfl
      · exact .inl rfl
      · exact .inr ⟨_,rfl,by omega⟩
  have e1 : oBuild pgB T_A2i64 [(0,.int .i64 (f : Int)),(1,.int .i64 (t : Int))] = some (.agg #[.int .i64 (f : Int),.int .i64 (t : Int)]) := by kernel_rfl
  have e2 : ∀ k,aBuildS pgB k T_LA2i64 1 [(0,.agg #[.int .i64 (f : Int),.int .i64 (t : Int)])] = some (.slice (some ⟨k,0,none⟩) 1 1,.cells [.int .i64 (f : Int),.int .i64 (t : Int)] T_A2i64 false) := fun _ => by kernel_rfl
  have last : ∀ {S' : List Sp} {h6 : H} {lg : List Nat} {ob' : Option Nat},addS S f t = S' → vb ∈ lg ∨ (∃ b,ob = some b ∧ b ∈ lg) → (∀ x ∈ lg,x = vb ∨ ob = some x) → h6.get vb = some (.cells [slv ob' S'.length] T_bitmap_Map false) → own h6 T_A2i64 ob' (S'.flatMap sc1) → (ob' = ob ∨ ∃ b,ob' = some b ∧ h.n ≤ b) →
      Rn (some (settle h (tupled []) h6 lg)) fun r => r.1 = .tuple #[] ∧ (∀ x ∈ r.2.2,x = vb ∨ ob = some x) ∧
        ∃ ob',r.2.1.get vb = some (.cells [slv ob' (addS S f t).length] T_bitmap_Map false) ∧ own r.2.1 T_A2i64 ob' ((addS S f t).flatMap sc1) ∧ (ob' = ob ∨ ∃ b,ob' = some b ∧ h.n ≤ b) := by
    intro S' h6 lg ob' hS hx hl g1 g2 g3
    subst hS
    have : ∃ x ∈ lg,x < h.n := by
      rcases hx with hx | ⟨b,rfl,hx⟩
      · exact ⟨vb,hx,hv⟩
      · exact ⟨b,hx,ho.1⟩
    obtain ⟨x,hx,hxn⟩ := this
    exact Rn_mut x hx hxn fun k hk hm => ⟨rfl,fun y hy => hl y (hk y hy).1,ob',g1,g2,g3⟩
  rcases List.eq_nil_or_concat S with rfl | ⟨S0,⟨a,b⟩,rfl⟩
  · have hgt : decide (((([] : List Sp).length : Nat) : Int) > 0) = false := rfl
    by_cases hft : f < t
    · obtain ⟨h5,lg,ob',e5,k1,k2,k3,k4,k5,k6⟩ := app hft (.inr rfl)
      have hlt : decide ((f : Int) < t) = true := by simpa using hft
      have hS : addS [] f t = [(f,t)] := by simp [addS,hft]
      simp only [List.length_nil,Nat.zero_add] at hgt hg hnl e5 k3
      simp -implicitDefEqProofs only [↓jn3,↓wsD,wsP,Nat.reduceBEq,reduceCtorEq,logOf,Nat.reduceAdd,Nat.reduceLeDiff,Nat.reduceMul,co_slv,hg,hnl,hgt,hlt,e1,e2,e5,k3,Nat.ne_of_lt hv,wsF]
      refine last hS (.inl (by simp)) (fun x hx => ?_) (by rw [H.get_set,if_pos rfl]; rfl) (k5.frame (by exact Nat.le_refl _) fun b e => ?_) k6
      · simp only [List.mem_append,List.mem_cons,List.not_mem_nil,or_false] at hx
        rcases hx with rfl | hx
        · exact .inl rfl
        · exact .inr (k1 x hx)
      · rw [H.get_set,if_neg (fun e2 => k4 (by rw [e,e2]))]
    · have hlt : decide ((f : Int) < t) = false := by simpa using hft
      have hS : addS [] f t = [] := by simp [addS,hft]
      simp only [List.length_nil] at hgt hg hnl
      simp -implicitDefEqProofs only [↓jn3,↓wsD,wsP,Nat.reduceBEq,reduceCtorEq,logOf,Nat.reduceAdd,Nat.reduceLeDiff,Nat.reduceMul,co_slv,hg,hnl,hgt,hlt,wsF]
      refine Rn_low (by simp) rfl ⟨rfl,by simp,ob,?_,?_,.inl rfl⟩
      · rw [hS]; exact hg
      · rw [hS]; exact ho
  · rw [List.concat_eq_append] at *
    have hSl : (S0 ++ [(a,b)]).length = S0.length + 1 := by simp
    have hgt : decide (((S0.length + 1 : Nat) : Int) > 0) = true := by rw [decide_eq_true_eq]; omega
    have hlast : (S0 ++ [(a,b)])[S0.length]? = some (a,b) := by simp
    cases ob with
    | none =>
      have h3 : (S0 ++ [(a,b)]).flatMap sc1 = [] := ho
      rw [h3,List.length_nil,hSl] at hl2; omega
    | some q =>
    obtain ⟨hq,J,hJ⟩ := ho
    have hqv : q ≠ vb := fun e => hob (by rw [e])
    obtain ⟨r1,r2⟩ := flat_row sc1_len hlast J
    have r3 := flat_cell (j := 1) sc1_len hlast (by omega) J
    have ix : rIdxS 2 (slv (some q) (S0.length + 1)) (.int .i64 ((S0.length : Nat) : Int)) = some (pt q (S0.length * 2)) := by simp [slv,rIdxS,idxN_nat]
    have w1 : IntKind.i64.wrap (((S0.length + 1 : Nat) : Int) - 1) = ((S0.length : Nat) : Int) := by
      rw [hSl] at hlen
      rw [wrapI (by omega) (by omega)]; omega
    have r4 : (sc1 (a,b))[1]? = some (.int .i64 (b : Int)) := rfl
    rw [hSl] at hg hnl
    have hSa : addS (S0 ++ [(a,b)]) f t = if f ≤ b then S0 ++ [(a,max b t)] else if f < t then S0 ++ [(a,b)] ++ [(f,t)] else S0 ++ [(a,b)] := by
      simp only [addS,List.getLast?_concat,List.dropLast_concat]
    by_cases hfb : f ≤ b
    · have hle : decide ((f : Int) ≤ b) = true := by simpa using hfb
      rw [if_pos hfb] at hSa
      have hm : (if (t : Int) > b then (t : Int) else b) = ((max b t : Nat) : Int) := by split <;> omega
      have hcl : S0.length * 2 + 1 + 1 ≤ ((S0 ++ [(a,b)]).flatMap sc1 ++ J).length := by omega
      have hpt : putAt ((S0 ++ [(a,b)]).flatMap sc1 ++ J) (S0.length * 2 + 1) [.int .i64 ((max b t : Nat) : Int)] = (S0 ++ [(a,max b t)]).flatMap sc1 ++ J := by
        have e0 := flat_len sc1_len S0
        rw [List.flatMap_append,List.flatMap_append]
        have e1 : S0.flatMap sc1 ++ [(a,b)].flatMap sc1 ++ J = (S0.flatMap sc1 ++ [.int .i64 (a : Int)]) ++ (.int .i64 (b : Int) :: J) := by simp [sc1]
        rw [e1,putAt_app (by rw [List.length_append,e0]; rfl)]
        simp [sc1]
      simp -implicitDefEqProofs only [↓jn3,↓wsD,wsP,Nat.reduceBEq,reduceCtorEq,logOf,Nat.reduceAdd,Nat.reduceLeDiff,Nat.reduceMul,co_slv,hg,hnl,hgt,w1,ix,rIdxA_1,hJ,r3,r4,hle,max_i,hm,hcl,hpt]
      rw [dr_ws [false,false,false,false,false,false,false,false,false,false,false,false,false,false,false,false,false,false,false,true] (by kernel_rfl)]
      simp -implicitDefEqProofs only [↓jn3,↓wsD,wsP,Nat.reduceBEq,reduceCtorEq,logOf,Nat.reduceAdd,Nat.reduceLeDiff,Nat.reduceMul,co_slv,wsF]
      refine last (ob' := some q) hSa (.inr ⟨q,rfl,by simp⟩) (fun x hx => .inr ?_) ?_ ⟨hq,J,?_⟩ (.inl rfl)
      · simp at hx; rw [hx]
      · rw [H.get_set,if_neg (Ne.symm hqv),hg]
        simp
      · show (h.set q _).get q = _
        rw [H.get_set,if_pos rfl]
    · have hle : decide ((f : Int) ≤ b) = false := by simpa using hfb
      rw [if_neg hfb] at hSa
      by_cases hft : f < t
      · rw [if_pos hft] at hSa
        obtain ⟨h5,lg,ob',e5,k1,k2,k3,k4,k5,k6⟩ := app hft (.inl (by simp))
        have hlt : decide ((f : Int) < t) = true := by simpa using hft
        rw [hSl] at e5 k3
        simp -implicitDefEqProofs only [↓jn3,↓wsD,wsP,Nat.reduceBEq,reduceCtorEq,logOf,Nat.reduceAdd,Nat.reduceLeDiff,Nat.reduceMul,co_slv,hg,hnl,hgt,w1,ix,rIdxA_1,hJ,r3,r4,hle,hlt,e1,e2,e5,k3,Nat.ne_of_lt hv,wsF]
        refine last hSa (.inl (by simp)) (fun x hx => ?_) (by rw [H.get_set,if_pos rfl]; simp) (k5.frame (by exact Nat.le_refl _) fun b e => ?_) k6
        · simp only [List.mem_append,List.mem_cons,List.not_mem_nil,or_false] at hx
          rcases hx with rfl | hx
          · exact .inl rfl
          · exact .inr (k1 x hx)
        · rw [H.get_set,if_neg (fun e2 => k4 (by rw [e,e2]))]
      · rw [if_neg hft] at hSa
        have hlt : decide ((f : Int) < t) = false := by simpa using hft
        simp -implicitDefEqProofs only [↓jn3,↓wsD,wsP,Nat.reduceBEq,reduceCtorEq,logOf,Nat.reduceAdd,Nat.reduceLeDiff,Nat.reduceMul,co_slv,hg,hnl,hgt,w1,ix,rIdxA_1,hJ,r3,r4,hle,hlt,wsF]
        refine Rn_low (by simp) rfl ⟨rfl,by simp,some q,?_,?_,.inl rfl⟩
        · rw [hSa,hSl]; exact hg
        · rw [hSa]; exact ⟨hq,J,hJ⟩
end Go.L1


set_option maxRecDepth 100000
namespace Go.L1
open Go Go.Proofs
def Rd (h : H) (es : Nat) (x : Value) (n : Nat) (cs : List Value) (F : Nat → Prop) : Prop := cs.length = n * es ∧ ∃ a c,x = .slice a n c ∧
  ((n = 0 ∧ ∀ ad,a = some ad → ad.block < h.n) ∨ ∃ b o vs ty ro,a = some ⟨b,o,none⟩ ∧ b < h.n ∧ F b ∧ h.get b = some (.cells vs ty ro) ∧ o + n * es ≤ vs.length ∧ (vs.drop o).take (n * es) = cs)
theorem Rd.frame {h h1 : H} {es n : Nat} {x : Value} {cs : List Value} {F : Nat → Prop} (r : Rd h es x n cs F) (hn : h.n ≤ h1.n) (hf : ∀ b,b < h.n → F b → h1.get b = h.get b) : Rd h1 es x n cs F := by
  obtain ⟨hl,a,c,hx,r⟩ := r
  refine ⟨hl,a,c,hx,r.imp (fun h => ⟨h.1,fun ad e => Nat.lt_of_lt_of_le (h.2 ad e) hn⟩) ?_⟩
  rintro ⟨b,o,vs,ty,ro,ha,hb,hF,hg,h2,h3⟩
  exact ⟨b,o,vs,ty,ro,ha,by omega,hF,by rw [hf b hb hF,hg],h2,h3⟩
theorem Rd.mono {h : H} {es n : Nat} {x : Value} {cs : List Value} {F F' : Nat → Prop} (r : Rd h es x n cs F) (hf : ∀ b,b < h.n → F b → F' b) : Rd h es x n cs F' := by
  obtain ⟨hl,a,c,hx,r⟩ := r
  refine ⟨hl,a,c,hx,r.imp id ?_⟩
  rintro ⟨b,o,vs,ty,ro,ha,hb,hF,h2⟩
  exact ⟨b,o,vs,ty,ro,ha,hb,hf b hb hF,h2⟩
theorem Rd.sup {h h1 : H} {es n : Nat} {x : Value} {cs : List Value} {F : Nat → Prop} (r : Rd h es x n cs F) (s : Sup h h1) : Rd h1 es x n cs F := r.frame s.1 fun b hb _ => s.2 b hb
theorem Rd.len {h : H} {es n : Nat} {x : Value} {cs : List Value} {F : Nat → Prop} (r : Rd h es x n cs F) : rLenL x = some (.int .i64 n) := by
  obtain ⟨hl,a,c,rfl,r⟩ := r
  rfl
theorem Rd.cells {h : H} {es n : Nat} {x : Value} {cs : List Value} {F : Nat → Prop} (r : Rd h es x n cs F) : ∃ a c,x = .slice a n c ∧ sliceCells h.get es a n = some cs := by
  obtain ⟨hl,a,c,rfl,r⟩ := r
  refine ⟨a,c,rfl,?_⟩
  rcases r with ⟨rfl,_⟩ | ⟨b,o,vs,ty,ro,rfl,hb,hF,hg,h2,h3⟩
  · have : cs = [] := List.length_eq_zero_iff.1 (by simpa using hl)
    subst this
    simp [sliceCells]
  · rw [sliceCells_eq hg h2,h3]
theorem own.rd {h : H} {e es n : Nat} {ob : Option Nat} {cs : List Value} {F : Nat → Prop} (o : own h e ob cs) (hl : cs.length = n * es) (hes : es ≠ 0) (hF : ∀ b,ob = some b → F b) : Rd h es (slv ob n) n cs F := by
  refine ⟨hl,?_⟩
  cases ob with
  | none =>
    have h3 : cs = [] := o
    subst h3
    have : n = 0 := by
      rcases Nat.mul_eq_zero.1 hl.symm with h | h
      · exact h
      · exact absurd h hes
    subst this
    exact ⟨none,0,rfl,.inl ⟨rfl,by simp⟩⟩
  | some b =>
    obtain ⟨hb,J,hg⟩ := o
    exact ⟨_,_,rfl,.inr ⟨b,0,_,_,_,rfl,hb,hF b rfl,hg,by rw [List.length_append]; omega,by rw [List.drop_zero,← hl,List.take_left]⟩⟩
theorem Rd.bel {h : H} {es n : Nat} {x : Value} {cs : List Value} {F : Nat → Prop} (r : Rd h es x n cs F) (d : Nat) : belowV h.n (d + 1) x = true := by
  obtain ⟨hl,a,c,rfl,r⟩ := r
  cases a with
  | none => rfl
  | some ad =>
    rcases r with ⟨_,h1⟩ | ⟨b,o,vs,ty,ro,e,hb,_⟩
    · simpa [belowV] using h1 ad rfl
    · cases e; simpa [belowV] using hb
theorem Rd.elt {h : H} {es n : Nat} {x : Value} {cs : List Value} {F : Nat → Prop} (r : Rd h es x n cs F) {i : Nat} (hi : i < n) :
    ∃ b o,rIdxS es x (.int .i64 (i : Int)) = some (pt b o) ∧ b < h.n ∧ F b ∧ (∀ h' : H,h'.get b = h.get b → rLdA h'.get es (pt b o) = some (.agg ((cs.drop (i * es)).take es).toArray) ∧ ∀ j,j < es → rLd1 h'.get (pt b (o + j)) = cs[i * es + j]?) := by
  obtain ⟨hl,a,c,rfl,r⟩ := r
  rcases r with ⟨rfl,_⟩ | ⟨b,o,vs,ty,ro,rfl,hb,hF,hg,h2,h3⟩
  · omega
  · have hm : i * es + es ≤ n * es := by rw [← Nat.succ_mul]; exact Nat.mul_le_mul_right _ hi
    refine ⟨b,o + i * es,by simp [rIdxS,idxN_nat,hi],hb,hF,fun h' hg' => ⟨?_,fun j hj => ?_⟩⟩
    · rw [rLdA_u,hg',hg,cO_c]
      simp only [Option.bind_some]
      rw [if_pos (by omega),← h3,List.drop_take,List.take_take,List.drop_drop]
      congr 4
      omega
    · rw [rLd1_u,hg',hg,cO_c]
      simp only [Option.bind_some]
      rw [← h3,List.getElem?_take,if_pos (by omega),List.getElem?_drop]
      congr 1
      omega
def BmR (h : H) (x : Value) (S : List Sp) (F : Nat → Prop) : Prop := ∃ v,x = .agg #[v] ∧ Rd h 2 v S.length (S.flatMap sc1) F
theorem BmR.frame {h h1 : H} {x : Value} {S : List Sp} {F : Nat → Prop} (r : BmR h x S F) (hn : h.n ≤ h1.n) (hf : ∀ b,b < h.n → F b → h1.get b = h.get b) : BmR h1 x S F := by
  obtain ⟨v,hx,r⟩ := r
  exact ⟨v,hx,r.frame hn hf⟩
theorem BmR.sup {h h1 : H} {x : Value} {S : List Sp} {F : Nat → Prop} (r : BmR h x S F) (s : Sup h h1) : BmR h1 x S F := r.frame s.1 fun b hb _ => s.2 b hb
theorem Rd.span {h : H} {x : Value} {S : List Sp} {F : Nat → Prop} (r : Rd h 2 x S.length (S.flatMap sc1) F) {i : Nat} {p : Sp} (hp : S[i]? = some p) :
    ∃ b o,rIdxS 2 x (.int .i64 (i : Int)) = some (pt b o) ∧ b < h.n ∧ F b ∧ ∀ h' : H,h'.get b = h.get b → rLdA h'.get 2 (pt b o) = some (.agg (sc1 p).toArray) := by
  obtain ⟨hi,_⟩ := List.getElem?_eq_some_iff.1 hp
  obtain ⟨b,o,e,hb,hF,k⟩ := r.elt hi
  refine ⟨b,o,e,hb,hF,fun h' hg => ?_⟩
  rw [(k h' hg).1]
  have := (flat_row sc1_len hp []).2
  rw [List.append_nil] at this
  rw [this]
theorem bL_eql {ty : Nat → Option TyI} (a : Option Addr) (n c : Nat) : binV ty (tyD (.slice 0)) .eql (.slice a n c) (.slice none 0 0) = some (.bool a.isNone) := by cases a <;> rfl
theorem settle_fresh {h h1 : H} {v : Value} {lg : List Nat} (hl : ∀ x ∈ lg,h.n ≤ x) : settle h v h1 lg = (v,h1,[]) ∨ settle h v h1 lg = (v,h,[]) ∧ belowV h.n 4 v = true := by
  have e : lg.filter (· < h.n) = [] := by
    rw [List.filter_eq_nil_iff]
    intro x hx
    have := hl x hx
    simp only [decide_eq_true_eq]
    omega
  simp only [settle,e,List.isEmpty_nil,Bool.true_and]
  split
  · exact .inr ⟨rfl,by assumption⟩
  · exact .inl rfl
theorem Rn_bm {h h1 : H} {ob : Option Nat} {S : List Sp} {lg : List Nat} (hl : ∀ x ∈ lg,h.n ≤ x) (o : own h1 T_A2i64 ob (S.flatMap sc1)) (hf : ∀ b,ob = some b → h.n ≤ b) :
    Rn (some (settle h (.agg #[slv ob S.length]) h1 lg)) fun r => r.2.2 = [] ∧ BmR r.2.1 r.1 S (fun b => h.n ≤ b) := by
  refine ⟨_,rfl,?_⟩
  rcases settle_fresh (h1 := h1) (v := .agg #[slv ob S.length]) hl with e | ⟨e,hb⟩
  · rw [e]
    exact ⟨rfl,_,rfl,o.rd (flat_len sc1_len S) (by omega) hf⟩
  · rw [e]
    refine ⟨rfl,_,rfl,?_⟩
    have : ob = none := by
      cases ob with
      | none => rfl
      | some b =>
        have := hf b rfl
        simp [belowV,slv] at hb
        omega
    subst this
    exact (own.rd (h := h) (e := T_A2i64) (show own h T_A2i64 none (S.flatMap sc1) from o) (flat_len sc1_len S) (by omega) hf)
theorem rApp_new {h : H} {b e es bytes : Nat} {zero : List Value} {xa : Option Addr} {m xc : Nat} {new : List Value} (hb : h.get b = some (.cells [] e false)) (hx : sliceCells h.get es xa m = some new) (hm : m ≠ 0) (hlim : m * (bytes + es + 1) ≤ lim) :
    rApp h e es bytes zero (.slice (some ⟨b,0,none⟩) 0 0) (.slice xa m xc) = some (slv (some h.n) m,h.push (.cells new e false),[]) := by
  unfold rApp
  have h0 : sliceCells h.get es (some ⟨b,0,none⟩) 0 = some [] := by simp [sliceCells]
  have hu : ¬ (0 : Nat) = uc := by simp [uc]
  have hm2 : ¬ m ≤ 0 := by omega
  simp only [hx,Option.map_some,Option.bind_some,Option.bind,rAppend,tyO,Nat.zero_add,if_pos hlim,if_neg hm,hb,if_neg hu,if_neg hm2,h0,List.nil_append,slv]
theorem rApp_new0 {h : H} {b e es bytes : Nat} {zero : List Value} {xa : Option Addr} {xc : Nat} :
    rApp h e es bytes zero (.slice (some ⟨b,0,none⟩) 0 0) (.slice xa 0 xc) = some (.slice (some ⟨b,0,none⟩) 0 0,h,[]) := by
  unfold rApp
  simp [sliceCells,rAppend,lim]
theorem c_clone1 {h : H} {ab : Nat} {i : Int} (ha : ab < h.n) (hg : h.get ab = some (.cells [.int .i64 i] T_i64_b false)) :
    icP (.fn N_k113) [.slice (some ⟨ab,0,none⟩) 1 1] h = some (slv (some (h.n + 1)) 1,(h.push (.cells [] T_i64_b false)).push (.cells [.int .i64 i] T_i64_b false),[]) := by
  refine Rn.eq (Rn.up (fun _ => ic_k113 rfl _) ?_)
  unfold F_k113
  have e1 : ∀ k,aBuildS pgB k T_Li64 0 [] = some (.slice (some ⟨k,0,none⟩) 0 0,.cells [] T_i64_b false) := fun _ => by kernel_rfl
  simp -implicitDefEqProofs only [↓jn3,↓wsD,wsP,Nat.reduceBEq,reduceCtorEq,logOf,Nat.reduceAdd,Nat.reduceLeDiff,Nat.reduceMul,co_slv,bL_eql,e1]
  have hg2 : (h.push (.cells [] T_i64_b false)).get ab = some (.cells [.int .i64 i] T_i64_b false) := by rw [H.get_push,if_neg (by omega),hg]
  have hsx : sliceCells (h.push (.cells [] T_i64_b false)).get 1 (some ⟨ab,0,none⟩) 1 = some [.int .i64 i] := by rw [sliceCells_eq hg2 (by simp)]; rfl
  have hap := rApp_new (es := 1) (bytes := 8) (zero := [(.int .i64 0)]) (xc := 1) (h := h.push (.cells [] T_i64_b false)) (b := h.n) (e := T_i64_b) (by rw [H.get_push,if_pos rfl]) hsx (by omega) (by simp [lim])
  simp -implicitDefEqProofs only [↓jn3,↓wsD,wsP,Nat.reduceBEq,reduceCtorEq,logOf,Nat.reduceAdd,Nat.reduceLeDiff,Nat.reduceMul,co_slv,wsF,hap,rsT_slv]
  refine ⟨_,rfl,?_⟩
  have hn : (h.push (.cells [] T_i64_b false)).n = h.n + 1 := rfl
  have : belowV h.n 4 (tupled [slv (some (h.n + 1)) 1]) = false := by simp [tupled,belowV,slv]
  simp only [settle,hn,this,List.filter_nil,List.isEmpty_nil,Bool.true_and,Bool.false_eq_true,if_false]; rfl
theorem c_sort1 {h : H} {b : Nat} {i : Int} (hg : h.get b = some (.cells [.int .i64 i] T_i64_b false)) : icP (.fn N_k114) [slv (some b) 1] h = some (.tuple #[],h,[]) := by
  have e3 : icP (.fn N_k169) [slv (some b) 1,.int .i64 0,.int .i64 1] h = some (.tuple #[],h,[]) := by
    refine Rn.eq (Rn.up (fun _ => ic_k169 rfl _ _ _) ?_)
    unfold F_k169
    have w1 : IntKind.i64.wrap ((0 : Int) + 1) = 1 := by rw [wrapI (by omega) (by omega)]; rfl
    simp -implicitDefEqProofs only [↓jn3,↓wsD,wsP,Nat.reduceBEq,reduceCtorEq,logOf,Nat.reduceAdd,Nat.reduceLeDiff,Nat.reduceMul,co_slv,w1]
    refine Rn_ob (P := fun o => o.lg = [] ∧ o.h = h ∧ o.ex = .exit 0) (lw_once ?_) fun o ⟨q1,q2,q3⟩ => ?_
    · unfold F_k169_L14
      have e : decide ((1 : Int) < 1) = false := rfl
      simp -implicitDefEqProofs only [↓jn3,↓wsD,wsP,Nat.reduceBEq,reduceCtorEq,logOf,Nat.reduceAdd,Nat.reduceLeDiff,Nat.reduceMul,co_slv,e]
      exact Rn.ret ⟨by simp,rfl,rfl,rfl⟩
    · obtain ⟨ex,vs,h1,lg⟩ := o
      simp only at q1 q2 q3
      subst q1 q2 q3
      simp -implicitDefEqProofs only [↓jn3,↓wsD,wsP,Nat.reduceBEq,reduceCtorEq,logOf,Nat.reduceAdd,Nat.reduceLeDiff,Nat.reduceMul,co_slv,wsF,Nat.reduceBEq]
      exact Rn_low (by simp) rfl rfl
  have e2 : ∀ l : Nat,icP (.fn N_k142) [slv (some b) 1,.int .i64 0,.int .i64 1,.int .i64 (l : Int)] h = some (.tuple #[],h,[]) := by
    intro l
    refine Rn.eq (Rn.up (fun _ => ic_k142 rfl _ _ _ _) ?_)
    unfold F_k142
    simp -implicitDefEqProofs only [↓jn3,↓wsD,wsP,Nat.reduceBEq,reduceCtorEq,logOf,Nat.reduceAdd,Nat.reduceLeDiff,Nat.reduceMul,co_slv]
    refine Rn_ob (P := fun o => o.lg = [] ∧ o.h = h ∧ o.ex = .ret) (lw_once ?_) fun o ⟨q1,q2,q3⟩ => ?_
    · unfold F_k142_L30
      have w0 : IntKind.i64.wrap ((1 : Int) - 0) = 1 := by rw [wrapI (by omega) (by omega)]; rfl
      have e : decide ((1 : Int) ≤ 12) = true := rfl
      simp -implicitDefEqProofs only [↓jn3,↓wsD,wsP,Nat.reduceBEq,reduceCtorEq,logOf,Nat.reduceAdd,Nat.reduceLeDiff,Nat.reduceMul,co_slv,w0,e,e3]
      exact Rn.ret ⟨by simp,rfl,rfl,rfl⟩
    · obtain ⟨ex,vs,h1,lg⟩ := o
      simp only at q1 q2 q3
      subst q1 q2 q3
      simp -implicitDefEqProofs only [↓jn3,↓wsD,wsP,Nat.reduceBEq,reduceCtorEq,logOf,Nat.reduceAdd,Nat.reduceLeDiff,Nat.reduceMul,co_slv,wsF]
      exact Rn_low (by simp) rfl rfl
  refine Rn.eq (Rn.up (fun _ => ic_k114 rfl _) ?_)
  unfold F_k114
  obtain ⟨l,e1,_⟩ := c_len (n := 1) (by omega) h
  have cv : rCvI .u64 (.int .i64 ((1 : Nat) : Int)) = some (.int .u64 ((1 : Nat) : Int)) := by
    simp only [rCvI,IntKind.wrap_u64]; rfl
  have hl : rLenL (slv (some b) 1) = some (.int .i64 ((1 : Nat) : Int)) := rfl
  simp -implicitDefEqProofs only [↓jn3,↓wsD,wsP,Nat.reduceBEq,reduceCtorEq,logOf,Nat.reduceAdd,Nat.reduceLeDiff,Nat.reduceMul,co_slv,wsF,hl,cv,e1]
  have e4 := e2 l
  have : (((1 : Nat) : Int)) = 1 := rfl
  simp -implicitDefEqProofs only [↓jn3,↓wsD,wsP,Nat.reduceBEq,reduceCtorEq,logOf,Nat.reduceAdd,Nat.reduceLeDiff,Nat.reduceMul,co_slv,wsF,this,e4]
  exact Rn_low (by simp) rfl rfl
end Go.L1


set_option maxRecDepth 100000
namespace Go.L1
open Go Go.Proofs
theorem addS_nil (f t : Nat) (h : f < t) : addS [] f t = [(f,t)] := by simp [addS,h]
theorem agg_slv (ob : Option Nat) (n : Nat) : isCell (slv ob n) = true := by cases ob <;> rfl
theorem co_agg1 (ob : Option Nat) (n : Nat) : cellsOf (.agg [slv ob n].toArray) = some [slv ob n] := by cases ob <;> rfl
theorem c_of1 {h : H} {ab i : Nat} (ha : ab < h.n) (hg : h.get ab = some (.cells [.int .i64 (i : Int)] T_i64_b false)) (hi : i < 65536) :
    Rn (icP (.fn N_k76) [.slice (some ⟨ab,0,none⟩) 1 1] h) fun r => r.2.2 = [] ∧ BmR r.2.1 r.1 [(i,i + 1)] (fun b => h.n ≤ b) := by
  refine Rn.up (fun _ => ic_k76 rfl _) ?_
  unfold F_k76
  have e1 := c_clone1 (h := h.push (.cells [.slice none 0 0] T_bitmap_Map false)) (ab := ab) (i := i) (by show ab < h.n + 1; omega) (by rw [H.get_push,if_neg (by omega),hg])
  have n1 : (h.push (.cells [.slice none 0 0] T_bitmap_Map false)).n = h.n + 1 := rfl
  rw [n1] at e1
  generalize hh3 : ((h.push (.cells [.slice none 0 0] T_bitmap_Map false)).push (.cells [] T_i64_b false)).push (.cells [.int .i64 (i : Int)] T_i64_b false) = h3 at e1
  have n3 : h3.n = h.n + 3 := by rw [← hh3]; rfl
  have g3 : h3.get (h.n + 1 + 1) = some (.cells [.int .i64 (i : Int)] T_i64_b false) := by rw [← hh3,H.get_push,if_pos (by rfl)]
  have g30 : h3.get h.n = some (.cells [.slice none 0 0] T_bitmap_Map false) := by
    rw [← hh3,H.get_push,if_neg (by show ¬ h.n = h.n + 2; omega),H.get_push,if_neg (by show ¬ h.n = h.n + 1; omega),H.get_push,if_pos rfl]
  have e2 := c_sort1 g3
  simp -implicitDefEqProofs only [↓jn3,↓wsD,wsP,Nat.reduceBEq,reduceCtorEq,logOf,Nat.reduceAdd,Nat.reduceLeDiff,Nat.reduceMul,co_slv,e1,e2]
  have hl : rLenL (slv (some (h.n + 1 + 1)) 1) = some (.int .i64 1) := rfl
  simp -implicitDefEqProofs only [↓jn3,↓wsD,wsP,Nat.reduceBEq,reduceCtorEq,logOf,Nat.reduceAdd,Nat.reduceLeDiff,Nat.reduceMul,co_slv,hl,n3]
  generalize hh9 : h3.push (.cells [.slice none 0 0] T_bitmap_Map false) = h9
  have n9 : h9.n = h.n + 4 := by rw [← hh9]; show h3.n + 1 = _; omega
  have g9v : h9.get (h.n + 3) = some (.cells [.slice none 0 0] T_bitmap_Map false) := by rw [← hh9,H.get_push,if_pos n3.symm]
  have g90 : h9.get h.n = some (.cells [.slice none 0 0] T_bitmap_Map false) := by rw [← hh9,H.get_push,if_neg (by omega),g30]
  have g9x : h9.get (h.n + 1 + 1) = some (.cells [.int .i64 (i : Int)] T_i64_b false) := by rw [← hh9,H.get_push,if_neg (by omega),g3]
  refine Rn_ob (lw_cnt (fun x => h.n ≤ x) 1 (fun k vs h' => (k = 0 → h' = h9) ∧ (k = 1 → Sup h h' ∧ h.n < h'.n ∧ (∃ z,h'.get h.n = some (.cells [z] T_bitmap_Map false)) ∧ ∃ ob,h'.get (h.n + 3) = some (.cells [slv ob 1] T_bitmap_Map false) ∧ own h' T_A2i64 ob ([(i,i + 1)].flatMap sc1) ∧ ob ≠ some h.n ∧ ∀ b,ob = some b → h.n ≤ b) ∧
      ∃ J,vs = pt h.n 0 :: pt (h.n + 3) 0 :: slv (some (h.n + 1 + 1)) 1 :: .int .i64 1 :: .int .i64 (k : Int) :: J)
    (fun ex vs h' => ex = .exit 0 ∧ Sup h h' ∧ h.n < h'.n ∧ (∃ z,h'.get h.n = some (.cells [z] T_bitmap_Map false)) ∧ (∃ ob,h'.get (h.n + 3) = some (.cells [slv ob 1] T_bitmap_Map false) ∧ own h' T_A2i64 ob ([(i,i + 1)].flatMap sc1) ∧ ob ≠ some h.n ∧ ∀ b,ob = some b → h.n ≤ b) ∧ nt vs 0 = pt h.n 0 ∧ nt vs 1 = pt (h.n + 3) 0)
    (fun k vs h' hk hI => ?_) (fun vs h' hI => ?_) (Nat.zero_le _) ⟨fun _ => rfl,fun h => by omega,_,rfl⟩) fun o ⟨hlo,q1,q2,q3,⟨z,q4⟩,⟨ob,q5,q6,q7,q8⟩,q9,q10⟩ => ?_
  · have : k = 0 := by omega
    subst this
    obtain ⟨hI,-,J,rfl⟩ := hI
    have := hI rfl
    subst this
    unfold F_k76_L506
    have e3 : decide ((0 : Int) < 1) = true := rfl
    have e4 : rIdxS 1 (slv (some (h.n + 1 + 1)) 1) (.int .i64 0) = some (pt (h.n + 1 + 1) 0) := by simp [slv,rIdxS,idxN]
    have e5 : decide ((i : Int) ≥ 0) = true := by simp
    have e6 : decide ((i : Int) < 65536) = true := by simp; omega
    have w : IntKind.i64.wrap ((i : Int) + 1) = ((i + 1 : Nat) : Int) := by rw [wrapI (by omega) (by omega)]; rfl
    obtain ⟨⟨u,h10,lg⟩,e7,r1,r2,ob,r3,r4,r5⟩ := c_badd (h := h') (vb := h.n + 3) (ob := none) (S := []) (f := i) (t := i + 1) (by omega) g9v rfl (by simp) (by simp)
    simp only at r1 r2 r3 r4 r5
    subst r1
    have hst := icP_stp _ _ _ _ _ _ e7
    have hle := hst.le
    rw [addS_nil _ _ (by omega)] at r3 r4
    have hlg : ∀ x ∈ lg,x = h.n + 3 := fun x hx => (r2 x hx).resolve_right (by simp)
    have w1 : IntKind.i64.wrap (0 + 1) = 1 := by rw [wrapI (by omega) (by omega)]; rfl
    simp -implicitDefEqProofs only [↓jn3,↓wsD,wsP,Nat.reduceBEq,reduceCtorEq,logOf,Nat.reduceAdd,Nat.reduceLeDiff,Nat.reduceMul,co_slv,e3,e4,g9x,e5,e6,w,e7,Int.natCast_zero,w1]
    have hob : ∃ b,ob = some b ∧ h.n + 4 ≤ b := by
      rcases r5 with rfl | ⟨b,hb,hb2⟩
      · have r4 : _ = _ := r4
        simp [sc1] at r4
      · exact ⟨b,hb,by omega⟩
    obtain ⟨b,rfl,hb⟩ := hob
    refine Rn.ret ⟨fun x hx => by rw [hlg x hx]; omega,.inl ⟨rfl,by first | exact True.intro | (intro h; first | exact h.elim | exact absurd h (by simp) | omega),fun _ => ⟨⟨by show h.n ≤ h10.n; omega,fun c hc => ?_⟩,by show h.n < h10.n; omega,⟨.slice none 0 0,?_⟩,some b,r3,r4,by simp; omega,fun c e => by cases e; omega⟩,_,rfl⟩⟩
    · rw [hst.same c (by omega) (fun hm => by have := hlg c hm; omega),← hh9,H.get_push,if_neg (by omega),← hh3,H.get_push,if_neg (by show ¬ c = h.n + 2; omega),H.get_push,if_neg (by show ¬ c = h.n + 1; omega),H.get_push,if_neg (by omega)]
    · rw [hst.same h.n (by omega) (fun hm => by have := hlg _ hm; omega),g90]
  · obtain ⟨-,hI,J,rfl⟩ := hI
    obtain ⟨k1,k2,k3,k4⟩ := hI rfl
    unfold F_k76_L506
    have e3 : decide (((1 : Nat) : Int) < 1) = false := rfl
    simp -implicitDefEqProofs only [↓jn3,↓wsD,wsP,Nat.reduceBEq,reduceCtorEq,logOf,Nat.reduceAdd,Nat.reduceLeDiff,Nat.reduceMul,co_slv,e3]
    exact Rn.ret ⟨by simp,by simp,rfl,k1,k2,k3,k4,rfl,rfl⟩
  · obtain ⟨ex,vs,h1,lg⟩ := o
    simp only at hlo q1 q2 q3 q4 q5 q6 q9 q10
    subst q1
    have hnn : ¬ h.n = h.n + 3 := by omega
    simp -implicitDefEqProofs only [↓jn3,↓wsD,wsP,Nat.reduceBEq,reduceCtorEq,logOf,Nat.reduceAdd,Nat.reduceLeDiff,Nat.reduceMul,co_slv,wsF,q9,q10,q5,q4,co_agg1,Nat.reduceBEq]
    refine Rn_bm (S := [(i,i + 1)]) (fun x hx => ?_) (q6.frame (by exact Nat.le_refl _) fun b e => ?_) q8
    · simp only [List.mem_append,List.mem_cons,List.not_mem_nil,or_false] at hx
      rcases hx with rfl | hx
      · exact Nat.le_refl _
      · exact hlo x hx
    · rw [H.get_set,if_neg (fun e2 => q7 (by rw [e,e2]))]
end Go.L1


set_option maxRecDepth 100000
namespace Go.L1
open Go Go.Proofs
theorem Rd.low {h : H} {es n : Nat} {x : Value} {cs : List Value} {F : Nat → Prop} (r : Rd h es x n cs F) : ∃ a c,x = .slice a n c := by
  obtain ⟨_,a,c,e,_⟩ := r
  exact ⟨a,c,e⟩
theorem c_grow {h : H} {k : Nat} (hk : k ≤ 1000000) :
    Rn (icP (.fn N_k139) [.slice none 0 0,.int .i64 (k : Int)] h) fun r => r.2.2 = [] ∧ Sup h r.2.1 ∧ ∃ ob,r.1 = slv ob 0 ∧ own r.2.1 T_A2i64 ob [] ∧ ∀ b,ob = some b → h.n ≤ b := by
  refine Rn.up (fun _ => ic_k139 rfl _ _) ?_
  unfold F_k139
  have e1 : decide ((k : Int) < 0) = false := by simp
  have w0 : IntKind.i64.wrap (0 - 0) = 0 := by rw [wrapI (by omega) (by omega)]; rfl
  have w1 : IntKind.i64.wrap ((k : Int) - 0) = k := by rw [wrapI (by omega) (by omega)]; omega
  have rc : rCapL (.slice none 0 0) = some (.int .i64 0) := by simp [rCapL,uc]
  have rs : ∀ C,rSl C T_A2i64 2 (.slice none 0 0) none (some (.int .i64 0)) none = some (.slice none 0 0) := fun C => by simp [rSl,rSlice,optIdx,idxN]
  by_cases hk0 : k = 0
  · subst hk0
    have e2 : decide (((0 : Nat) : Int) > 0) = false := rfl
    simp -implicitDefEqProofs only [↓jn3,↓wsD,wsP,Nat.reduceBEq,reduceCtorEq,logOf,Nat.reduceAdd,Nat.reduceLeDiff,Nat.reduceMul,co_slv,e1,rc,Int.natCast_zero,w0] at *
    simp -implicitDefEqProofs only [↓jn3,↓wsD,wsP,Nat.reduceBEq,reduceCtorEq,logOf,Nat.reduceAdd,Nat.reduceLeDiff,Nat.reduceMul,co_slv,wsF,w0,e2]
    exact Rn_low (by simp) rfl ⟨rfl,Sup.refl _,none,rfl,rfl,by simp⟩
  · have e2 : decide ((k : Int) > 0) = true := by simp; omega
    have az : rAppZ h T_A2i64 2 16 [(.int .i64 0),(.int .i64 0)] (.slice none 0 0) (.int .i64 (k : Int)) = some (slv (some h.n) k,h.push (.cells (rep [(.int .i64 0),(.int .i64 0)] k) T_A2i64 false),[]) := by
      unfold rAppZ
      have c1 : 0 ≤ (k : Int) ∧ (k : Int) ≤ 1048576 := by omega
      have c2 : (0 + k) * (16 + 2 + 1) ≤ lim := by simp only [lim]; omega
      simp only [if_pos c1,Int.toNat_natCast,Option.bind_some,Option.bind,rAppend,tyO,if_pos c2,and_self,if_true,if_neg hk0]
      rfl
    generalize hh1 : h.push (.cells (rep [(.int .i64 0),(.int .i64 0)] k) T_A2i64 false) = h1 at az
    have g1 : h1.get h.n = some (.cells (rep [(.int .i64 0),(.int .i64 0)] k) T_A2i64 false) := by rw [← hh1,H.get_push,if_pos rfl]
    have rs2 : rSl h1.get T_A2i64 2 (slv (some h.n) k) none (some (.int .i64 0)) none = some (slv (some h.n) 0) := by
      simp [rSl,slv,rSlice,optIdx,idxN,roomOf,g1]
    have s1 : Sup h h1 := by rw [← hh1]; exact Sup.push _ _
    have n1 : h1.n = h.n + 1 := by rw [← hh1]; rfl
    have rl0 : rLenL (.slice none 0 0) = some (.int .i64 0) := rfl
    simp -implicitDefEqProofs only [↓jn3,↓wsD,wsP,Nat.reduceBEq,reduceCtorEq,logOf,Nat.reduceAdd,Nat.reduceLeDiff,Nat.reduceMul,co_slv,wsF,e1,rc,rl0,w0,w1,e2,rs,az,rs2,Int.natCast_zero,rsT_slv]
    refine ⟨_,rfl,?_⟩
    have hb : belowV h.n 4 (tupled [slv (some h.n) 0]) = false := by simp [tupled,belowV,slv]
    simp only [settle,hb,List.filter_nil,List.isEmpty_nil,Bool.true_and,Bool.false_eq_true,if_false]
    exact ⟨trivial,s1,some h.n,rfl,⟨by omega,_,by rw [g1]; rfl⟩,fun b e => by cases e; exact Nat.le_refl _⟩
theorem c_concat {h : H} {q n1 n2 : Nat} {x y : Value} {c1 c2 : List Value} {F : Nat → Prop} (hq : q < h.n) (hg : h.get q = some (.cells [x,y] T_LA2i64 false)) (r1 : Rd h 2 x n1 c1 F) (r2 : Rd h 2 y n2 c2 F) (hn1 : n1 < 100000) (hn2 : n2 < 100000) :
    Rn (icP (.fn N_k109) [.slice (some ⟨q,0,none⟩) 2 2] h) fun r => r.2.2 = [] ∧ Sup h r.2.1 ∧ ∃ ob,r.1 = slv ob (n1 + n2) ∧ own r.2.1 T_A2i64 ob (c1 ++ c2) ∧ ∀ b,ob = some b → h.n ≤ b := by
  refine Rn.up (fun _ => ic_k109 rfl _) ?_
  unfold F_k109
  simp -implicitDefEqProofs only [↓jn3,↓wsD,wsP,Nat.reduceBEq,reduceCtorEq,logOf,Nat.reduceAdd,Nat.reduceLeDiff,Nat.reduceMul,co_slv]
  have i0 : rIdxS 1 (.slice (some ⟨q,0,none⟩) 2 2) (.int .i64 0) = some (pt q 0) := by simp [rIdxS,idxN]
  have i1 : rIdxS 1 (.slice (some ⟨q,0,none⟩) 2 2) (.int .i64 1) = some (pt q 1) := by simp [rIdxS,idxN]
  have l1 := r1.len
  have l2 := r2.len
  refine Rn_ob (P := fun o => o.lg = [] ∧ o.h = h ∧ o.ex = .exit 0 ∧ nt o.vs 0 = .slice (some ⟨q,0,none⟩) 2 2 ∧ nt o.vs 1 = .slice none 0 0 ∧ nt o.vs 2 = .int .i64 ((n1 + n2 : Nat) : Int)) ?_ fun o ⟨q1,q2,q3,q4,q5,q6⟩ => ?_
  · have w0 : IntKind.i64.wrap (0 + (n1 : Int)) = (n1 : Int) := by rw [wrapI (by omega) (by omega)]; omega
    have w1 : IntKind.i64.wrap ((n1 : Int) + (n2 : Int)) = ((n1 + n2 : Nat) : Int) := by rw [wrapI (by omega) (by omega)]; rfl
    have w2 : IntKind.i64.wrap (0 + 1) = 1 := by rw [wrapI (by omega) (by omega)]; rfl
    have w3 : IntKind.i64.wrap (1 + 1) = 2 := by rw [wrapI (by omega) (by omega)]; rfl
    have d1 : decide ((n1 : Int) < 0) = false := by simp
    have d2 : decide (((n1 + n2 : Nat) : Int) < 0) = false := by rw [decide_eq_false_iff_not]; omega
    have s0 : F_k109_L122 icP lw [.slice (some ⟨q,0,none⟩) 2 2,.slice none 0 0,.int .i64 0,.slice (some ⟨q,0,none⟩) 2 2,.int .i64 2,.int .i64 0] h = some ⟨.normal,[.slice (some ⟨q,0,none⟩) 2 2,.slice none 0 0,.int .i64 n1,.slice (some ⟨q,0,none⟩) 2 2,.int .i64 2,.int .i64 1],h,[]⟩ := by
      unfold F_k109_L122
      have d : decide ((0 : Int) < 2) = true := rfl
      simp -implicitDefEqProofs only [↓jn3,↓wsD,wsP,Nat.reduceBEq,reduceCtorEq,logOf,Nat.reduceAdd,Nat.reduceLeDiff,Nat.reduceMul,co_slv,d,i0,hg,l1,w0,w2,d1]
    have s1 : F_k109_L122 icP lw [.slice (some ⟨q,0,none⟩) 2 2,.slice none 0 0,.int .i64 n1,.slice (some ⟨q,0,none⟩) 2 2,.int .i64 2,.int .i64 1] h = some ⟨.normal,[.slice (some ⟨q,0,none⟩) 2 2,.slice none 0 0,.int .i64 ((n1 + n2 : Nat) : Int),.slice (some ⟨q,0,none⟩) 2 2,.int .i64 2,.int .i64 2],h,[]⟩ := by
      unfold F_k109_L122
      have d : decide ((1 : Int) < 2) = true := rfl
      simp -implicitDefEqProofs only [↓jn3,↓wsD,wsP,Nat.reduceBEq,reduceCtorEq,logOf,Nat.reduceAdd,Nat.reduceLeDiff,Nat.reduceMul,co_slv,d,i1,hg,l2,w1,w3,d2]
    have s2 : F_k109_L122 icP lw [.slice (some ⟨q,0,none⟩) 2 2,.slice none 0 0,.int .i64 ((n1 + n2 : Nat) : Int),.slice (some ⟨q,0,none⟩) 2 2,.int .i64 2,.int .i64 2] h = some ⟨.exit 0,[.slice (some ⟨q,0,none⟩) 2 2,.slice none 0 0,.int .i64 ((n1 + n2 : Nat) : Int),.slice (some ⟨q,0,none⟩) 2 2,.int .i64 2,.int .i64 2],h,[]⟩ := by
      unfold F_k109_L122
      have d : decide ((2 : Int) < 2) = false := rfl
      simp -implicitDefEqProofs only [↓jn3,↓wsD,wsP,Nat.reduceBEq,reduceCtorEq,logOf,Nat.reduceAdd,Nat.reduceLeDiff,Nat.reduceMul,co_slv,d]
    exact ⟨_,lw_next s0 rfl (lw_next s1 rfl (lw_last s2 (by simp))),rfl,rfl,rfl,rfl,rfl,rfl⟩
  · obtain ⟨ex,vs,h',lg⟩ := o
    simp only at q1 q2 q3 q4 q5 q6
    subst q1 q2 q3
    obtain ⟨⟨v,h2,lg2⟩,e2,p1,p2,ob,p3,p4,p5⟩ := c_grow (h := h') (k := n1 + n2) (by omega)
    simp only at p1 p2 p3 p4 p5
    subst p1 p3
    simp -implicitDefEqProofs only [↓jn3,↓wsD,wsP,Nat.reduceBEq,reduceCtorEq,logOf,Nat.reduceAdd,Nat.reduceLeDiff,Nat.reduceMul,co_slv,q4,q5,q6,e2]
    have g2 : h2.get q = some (.cells [x,y] T_LA2i64 false) := by rw [p2.2 q hq,hg]
    obtain ⟨xa,xc,hx,hxs⟩ := (r1.sup p2).cells
    obtain ⟨⟨v3,h3,lg3⟩,e3,ob3,k1,k2,k3,k4,k5⟩ := rApp_own (es := 2) (bytes := 16) (zero := [(.int .i64 0),(.int .i64 0)]) (n := 0) (xc := xc) p4 rfl (by omega) hxs r1.1 (by simp only [lim]; omega)
    simp only [Nat.zero_add,List.nil_append] at k1 k2 k3 k4 k5
    subst k1
    have s3 : Sup h' h3 := ⟨by have := k5.le; have := p2.1; omega,fun b hb => by
      rw [k5.same b (by have := p2.1; omega) (fun hm => by have := p5 b (k4 b hm); omega),p2.2 b hb]⟩
    have f3 : ∀ b,ob3 = some b → h'.n ≤ b := fun b e => by
      rcases k3 with ⟨rfl,_⟩ | rfl
      · exact p5 b e
      · cases e; exact p2.1
    have g3 : h3.get q = some (.cells [x,y] T_LA2i64 false) := by rw [s3.2 q hq,hg]
    obtain ⟨ya,yc,hy,hys⟩ := (r2.sup s3).cells
    obtain ⟨⟨v4,h4,lg4⟩,e4,ob4,j1,j2,j3,j4,j5⟩ := rApp_own (es := 2) (bytes := 16) (zero := [(.int .i64 0),(.int .i64 0)]) (n := n1) (xc := yc) k2 r1.1 (by omega) hys r2.1 (by simp only [lim]; omega)
    simp only at j1 j2 j3 j4 j5
    subst j1
    have s4 : Sup h' h4 := ⟨by have := j5.le; have := s3.1; omega,fun b hb => by
      rw [j5.same b (by have := s3.1; omega) (fun hm => by have := f3 b (j4 b hm); omega),s3.2 b hb]⟩
    have f4 : ∀ b,ob4 = some b → h'.n ≤ b := fun b e => by
      rcases j3 with ⟨rfl,_⟩ | rfl
      · exact f3 b e
      · cases e; exact s3.1
    have hl : rLenL (.slice (some ⟨q,0,none⟩) 2 2) = some (.int .i64 2) := rfl
    have w2 : IntKind.i64.wrap (0 + 1) = 1 := by rw [wrapI (by omega) (by omega)]; rfl
    have w3 : IntKind.i64.wrap (1 + 1) = 2 := by rw [wrapI (by omega) (by omega)]; rfl
    rw [← hx] at e3
    rw [← hy] at e4
    have t0 : F_k109_L506 icP lw [.slice none 0 0,slv ob 0,.slice (some ⟨q,0,none⟩) 2 2,.int .i64 2,.int .i64 0] h2 = some ⟨.normal,[.slice none 0 0,slv ob3 n1,.slice (some ⟨q,0,none⟩) 2 2,.int .i64 2,.int .i64 1],h3,lg3⟩ := by
      unfold F_k109_L506
      have d : decide ((0 : Int) < 2) = true := rfl
      simp -implicitDefEqProofs only [↓jn3,↓wsD,wsP,Nat.reduceBEq,reduceCtorEq,logOf,Nat.reduceAdd,Nat.reduceLeDiff,Nat.reduceMul,co_slv,d,i0,g2,e3,w2]
    have t1 : F_k109_L506 icP lw [.slice none 0 0,slv ob3 n1,.slice (some ⟨q,0,none⟩) 2 2,.int .i64 2,.int .i64 1] h3 = some ⟨.normal,[.slice none 0 0,slv ob4 (n1 + n2),.slice (some ⟨q,0,none⟩) 2 2,.int .i64 2,.int .i64 2],h4,lg4⟩ := by
      unfold F_k109_L506
      have d : decide ((1 : Int) < 2) = true := rfl
      simp -implicitDefEqProofs only [↓jn3,↓wsD,wsP,Nat.reduceBEq,reduceCtorEq,logOf,Nat.reduceAdd,Nat.reduceLeDiff,Nat.reduceMul,co_slv,d,i1,g3,e4,w3]
    have t2 : F_k109_L506 icP lw [.slice none 0 0,slv ob4 (n1 + n2),.slice (some ⟨q,0,none⟩) 2 2,.int .i64 2,.int .i64 2] h4 = some ⟨.exit 2,[.slice none 0 0,slv ob4 (n1 + n2),.slice (some ⟨q,0,none⟩) 2 2,.int .i64 2,.int .i64 2],h4,[]⟩ := by
      unfold F_k109_L506
      have d : decide ((2 : Int) < 2) = false := rfl
      simp -implicitDefEqProofs only [↓jn3,↓wsD,wsP,Nat.reduceBEq,reduceCtorEq,logOf,Nat.reduceAdd,Nat.reduceLeDiff,Nat.reduceMul,co_slv,d]
    have hlp := lw_next t0 rfl (lw_next t1 rfl (lw_last t2 (by simp)))
    simp only [List.nil_append] at hlp
    have hl2 : rLenL (.slice (some ⟨q,0,none⟩) 2 2) = some (.int .i64 ((2 : Nat) : Int)) := rfl
    refine Rn_ob (P := fun o => o = _) ⟨_,hlp,rfl⟩ fun o ho => ?_
    subst ho
    simp -implicitDefEqProofs only [↓jn3,↓wsD,wsP,Nat.reduceBEq,reduceCtorEq,logOf,Nat.reduceAdd,Nat.reduceLeDiff,Nat.reduceMul,co_slv,wsF,rsT_slv]
    refine ⟨_,rfl,?_⟩
    rcases settle_fresh (h := h') (h1 := h4) (v := tupled [slv ob4 (n1 + n2)]) (lg := lg4 ++ lg3) (fun x hx => by
      rcases List.mem_append.1 hx with hx | hx
      · exact f3 x (j4 x hx)
      · exact p5 x (k4 x hx)) with e | ⟨e,hb⟩
    · rw [e]
      exact ⟨rfl,s4,ob4,rfl,j2,f4⟩
    · rw [e]
      have : ob4 = none := by
        cases ob4 with
        | none => rfl
        | some b =>
          have := f4 b rfl
          simp [tupled,belowV,slv] at hb
          omega
      subst this
      exact ⟨rfl,Sup.refl _,none,rfl,j2,by simp⟩
end Go.L1


set_option maxRecDepth 100000
namespace Go.L1
open Go Go.Proofs
def joinS (S : List Sp) : List Sp := S.foldl (fun a p => addS a p.1 p.2) []
theorem joinS_snoc (S : List Sp) (p : Sp) : joinS (S ++ [p]) = addS (joinS S) p.1 p.2 := by simp [joinS]
theorem addS_len (S : List Sp) (f t : Nat) : (addS S f t).length ≤ S.length + 1 := by
  unfold addS
  split
  · split
    · simp
    · split <;> simp
  · split <;> simp
theorem joinS_len (S : List Sp) : (joinS S).length ≤ S.length := by
  suffices ∀ (S A : List Sp),(S.foldl (fun a p => addS a p.1 p.2) A).length ≤ A.length + S.length by
    have := this S []
    simpa [joinS] using this
  intro S
  induction S with
  | nil => intro A; simp
  | cons p S ih =>
    intro A
    have := ih (addS A p.1 p.2)
    have h2 := addS_len A p.1 p.2
    simp only [List.foldl_cons,List.length_cons]
    omega
theorem c_or1 (p q : Sp) (h : H) (hp : p.1 ≤ 65536) (hq : q.1 ≤ 65536) : icP (.fn N_k111) [.agg (sc1 p).toArray,.agg (sc1 q).toArray] h = some (.int .i64 ((p.1 : Int) - (q.1 : Int)),h,[]) := by
  refine Rn.eq (Rn.up (fun _ => ic_k111 rfl _ _) ?_)
  unfold F_k111
  have e1 : ∀ n (p : Sp),aBx n T_A2i64 2 (.agg (sc1 p).toArray) = some (pt n 0,.cells [.int .i64 (p.1 : Int),.int .i64 (p.2 : Int)] T_A2i64 false) := fun _ _ => rfl
  have hn : ¬ h.n = h.n + 1 := by omega
  have w : IntKind.i64.wrap ((p.1 : Int) - (q.1 : Int)) = (p.1 : Int) - (q.1 : Int) := wrapI (by omega) (by omega)
  simp -implicitDefEqProofs only [↓jn3,↓wsD,wsP,Nat.reduceBEq,reduceCtorEq,logOf,Nat.reduceAdd,Nat.reduceLeDiff,Nat.reduceMul,co_slv,wsF,e1,rIdxA_0,hn,w]
  exact Rn_low (by simp) rfl rfl
theorem srtD_sp {h : H} {x : Value} {S : List Sp} {F : Nat → Prop} (r : Rd h 2 x S.length (S.flatMap sc1) F) (hn : S.length < 1000000) (hs : S.Pairwise fun a b => a.1 ≤ b.1) (hb : ∀ p ∈ S,p.1 ≤ 65536) :
    SrtD h x (.func (.func N_k111) #[] #[]) S.length (fun i => match S[i]? with | some p => .agg (sc1 p).toArray | none => .nilFunc) (fun i j => match S[i]?,S[j]? with | some p,some q => (p.1 : Int) - (q.1 : Int) | _,_ => 0) := by
  refine ⟨r.low,hn,fun i hi => ?_,fun h' s i j hi hj => ?_,fun i j hij hi => ?_⟩
  · obtain ⟨p,hp⟩ : ∃ p,S[i]? = some p := ⟨_,List.getElem?_eq_getElem hi⟩
    obtain ⟨b,o,e,hb,_,k⟩ := r.span hp
    exact ⟨_,e,fun h' s => by rw [hp]; exact k h' (s.2 b hb)⟩
  · obtain ⟨p,hp⟩ : ∃ p,S[i]? = some p := ⟨_,List.getElem?_eq_getElem hi⟩
    obtain ⟨q,hq⟩ : ∃ q,S[j]? = some q := ⟨_,List.getElem?_eq_getElem hj⟩
    simp only [hp,hq,callV_f]
    exact c_or1 p q h' (hb p (List.mem_of_getElem? hp)) (hb q (List.mem_of_getElem? hq))
  · have hj : j < S.length := by omega
    simp only [List.getElem?_eq_getElem hi,List.getElem?_eq_getElem hj]
    rcases Nat.lt_or_eq_of_le hij with h1 | rfl
    · have := (List.pairwise_iff_getElem.1 hs) j i hj hi h1
      omega
    · omega
theorem bS_LL (n : Nat) (a : Option Addr) (k c : Nat) (a' : Option Addr) (k' c' : Nat) : aBuildS pgB n T_LLA2i64 2 [(0,.slice a k c),(1,.slice a' k' c')] = some (.slice (some ⟨n,0,none⟩) 2 2,.cells [.slice a k c,.slice a' k' c'] T_LA2i64 false) := by kernel_rfl
theorem co_agg2 (p : Sp) : cellsOf (.agg (sc1 p).toArray) = some [.int .i64 (p.1 : Int),.int .i64 (p.2 : Int)] := rfl
theorem c_or {h : H} {x y : Value} {S1 S2 : List Sp} {F : Nat → Prop} (r1 : BmR h x S1 F) (r2 : BmR h y S2 F) (hs : (S1 ++ S2).Pairwise fun a b => a.1 ≤ b.1) (hb : ∀ p ∈ S1 ++ S2,p.1 ≤ 65536) (hn : (S1 ++ S2).length < 256) :
    Rn (icP (.fn N_k75) [x,y] h) fun r => r.2.2 = [] ∧ BmR r.2.1 r.1 (joinS (S1 ++ S2)) (fun b => h.n ≤ b) := by
  refine Rn.up (fun _ => ic_k75 rfl _ _) ?_
  unfold F_k75
  obtain ⟨v1,rfl,r1⟩ := r1
  obtain ⟨v2,rfl,r2⟩ := r2
  obtain ⟨a1,cc1,rfl⟩ := r1.low
  obtain ⟨a2,cc2,rfl⟩ := r2.low
  have e1 : ∀ n a c k,aBx n T_bitmap_Map 1 (.agg #[.slice a k c]) = some (pt n 0,.cells [.slice a k c] T_bitmap_Map false) := fun _ _ _ _ => rfl
  simp -implicitDefEqProofs only [↓jn3,↓wsD,wsP,Nat.reduceBEq,reduceCtorEq,logOf,Nat.reduceAdd,Nat.reduceLeDiff,Nat.reduceMul,co_slv,e1,bS_LL]
  generalize hh4 : (((h.push (.cells [.slice a1 S1.length cc1] T_bitmap_Map false)).push (.cells [.slice a2 S2.length cc2] T_bitmap_Map false)).push (.cells [.slice none 0 0] T_bitmap_Map false)).push (.cells [.slice a1 S1.length cc1,.slice a2 S2.length cc2] T_LA2i64 false) = h4
  have s4 : Sup h h4 := by rw [← hh4]; exact (((Sup.push _ _).trans (Sup.push _ _)).trans (Sup.push _ _)).trans (Sup.push _ _)
  have n4 : h4.n = h.n + 4 := by rw [← hh4]; rfl
  have g4 : h4.get (h.n + 1 + 1 + 1) = some (.cells [.slice a1 S1.length cc1,.slice a2 S2.length cc2] T_LA2i64 false) := by rw [← hh4,H.get_push,if_pos (by rfl)]
  have g42 : h4.get (h.n + 1 + 1) = some (.cells [.slice none 0 0] T_bitmap_Map false) := by
    rw [← hh4,H.get_push,if_neg (by show ¬ h.n + 1 + 1 = h.n + 3; omega),H.get_push,if_pos (by rfl)]
  have hln : S1.length + S2.length < 256 := by simpa using hn
  obtain ⟨⟨v5,h5,lg5⟩,e5,p1,p2,ob5,p3,p4,p5⟩ := c_concat (by omega) g4 (r1.sup s4) (r2.sup s4) (by omega) (by omega)
  simp only at p1 p2 p3 p4 p5
  subst p1 p3
  rw [← List.flatMap_append] at p4
  have rr := p4.rd (n := (S1 ++ S2).length) (es := 2) (F := fun b => h4.n ≤ b) (by rw [flat_len sc1_len]) (by omega) p5
  have hsn : S1.length + S2.length = (S1 ++ S2).length := by simp
  rw [hsn] at e5
  have e6 := c_sortf (srtD_sp rr (by omega) hs hb) hn
  have hl6 := rr.len
  simp -implicitDefEqProofs only [↓jn3,↓wsD,wsP,Nat.reduceBEq,reduceCtorEq,logOf,Nat.reduceAdd,Nat.reduceLeDiff,Nat.reduceMul,co_slv,e5,e6,hl6]
  have n5 := p2.1
  generalize hh9 : h5.push (.cells [.slice none 0 0] T_bitmap_Map false) = h9
  have n9 : h9.n = h5.n + 1 := by rw [← hh9]; rfl
  have s9 : Sup h5 h9 := by rw [← hh9]; exact Sup.push _ _
  have g9v : h9.get h5.n = some (.cells [.slice none 0 0] T_bitmap_Map false) := by rw [← hh9,H.get_push,if_pos rfl]
  have g90 : h9.get (h.n + 1 + 1) = some (.cells [.slice none 0 0] T_bitmap_Map false) := by rw [s9.2 _ (by omega),p2.2 _ (by omega),g42]
  refine Rn_ob (lw_cnt (fun x => h.n ≤ x) (S1 ++ S2).length (fun k vs h' => h9.n ≤ h'.n ∧ (∀ b,b < h9.n → b ≠ h5.n → h'.get b = h9.get b) ∧ (∃ ob,h'.get h5.n = some (.cells [slv ob (joinS ((S1 ++ S2).take k)).length] T_bitmap_Map false) ∧ own h' T_A2i64 ob ((joinS ((S1 ++ S2).take k)).flatMap sc1) ∧ ∀ b,ob = some b → h9.n ≤ b) ∧
      vs = [pt (h.n + 1 + 1) 0,pt h5.n 0,slv ob5 (S1 ++ S2).length,.int .i64 ((S1 ++ S2).length : Nat),.int .i64 (k : Int)])
    (fun ex vs h' => ex = .exit 0 ∧ h9.n ≤ h'.n ∧ (∀ b,b < h9.n → b ≠ h5.n → h'.get b = h9.get b) ∧ (∃ ob,h'.get h5.n = some (.cells [slv ob (joinS (S1 ++ S2)).length] T_bitmap_Map false) ∧ own h' T_A2i64 ob ((joinS (S1 ++ S2)).flatMap sc1) ∧ ∀ b,ob = some b → h9.n ≤ b) ∧ nt vs 0 = pt (h.n + 1 + 1) 0 ∧ nt vs 1 = pt h5.n 0)
    (fun k vs h' hk hI => ?_) (fun vs h' hI => ?_) (Nat.zero_le _) ⟨Nat.le_refl _,fun b hb _ => rfl,⟨none,g9v,rfl,by simp⟩,rfl⟩) fun o ⟨hlo,q1,q2,q3,⟨ob,q5,q6,q8⟩,q9,q10⟩ => ?_
  · obtain ⟨k1,k2,⟨ob,k3,k4,k5⟩,rfl⟩ := hI
    unfold F_k75_L506
    have hkn : k < 256 := by omega
    obtain ⟨p,hp⟩ : ∃ p,(S1 ++ S2)[k]? = some p := ⟨_,List.getElem?_eq_getElem hk⟩
    obtain ⟨bq,oq,ix,hbq,hFq,kq⟩ := rr.span hp
    have hbq9 : h'.get bq = h5.get bq := by rw [k2 bq (by omega) (by omega),s9.2 bq hbq]
    have hlt : decide ((k : Int) < ((S1 ++ S2).length : Nat)) = true := by rw [decide_eq_true_eq]; omega
    have w : IntKind.i64.wrap ((k : Int) + 1) = ((k + 1 : Nat) : Int) := by rw [wrapI (by omega) (by omega)]; rfl
    generalize hh1 : (h'.push (.cells [.int .i64 0,.int .i64 0] T_A2i64 false)).set h'.n (.cells [.int .i64 (p.1 : Int),.int .i64 (p.2 : Int)] T_A2i64 false) = h1
    have n1 : h1.n = h'.n + 1 := by rw [← hh1]; rfl
    have g1 : ∀ b,b < h'.n → h1.get b = h'.get b := fun b hb => by rw [← hh1,H.get_set,if_neg (by omega),H.get_push,if_neg (by omega)]
    have gx : h1.get h'.n = some (.cells [.int .i64 (p.1 : Int),.int .i64 (p.2 : Int)] T_A2i64 false) := by rw [← hh1,H.get_set,if_pos rfl]
    have hjl := joinS_len ((S1 ++ S2).take k)
    have htl : ((S1 ++ S2).take k).length ≤ (S1 ++ S2).length := by simp; omega
    obtain ⟨⟨u,h10,lg⟩,e7,t1,t2,ob',t3,t4,t5⟩ := c_badd (h := h1) (vb := h5.n) (ob := ob) (S := joinS ((S1 ++ S2).take k)) (f := p.1) (t := p.2) (by omega) (by rw [g1 _ (by omega),k3]) (k4.frame (by omega) fun b e => by subst e; exact g1 b k4.1) (fun e => by have := k5 _ e; omega) (by omega)
    simp only at t1 t2 t3 t4 t5
    subst t1
    have hst := icP_stp _ _ _ _ _ _ e7
    have hle := hst.le
    have htk : (S1 ++ S2).take (k + 1) = (S1 ++ S2).take k ++ [p] := by
      rw [List.take_add_one,hp]; rfl
    have hcs : ([Value.int .i64 (p.1 : Int),.int .i64 (p.2 : Int)] : List Value).length = 2 := rfl
    simp -implicitDefEqProofs only [↓jn3,↓wsD,wsP,Nat.reduceBEq,reduceCtorEq,logOf,Nat.reduceAdd,Nat.reduceLeDiff,Nat.reduceMul,co_slv,hlt,ix,kq h' hbq9,co_agg2,hh1,rIdxA_0,rIdxA_1,gx,e7,w]
    refine Rn.ret ⟨fun x hx => ?_,.inl ⟨rfl,by show h9.n ≤ h10.n; omega,fun b hb hb2 => ?_,⟨ob',by rw [htk,joinS_snoc]; exact t3,by rw [htk,joinS_snoc]; exact t4,fun b e => ?_⟩,rfl⟩⟩
    · simp only [List.mem_append,List.mem_cons,List.not_mem_nil,or_false] at hx
      rcases hx with hx | rfl
      · rcases t2 x hx with rfl | e
        · omega
        · have := k5 x e; omega
      · omega
    · show h10.get b = _
      rw [hst.same b (by omega) (fun hm => ?_),g1 b (by omega),k2 b hb hb2]
      rcases t2 b hm with e | e
      · exact hb2 e
      · have := k5 b e; omega
    · rcases t5 with rfl | ⟨b',rfl,hb'⟩
      · exact k5 b e
      · cases e; omega
  · obtain ⟨k1,k2,⟨ob,k3,k4,k5⟩,rfl⟩ := hI
    unfold F_k75_L506
    rw [List.take_length] at k3 k4
    simp -implicitDefEqProofs only [↓jn3,↓wsD,wsP,Nat.reduceBEq,reduceCtorEq,logOf,Nat.reduceAdd,Nat.reduceLeDiff,Nat.reduceMul,co_slv,Int.lt_irrefl,decide_false]
    exact Rn.ret ⟨by simp,by simp,rfl,k1,k2,⟨ob,k3,k4,k5⟩,rfl,rfl⟩
  · obtain ⟨ex,vs,h1,lg⟩ := o
    simp only at hlo q1 q2 q3 q5 q6 q9 q10
    subst q1
    have hne : ¬ h.n + 1 + 1 = h5.n := by omega
    have q0 : h1.get (h.n + 1 + 1) = some (.cells [.slice none 0 0] T_bitmap_Map false) := by rw [q3 _ (by omega) hne,g90]
    simp -implicitDefEqProofs only [↓jn3,↓wsD,wsP,Nat.reduceBEq,reduceCtorEq,logOf,Nat.reduceAdd,Nat.reduceLeDiff,Nat.reduceMul,co_slv,wsF,q9,q10,q5,q0,co_agg1]
    refine Rn_bm (fun x hx => ?_) (q6.frame (by exact Nat.le_refl _) fun b e => ?_) (fun b e => by have := q8 b e; omega)
    · simp only [List.mem_append,List.mem_cons,List.not_mem_nil,or_false] at hx
      rcases hx with rfl | hx
      · omega
      · exact hlo x hx
    · rw [H.get_set,if_neg (fun e2 => by have := q8 b e; omega)]
end Go.L1
