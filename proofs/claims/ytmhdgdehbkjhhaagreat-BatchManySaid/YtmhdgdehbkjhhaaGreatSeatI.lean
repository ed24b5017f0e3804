/- Texts of a proof: no condition. -/
import Derived.Test.YtmhdgdehbkjhhaaGreatOneE
import Derived.Test.YtmhdgdehbkjhhaaGreatSeatE
import Derived.KernelRfl
set_option autoImplicit true
set_option relaxedAutoImplicit true
set_option linter.all false
set_option linter.unusedVariables false
set_option linter.unusedSimpArgs false
/-! slices.Insert of one element: what it is taken to do is what it does. -/
set_option linter.unusedVariables false
namespace Go.L1
open Go Go.Proofs
namespace InsA
/-- In place. -/
theorem insD (call : CallF) (lp : LoopF) {h : H} {N n c i bv ov cv : Nat} {zs ws : List Value} {tyv : Nat} (hcall : ∀ v1 v2 r, ovS [v1, v2] h = some r → call (.fn N_k201) [v1, v2] h = some r)
    (hc : c ≠ uc) (hn : n + 1 ≤ c) (hi : i < n) (hN : h.get N = some (.cells zs T_omap_pair_string_int false)) (hz : zs.length = (n + 1) * 2) (hv : h.get bv = some (.cells ws tyv false)) (hNv : N ≠ bv) (hw : ov + 2 ≤ ws.length) (hlim : n + 1 ≤ 1048576) (hNn : N < h.n) :
    (F_k185 call lp (.slice (some ⟨N, 0, none⟩) n c) (.int .i64 (i : Int)) (.slice (some ⟨bv, ov, none⟩) 1 cv) h).map (fun r => (r.1, r.2.1)) =
      some (.slice (some ⟨N, 0, none⟩) (n + 1) c, (h.set N (.cells (putAt zs ((i + 1) * 2) ((zs.drop (i * 2)).take ((n - i) * 2))) T_omap_pair_string_int false)).set N
        (.cells (putAt (putAt zs ((i + 1) * 2) ((zs.drop (i * 2)).take ((n - i) * 2))) (i * 2) ((ws.drop ov).take 2)) T_omap_pair_string_int false)) := by
  have w1 : IntKind.i64.wrap ((n : Int) + ((1 : Nat) : Int)) = ((n + 1 : Nat) : Int) := by rw [wrapI] <;> omega
  have w2 : IntKind.i64.wrap ((i : Int) + ((1 : Nat) : Int)) = ((i + 1 : Nat) : Int) := by rw [wrapI] <;> omega
  have e1 : (((1 : Nat) : Int) == 0) = false := by decide
  have e2 : ((i : Int) == (n : Int)) = false := by simp; omega
  have e3 : decide (((n + 1 : Nat) : Int) > (c : Int)) = false := by simp; omega
  have hpl : (putAt zs ((i + 1) * 2) ((zs.drop (i * 2)).take ((n - i) * 2))).length = (n + 1) * 2 := by simp [putAt]; omega
  have s1 := rSl_lo (C := h.get) (e := T_omap_pair_string_int) (es := 2) (b := N) (o := 0) (n := n) (c := c) i hc (by omega) (by omega)
  have s2 := rSl_hi (C := h.get) (e := T_omap_pair_string_int) (es := 2) (b := N) (o := 0) (n := n) (c := c) (n + 1) hc hn
  have s3 := rSl_lo (C := h.get) (e := T_omap_pair_string_int) (es := 2) (b := N) (o := 0) (n := n + 1) (c := c) (i + 1) hc (by omega) (by omega)
  have s4 := rSl_lo (C := h.get) (e := T_omap_pair_string_int) (es := 2) (b := N) (o := 0) (n := n + 1) (c := c) i hc (by omega) (by omega)
  have s5 := fun C => rSl_lo (C := C) (e := T_omap_pair_string_int) (es := 2) (b := N) (o := 0) (n := n + 1) (c := c) i hc (by omega) (by omega)
  have c1 := rCopy_eq (h := h) (es := 2) (b := N) (o := 0 + (i + 1) * 2) (n := n + 1 - (i + 1)) (c := c - (i + 1)) (b2 := N) (o2 := 0 + i * 2) (m := n + 1 - i) (c2 := c - i) (k := n - i) (by omega) (by omega) hN hN (by omega) (by omega)
  have c2 := rCopy_eq (h := h.set N (.cells (putAt zs ((i + 1) * 2) ((zs.drop (i * 2)).take ((n - i) * 2))) T_omap_pair_string_int false)) (es := 2) (b := N) (o := 0 + i * 2) (n := n + 1 - i) (c := c - i) (b2 := bv) (o2 := ov) (m := 1) (c2 := cv) (k := 1) (by omega) (by omega)
    (by rw [H.get_set, if_pos rfl]) (by rw [H.get_set, if_neg (Ne.symm hNv)]; exact hv) (by rw [hpl]; omega) (by omega)
  have ho : call (.fn N_k201) [.slice (some ⟨bv, ov, none⟩) 1 cv, .slice (some ⟨N, 0 + (i + 1) * 2, none⟩) (n + 1 - (i + 1)) (c - (i + 1))] h = some (.bool false, h, []) := by
    refine hcall _ _ _ ?_
    simp only [ovS, hv, hN, hz]
    rw [if_pos ⟨by omega, by omega, Ne.symm hNv⟩, if_neg (by omega)]
  simp only [Nat.zero_add, Nat.one_mul] at s1 s3 s4 s5 c1 c2 ho
  unfold F_k185
  simp only [s1, ob_some, rLenL, bI_eql, e1, jn, fork, nt_0, nt_s, e2, bI_add, w1, rCapL, hc, if_false, bI_gtr, e3, s2, w2, s3, ho, unV, Bool.not_false, s4, c1, hv_some]
  rw [dr_ok]
  · simp only [s5, ob_some, c2, hv_some, fin_one (v := .slice (some ⟨N, 0, none⟩) (n + 1) c) rfl, settle, logOf, mP, mR, mH, List.flatMap_cons, List.flatMap_nil, List.append_nil, List.nil_append, List.cons_append, List.filter_cons, hNn, decide_true, if_true,
      List.isEmpty_cons, Bool.false_and, Bool.false_eq_true, if_false, Option.map_some]
  · kernel_rfl

theorem rAppZ_grow {h : H} {e b o i c k : Nat} {zero vs : List Value} (hC : h.get b = some (.cells vs e false)) (hc : c ≠ uc) (hgt : ¬ i + k ≤ c) (hk0 : k ≠ 0) (hik : i + k ≤ 1048576) (hl : o + i * 2 ≤ vs.length) :
    rAppZ h e 2 24 zero (.slice (some ⟨b, o, none⟩) i c) (.int .i64 (k : Int)) = some (.slice (some ⟨h.n, 0, none⟩) (i + k) uc, h.push (.cells ((vs.drop o).take (i * 2) ++ rep zero k) e false), []) := by
  have h1 : (0 : Int) ≤ (k : Int) ∧ (k : Int) ≤ 1048576 := by omega
  have h2 : (i + k) * (24 + 2 + 1) ≤ lim := by unfold lim; omega
  simp only [rAppZ, h1, and_self, if_true, Int.toNat_natCast, Option.bind_some, rAppend, tyO, h2, hk0, if_false, hC, hc, hgt, sliceCells_eq hC hl, Option.map_some]
theorem rep_lengthZ : ∀ k : Nat, (rep [(.string ⟨#[]⟩), (.int .i64 0)] k).length = k * 2
  | 0 => rfl
  | k + 1 => by simp [rep, rep_lengthZ k]; omega

/-- Without room. -/
theorem insC (call : CallF) (lp : LoopF) {h : H} {b o n c i bv ov cv : Nat} {vs ws : List Value} {tyv : Nat}
    (hc : c ≠ uc) (hnc : n ≤ c) (hcn : c < n + 1) (hi : i < n) (hb : h.get b = some (.cells vs T_omap_pair_string_int false)) (hz : o + n * 2 ≤ vs.length) (hv : h.get bv = some (.cells ws tyv false)) (hw : ov + 2 ≤ ws.length) (hlim : n + 1 ≤ 1048576) (hbn : b < h.n) (hvn : bv < h.n) :
    (F_k185 call lp (.slice (some ⟨b, o, none⟩) n c) (.int .i64 (i : Int)) (.slice (some ⟨bv, ov, none⟩) 1 cv) h).map (fun r => (r.1, r.2.1)) =
      some (.slice (some ⟨h.n, 0, none⟩) (n + 1) uc, ((h.push (.cells ((vs.drop o).take (i * 2) ++ rep [(.string ⟨#[]⟩), (.int .i64 0)] (n + 1 - i)) T_omap_pair_string_int false)).set h.n
        (.cells ((vs.drop o).take (i * 2) ++ (ws.drop ov).take 2 ++ (rep [(.string ⟨#[]⟩), (.int .i64 0)] (n + 1 - i)).drop 2) T_omap_pair_string_int false)).set h.n
        (.cells ((vs.drop o).take (i * 2) ++ (ws.drop ov).take 2 ++ ((vs.drop o).take (n * 2)).drop (i * 2)) T_omap_pair_string_int false)) := by
  have w1 : IntKind.i64.wrap ((n : Int) + ((1 : Nat) : Int)) = ((n + 1 : Nat) : Int) := by rw [wrapI] <;> omega
  have w2 : IntKind.i64.wrap ((i : Int) + ((1 : Nat) : Int)) = ((i + 1 : Nat) : Int) := by rw [wrapI] <;> omega
  have w3 : IntKind.i64.wrap (((n + 1 : Nat) : Int) - (i : Int)) = ((n + 1 - i : Nat) : Int) := by rw [wrapI] <;> omega
  have e1 : (((1 : Nat) : Int) == 0) = false := by decide
  have e2 : ((i : Int) == (n : Int)) = false := by simp; omega
  have e3 : decide (((n + 1 : Nat) : Int) > (c : Int)) = true := by simp; omega
  have e4 : i + (n + 1 - i) = n + 1 := by omega
  have s1 := rSl_lo (C := h.get) (e := T_omap_pair_string_int) (es := 2) (b := b) (o := o) (n := n) (c := c) i hc (by omega) (by omega)
  have s2 := rSl_hi (C := h.get) (e := T_omap_pair_string_int) (es := 2) (b := b) (o := o) (n := n) (c := c) i hc (by omega)
  have a1 := rAppZ_grow (h := h) (e := T_omap_pair_string_int) (b := b) (o := o) (i := i) (c := c) (k := n + 1 - i) (zero := [(.string ⟨#[]⟩), (.int .i64 0)]) hb hc (by omega) (by omega) (by omega) (by omega)
  rw [e4] at a1
  have hol : ((vs.drop o).take (i * 2)).length = i * 2 := by simp; omega
  have hnl : ((ws.drop ov).take (1 * 2)).length = 2 := by simp; omega
  have hrl := rep_lengthZ (n + 1 - i)
  have g1 : (h.push (.cells ((vs.drop o).take (i * 2) ++ rep [(.string ⟨#[]⟩), (.int .i64 0)] (n + 1 - i)) T_omap_pair_string_int false)).get h.n = some (.cells ((vs.drop o).take (i * 2) ++ rep [(.string ⟨#[]⟩), (.int .i64 0)] (n + 1 - i)) T_omap_pair_string_int false) := by rw [H.get_push, if_pos rfl]
  have g2 : (h.push (.cells ((vs.drop o).take (i * 2) ++ rep [(.string ⟨#[]⟩), (.int .i64 0)] (n + 1 - i)) T_omap_pair_string_int false)).get bv = some (.cells ws tyv false) := by rw [H.get_push, if_neg (by omega)]; exact hv
  have s3 := rSl_lo_uc (C := (h.push (.cells ((vs.drop o).take (i * 2) ++ rep [(.string ⟨#[]⟩), (.int .i64 0)] (n + 1 - i)) T_omap_pair_string_int false)).get) (es := 2) (b := h.n) (o := 0) (n := n + 1) i g1 (by omega) (by omega)
  have c1 := rCopy_eq (es := 2) (o := 0 + i * 2) (n := n + 1 - i) (c := uc) (o2 := ov) (m := 1) (c2 := cv) (k := 1) (by omega) (by omega) g1 g2 (by rw [List.length_append, hol, hrl]; omega) (by omega)
  rw [Nat.zero_add, putAt_app hol.symm, hnl, Nat.one_mul] at c1
  have g3 : ∀ x, ((h.push (.cells ((vs.drop o).take (i * 2) ++ rep [(.string ⟨#[]⟩), (.int .i64 0)] (n + 1 - i)) T_omap_pair_string_int false)).set h.n x).get h.n = some x := by intro x; rw [H.get_set, if_pos rfl]
  have g4 : ∀ x, ((h.push (.cells ((vs.drop o).take (i * 2) ++ rep [(.string ⟨#[]⟩), (.int .i64 0)] (n + 1 - i)) T_omap_pair_string_int false)).set h.n x).get b = some (.cells vs T_omap_pair_string_int false) := by intro x; rw [H.get_set, if_neg (by omega), H.get_push, if_neg (by omega)]; exact hb
  have s4 := fun x => rSl_lo_uc (es := 2) (b := h.n) (o := 0) (n := n + 1) (i + 1) (g3 (.cells x T_omap_pair_string_int false)) (by omega) (by omega)
  have s5 := fun C => rSl_lo (C := C) (e := T_omap_pair_string_int) (es := 2) (b := b) (o := o) (n := n) (c := c) i hc (by omega) (by omega)
  have hml : ((vs.drop o).take (i * 2) ++ (ws.drop ov).take 2).length = (i + 1) * 2 := by simp; omega
  have c2 := rCopy_eq (es := 2) (o := 0 + (i + 1) * 2) (n := n + 1 - (i + 1)) (c := uc) (o2 := o + i * 2) (m := n - i) (c2 := c - i) (k := n - i) (by omega) (by omega)
    (g3 (.cells ((vs.drop o).take (i * 2) ++ (ws.drop ov).take 2 ++ (rep [(.string ⟨#[]⟩), (.int .i64 0)] (n + 1 - i)).drop 2) T_omap_pair_string_int false)) (g4 _)
    (by rw [List.length_append, hml, List.length_drop, hrl]; omega) (by omega)
  have hd0 : ((rep [(.string ⟨#[]⟩), (.int .i64 0)] (n + 1 - i)).drop 2).drop ((vs.drop (o + i * 2)).take ((n - i) * 2)).length = ([] : List Value) := by
    apply List.eq_nil_of_length_eq_zero
    simp only [List.length_drop, List.length_take, hrl]
    omega
  have hre : (vs.drop (o + i * 2)).take ((n - i) * 2) = ((vs.drop o).take (n * 2)).drop (i * 2) := by
    rw [List.drop_take, List.drop_drop]
    congr 1
    omega
  rw [Nat.zero_add, putAt_app hml.symm, hd0, List.append_nil, hre] at c2
  simp only [Nat.zero_add] at s3 s4
  unfold F_k185
  simp only [s1, ob_some, rLenL, bI_eql, e1, jn, fork, nt_0, nt_s, e2, bI_add, w1, rCapL, hc, if_false, bI_gtr, e3, s2, bI_sub, w3, a1, hv_some, s3, c1, w2, s4, s5, c2]
  rw [dr_ok]
  · rw [fin_one rfl]
    simp [settle, logOf, mP, mR, mH, belowV]
  · kernel_rfl

/-- At the end. -/
theorem insB (call : CallF) (lp : LoopF) {h : H} {a : Option Addr} {n c bv ov cv : Nat} (hac : (a = none ∧ n = 0 ∧ c = 0) ∨ c = uc) {r : Value × H × List Nat}
    (hr : rApp h T_omap_pair_string_int 2 24 [(.string ⟨#[]⟩), (.int .i64 0)] (.slice a n c) (.slice (some ⟨bv, ov, none⟩) 1 cv) = some r) :
    F_k185 call lp (.slice a n c) (.int .i64 (n : Int)) (.slice (some ⟨bv, ov, none⟩) 1 cv) h = some (settle h r.1 r.2.1 r.2.2) := by
  have e1 : (((1 : Nat) : Int) == 0) = false := by decide
  have hr0 := hr
  have key : isPoison r.1 = false ∧ ∃ v, rSl h.get T_omap_pair_string_int 2 (.slice a n c) (some (.int .i64 (n : Int))) none none = some v := by
    obtain ⟨v, h1, lg⟩ := r
    unfold rApp at hr
    obtain ⟨⟨m, new⟩, hm, hq⟩ := Option.bind_eq_some_iff.1 hr
    clear hr
    obtain ⟨l, hl, hm⟩ := Option.map_eq_some_iff.1 hm
    cases hm
    simp only at hq
    unfold rAppend at hq
    split at hq
    case isFalse => cases hq
    split at hq
    · split at hq
      · rename_i h0
        obtain ⟨rfl, rfl⟩ := h0
        refine ⟨?_, .slice none 0 0, rfl⟩
        simp only [Nat.one_ne_zero, if_false] at hq
        cases hq
        rfl
      · cases hq
    · rename_i b o
      rcases hac with ⟨hx, _⟩ | rfl
      · cases hx
      simp only [Nat.one_ne_zero, if_false] at hq
      split at hq
      · rename_i vs ty hC
        simp only [if_true] at hq
        split at hq
        · rename_i hty
          obtain ⟨rfl, _⟩ := hty
          refine ⟨?_, _, rSl_lo_uc n hC (by omega) (Nat.le_refl _)⟩
          split at hq
          · obtain ⟨x, _, hq⟩ := Option.map_eq_some_iff.1 hq; cases hq; rfl
          · obtain ⟨x, _, hq⟩ := Option.map_eq_some_iff.1 hq; cases hq; rfl
        · cases hq
      · simp at hq
      · cases hq
    · cases hq
  obtain ⟨hp, v0, hs⟩ := key
  obtain ⟨v, h1, lg⟩ := r
  unfold F_k185
  simp only [hs, ob_some, rLenL, bI_eql, e1, jn, fork, nt_0, nt_s, beq_self_eq_true, hr0, hv_some]
  rw [fin_one hp, List.append_nil]

theorem cells_D {seg J new : List Value} {n i : Nat} (hs : seg.length = n * 2) (hi : i < n) (hJ : J.length = 2) (hn : new.length = 2) :
    putAt (putAt (seg ++ J) ((i + 1) * 2) (((seg ++ J).drop (i * 2)).take ((n - i) * 2))) (i * 2) new = seg.take (i * 2) ++ new ++ seg.drop (i * 2) := by
  obtain ⟨A, B, rfl, hA⟩ : ∃ A B, seg = A ++ B ∧ A.length = i * 2 := ⟨seg.take (i * 2), seg.drop (i * 2), (List.take_append_drop _ _).symm, by simp; omega⟩
  have hB : B.length = (n - i) * 2 := by simp at hs; omega
  have e1 : ((A ++ B ++ J).drop (i * 2)).take ((n - i) * 2) = B := by
    rw [List.append_assoc, List.drop_append_of_le_length (by omega), List.drop_of_length_le (by omega), List.nil_append, List.take_append_of_le_length (by omega), List.take_of_length_le (by omega)]
  have e2 : putAt (A ++ B ++ J) ((i + 1) * 2) B = A ++ ((B ++ J).take 2 ++ B) := by
    unfold putAt
    rw [List.drop_of_length_le (by simp; omega), List.append_nil, List.append_assoc, List.take_append, List.take_of_length_le (by omega), List.append_assoc]
    congr 3
    omega
  rw [e1, e2, putAt_app hA.symm, hn, List.drop_append_of_le_length (by simp; omega), List.drop_of_length_le (by simp; omega), List.nil_append]
  rw [List.take_append_of_le_length (by omega), List.take_of_length_le (by omega), List.drop_append_of_le_length (by omega), List.drop_of_length_le (by omega), List.nil_append]

theorem ins_sim (sp : List Nat) {P : Program} {ei : TyI} (hei : (pg sp).ty T_omap_pair_string_int = some ei) (hes2 : ei.size = 2) (hsim : FnSim pg0 P (ic pg0)) :
    ∀ args h v h1 lg, insS T_omap_pair_string_int 2 24 [(.string ⟨#[]⟩), (.int .i64 0)] args h = some (v, h1, lg) → ∀ φ w (args' : Array Value), Rel (pg sp) φ h.get w → Dom φ h.n → VPL φ args args'.toList →
      (∃ v' w', (callFunc N_k185 args').run P w = .ok (.value v') w' ∧ Post (pg sp) φ h w v h1 v' w' ∧ NoYield args) ∨
      ((callFunc N_k185 args').run P w = .ok (.enter N_k185 args') w ∧
        CallsIn Fence.wide 0 P N_k185 args' w fun e w' => ∃ v', e = .returned v' ∧ Post (pg sp) φ h w v h1 v' w') := by
  intro args h v h1 lg hh φ w args' hR hd ha
  have swp : ∀ {ψ : Emb} {C : Cont} {u : World}, Rel pg0 ψ C u → Rel (pg sp) ψ C u := fun h => Rel.swap (p := pg0) (q := pg sp) rfl rfl h
  have swp0 : ∀ {ψ : Emb} {C : Cont} {u : World}, Rel (pg sp) ψ C u → Rel pg0 ψ C u := fun h => Rel.swap (p := pg sp) (q := pg0) rfl rfl h
  have conv : ∀ {φ2 : Emb} {args2 : List Value} {h2 : H} {v2 : Value} {hr : H} {lg2 : List Nat}, ic pg0 (.fn N_k185) args2 h2 = some (v2, hr, lg2) → Rel (pg sp) φ2 h2.get w → Dom φ2 h2.n → VPL φ2 args2 args'.toList →
      (∀ v' w', Post pg0 φ2 h2 w v2 hr v' w' → Post (pg sp) φ h w v h1 v' w') → NoYield args →
      (∃ v' w', (callFunc N_k185 args').run P w = .ok (.value v') w' ∧ Post (pg sp) φ h w v h1 v' w' ∧ NoYield args) ∨
      ((callFunc N_k185 args').run P w = .ok (.enter N_k185 args') w ∧
        CallsIn Fence.wide 0 P N_k185 args' w fun e w' => ∃ v', e = .returned v' ∧ Post (pg sp) φ h w v h1 v' w') := by
    intro φ2 args2 h2 v2 hr lg2 hic hR2 hd2 ha2 hc hny
    rcases hsim _ _ _ _ _ _ hic φ2 w args' (swp0 hR2) hd2 ha2 with ⟨v', w', r1, r2, _⟩ | ⟨r1, r2⟩
    · exact .inl ⟨v', w', r1, hc v' w' r2, hny⟩
    · exact .inr ⟨r1, r2.mono fun e w' ⟨v', e1, e2⟩ => ⟨v', e1, hc v' w' e2⟩⟩
  unfold insS at hh
  split at hh
  case h_2 => cases hh
  rename_i a n c i bv ov cv
  have hny : NoYield [Value.slice a n c, .int .i64 i, .slice (some ⟨bv, ov, none⟩) 1 cv] := fun l hl => by simp at hl
  split at hh
  · rename_i hin
    subst hin
    split at hh
    case isFalse => cases hh
    rename_i hac
    obtain ⟨r, hr, e⟩ := Option.map_eq_some_iff.1 hh
    have hF := insB (ic pg0) lw hac hr
    rw [e] at hF
    refine conv (ic_k185 _ _ _ hF) hR hd ha (fun v' w' hp => ?_) hny
    exact post_conv (Gr.refl w hd) rfl (fun _ _ h _ => h) (fun _ _ h => swp h) (fun _ _ h => h) hp
  · rename_i hin
    split at hh
    case isFalse => cases hh
    rename_i hir
    split at hh
    case h_2 => cases hh
    rename_i b o
    split at hh
    case h_2 => cases hh
    rename_i vs ty ws tyv hC hCv
    split at hh
    case isFalse => cases hh
    rename_i hcond
    obtain ⟨rfl, rfl, hbv, hol, hovl, hlim⟩ := hcond
    cases hh
    obtain ⟨i, rfl⟩ := Int.eq_ofNat_of_zero_le hir.1
    have hi : i < n := by omega
    simp only [Int.toNat_natCast] at conv ⊢
    obtain ⟨l⟩ := args'
    match l, ha with
    | [y1, y2, y3], ha =>
      obtain ⟨bi, a', c', hb, rfl, hn, ha1, hc⟩ := (ha.2 0 _ _ rfl rfl).sliceI
      have hbn := hd b bi hb
      obtain ⟨bi3, _, _, hb3, _⟩ := (ha.2 2 _ _ rfl rfl).sliceI
      have hbvn := hd bv bi3 hb3
      obtain ⟨hisz, hor⟩ : bi.isz ≤ o + c' * bi.es ∧ (c' = 0 ∨ (bi.o + o + c' * bi.es ≤ bi.s ∧ c' < uc)) := by
        rcases hc with ⟨_, h1, h2⟩ | ⟨_, h2⟩
        · exact ⟨h1, h2⟩
        · exact absurd h2 (Nat.lt_irrefl _)
      have hfit := (hor.resolve_left (by omega)).1
      have hcu := (hor.resolve_left (by omega)).2
      have ha2 := ha1.resolve_left (by omega)
      subst ha2
      obtain ⟨ob, hC', hr⟩ := hR.blk b bi hb
      rw [hC] at hC'
      cases hC'
      cases hr with
      | @cells _ _ _ cs ty' fr j hj hes hisz2 hww hs hsz hvv hcell hfr hjk =>
        rw [hei] at hj
        cases hj
        have hfr0 := hfr rfl
        subst hfr0
        rw [hes, hes2] at hfit hisz
        have hcl : cs.toList.length = bi.s := by simpa using hs
        have hseg : VL φ ((vs.drop o).take (n * 2)) ((cs.toList.drop (bi.o + o)).take (n * 2)) := by
          have e1 : (((cs.toList.drop bi.o).take vs.length).drop o).take (n * 2) = (cs.toList.drop (bi.o + o)).take (n * 2) := by
            rw [List.drop_take, List.drop_drop, List.take_take]
            congr 1
            omega
          rw [← e1]
          exact (hvv.drop o).take _
        have hsl : ((vs.drop o).take (n * 2)).length = n * 2 := by simp; omega
        have hnl : ((ws.drop ov).take 2).length = 2 := by simp; omega
        have hkget : ∀ c oc, (h.kill b).get c = some oc → liveO oc = true → c ≠ b ∧ h.get c = some oc := by
          intro c oc hq hl
          unfold H.kill at hq
          rw [H.get_set] at hq
          split at hq
          · cases hq; cases hl
          · exact ⟨by assumption, hq⟩
        have htt : ((vs.drop o).take (n * 2)).take (i * 2) = (vs.drop o).take (i * 2) := by rw [List.take_take]; congr 1; omega
        have hnone : φ h.n = none := by
          cases hx : φ h.n with
          | none => rfl
          | some x => exact absurd (hd h.n x hx) (by omega)
        by_cases hle : n + 1 ≤ c'
        · -- there is room
          let bi2 : BI := ⟨bi.r, bi.o + o, bi.s, 2, (n + 1) * 2⟩
          generalize hzs : (vs.drop o).take (n * 2) ++ List.replicate 2 Value.nilIface = zs
          have hzl : zs.length = (n + 1) * 2 := by rw [← hzs, List.length_append, hsl]; simp; omega
          have hk : Rel (pg sp) φ (h.kill b).get w := hR.kill hb hC rfl rfl (fun _ _ => rfl)
          have hget2 : ((h.kill b).push (.cells zs T_omap_pair_string_int false)).get = fun j => if j = h.n then some (.cells zs T_omap_pair_string_int false) else (h.kill b).get j := by
            funext j
            rw [H.get_push]
            rfl
          have hR2 : Rel (pg sp) (φ.put h.n bi2) ((h.kill b).push (.cells zs T_omap_pair_string_int false)).get w := by
            rw [hget2]
            refine hk.new hd (fun c ci oc hc hoc hl => ?_) (fun _ _ _ _ _ _ => rfl) ?_
            · obtain ⟨hcb, hc2⟩ := hkget c oc hoc hl
              exact Ne.symm (hR.inj b c bi ci _ oc hb hc hC hc2 (Ne.symm hcb) rfl hl)
            · refine .cells hei hes2.symm hzl.symm hww hs (by rw [hzl]; simp only [bi2]; omega) ?_ (fun x hx => ?_) (fun _ => rfl) (fun _ x hx => ?_)
              · have e2 : (cs.toList.drop (bi.o + o)).take zs.length = (cs.toList.drop (bi.o + o)).take (n * 2) ++ ((cs.toList.drop (bi.o + o)).drop (n * 2)).take 2 := by
                  rw [hzl, show (n + 1) * 2 = n * 2 + 2 by omega, List.take_add]
                show VL _ zs ((cs.toList.drop (bi.o + o)).take zs.length)
                rw [e2, ← hzs]
                refine (hseg.mono (Emb.sub_put hnone)).append (junk_VL (by simp; omega) fun x hx => ?_)
                have hx := List.mem_of_mem_drop (List.mem_of_mem_take hx)
                rw [← List.drop_drop] at hx
                exact hjk rfl x (List.mem_of_mem_drop hx)
              · rw [← hzs] at hx
                rcases List.mem_append.1 hx with hx | hx
                · exact hcell x (List.mem_of_mem_drop (List.mem_of_mem_take hx))
                · rw [List.eq_of_mem_replicate hx]; rfl
              · have hx : x ∈ cs.toList.drop (bi.o + o) := hx
                rw [← List.drop_drop] at hx
                exact hjk rfl x (List.mem_of_mem_drop hx)
          have hgr : Gr φ h.get h.n w (φ.put h.n bi2) ((h.kill b).push (.cells zs T_omap_pair_string_int false)).get ((h.kill b).push (.cells zs T_omap_pair_string_int false)).n := by
            rw [hget2]
            exact Gr.new hd (fun _ => ⟨b, bi, _, hb, hC, rfl, rfl⟩) (fun c oc hq hl => (hkget c oc hq hl).2)
          have hD := insD (ic pg0) lw (h := (h.kill b).push (.cells zs T_omap_pair_string_int false)) (N := h.n) (n := n) (c := c') (i := i) (bv := bv) (ov := ov) (cv := cv) (zs := zs) (ws := ws) (tyv := tyv)
            (fun v1 v2 r hr => ic_spec (s := ovS) rfl hr) (Nat.ne_of_lt hcu) hle hi (by rw [hget2]; simp) hzl (by rw [H.get_push, if_neg (by show ¬ bv = h.n; omega), H.kill, H.get_set, if_neg (Ne.symm hbv)]; exact hCv) (by omega) hovl hlim (by show h.n < h.n + 1; omega)
          obtain ⟨lg2, hD⟩ := map_some3 hD
          rw [show putAt (putAt zs ((i + 1) * 2) ((zs.drop (i * 2)).take ((n - i) * 2))) (i * 2) ((ws.drop ov).take 2) = (vs.drop o).take (i * 2) ++ (ws.drop ov).take 2 ++ ((vs.drop o).take (n * 2)).drop (i * 2) by
            rw [← hzs, cells_D hsl hi (by simp) hnl, htt]] at hD
          have ha' : VPL (φ.put h.n bi2) [.slice (some ⟨h.n, 0, none⟩) n c', .int .i64 (i : Int), .slice (some ⟨bv, ov, none⟩) 1 cv] [.slice (some ⟨bi.r, bi.o + o, none⟩) n c', y2, y3] := by
            refine ⟨rfl, fun k x y hx hy => ?_⟩
            match k, hx, hy with
            | 0, hx, hy => cases hx; cases hy; exact (VR.slice (bi := bi2) (Emb.put_self _ _ _) hn (.inr rfl) (.inr ⟨rfl, hcu⟩)).vp
            | 1, hx, hy => cases hx; cases hy; exact (ha.2 1 _ _ rfl rfl).mono (Emb.sub_put hnone)
            | 2, hx, hy => cases hx; cases hy; exact (ha.2 2 _ _ rfl rfl).mono (Emb.sub_put hnone)
            | k + 3, hx, hy => simp at hx
          refine conv (ic_k185 _ _ _ hD) hR2 hgr.dom ha' (fun v' w' hp => post_conv hgr (by rfl) (fun c oc hc _ => ?_) (fun φ3 g3 R3 => ?_) (fun φ3 g3 V3 => ?_) hp) hny
          · rw [H.get_push] at hc
            rw [H.get_set, H.get_set, H.get_push]
            by_cases e : c = h.n
            · rw [if_pos (show c = (h.kill b).n from e)] at hc
              rw [if_pos e]; exact hc
            · rw [if_neg (show ¬ c = (h.kill b).n from e)] at hc
              rw [if_neg e, if_neg e, if_neg (show ¬ c = (h.kill b).n from e)]; exact hc
          · refine Rel.get (swp R3) fun c => ?_
            rw [H.get_set, H.get_set, H.get_push, H.get_push]
            by_cases e : c = h.n
            · subst e; simp [H.kill, H.n_set]
            · have e' : ¬ c = (h.kill b).n := e
              simp only [e, e', if_false]
          · obtain ⟨bi4, a4, c4, hb4, rfl, hn4, ha4, hc4⟩ := V3.sliceI
            have e4 : φ3 h.n = some bi2 := (g3.old h.n (by show h.n < h.n + 1; omega)).trans (Emb.put_self _ _ _)
            rw [hb4] at e4
            cases e4
            obtain ⟨rfl, _⟩ : c4 = c' ∧ c' < uc := by
              rcases hc4 with ⟨e, _⟩ | e
              · exact absurd e (Nat.ne_of_lt hcu)
              · exact e
            exact (VR.slice hb4 hn4 ha4 (.inl ⟨rfl, by simp only [bi2]; omega, .inr ⟨by simp only [bi2]; omega, hcu⟩⟩)).vp
        · -- there is none
          have hC2 := insC (ic pg0) lw (h := h) (b := b) (o := o) (n := n) (c := c') (i := i) (bv := bv) (ov := ov) (cv := cv) (Nat.ne_of_lt hcu) hn (by omega) hi hC (by omega) hCv hovl hlim hbn hbvn
          obtain ⟨lg2, hC2⟩ := map_some3 hC2
          have ha' : VPL φ [.slice (some ⟨b, o, none⟩) n c', .int .i64 (i : Int), .slice (some ⟨bv, ov, none⟩) 1 cv] [.slice (some ⟨bi.r, bi.o + o, none⟩) n c', y2, y3] := by
            refine ⟨rfl, fun k x y hx hy => ?_⟩
            match k, hx, hy with
            | 0, hx, hy => cases hx; cases hy; exact (VR.slice hb hn (.inr rfl) (.inr ⟨rfl, hcu⟩)).vp
            | 1, hx, hy => cases hx; cases hy; exact ha.2 1 _ _ rfl rfl
            | 2, hx, hy => cases hx; cases hy; exact ha.2 2 _ _ rfl rfl
            | k + 3, hx, hy => simp at hx
          refine conv (ic_k185 _ _ _ hC2) hR hd ha' (fun v' w' hp => post_conv (Gr.refl w hd) (by rfl) (fun c oc hc hl => ?_) (fun φ3 g3 R3 => ?_) (fun φ3 g3 V3 => V3) hp) hny
          · rw [H.get_push] at hc
            rw [H.get_set, H.get_set, H.get_push]
            by_cases e : c = h.n
            · rw [if_pos (show c = (h.kill b).n from e)] at hc
              rw [if_pos e]; exact hc
            · rw [if_neg (show ¬ c = (h.kill b).n from e)] at hc
              rw [if_neg e, if_neg e, if_neg e]
              exact (hkget c oc hc hl).2
          · have hbb : φ3 b = some bi := (g3.old b hbn).trans hb
            have hK := (swp R3).kill (h := ((h.push _).set h.n _).set h.n _) hbb (ob := .cells vs T_omap_pair_string_int false) (by rw [H.get_set, if_neg (by omega), H.get_set, if_neg (by omega), H.get_push, if_neg (by omega)]; exact hC) rfl rfl (fun _ _ => rfl)
            refine Rel.get hK fun c => ?_
            unfold H.kill
            rw [H.get_set, H.get_set, H.get_set, H.get_push, H.get_push, H.get_set]
            by_cases e : c = h.n
            · subst e
              rw [if_neg (by omega)]
              simp [H.n_set]
            · have e' : ¬ c = (h.set b .dead).n := e
              simp only [e, e', if_false]
    | [], ha => have := ha.1; simp at this
    | [_], ha => have := ha.1; simp at this
    | [_, _], ha => have := ha.1; simp at this
    | _ :: _ :: _ :: _ :: _, ha => have := ha.1; simp at this
end InsA
theorem ov_log : SpecLog pg0 := by
  intro f s hs args h v h1 lg hh
  have hs : (bif Nat.beq f N_k201 then some ovS else none) = some s := hs
  cases hb0 : Nat.beq f N_k201 with
  | true =>
    rw [hb0, cond_true] at hs
    cases hs
    exact ovS_log hh
  | false =>
    rw [hb0, cond_false] at hs
    cases hs
theorem ins_spec_log (sp : List Nat) : SpecLog (pg sp) := by
  intro f s hs args h v h1 lg hh
  have hs : (bif sp.any (Nat.beq f) then some tS else (bif Nat.beq f N_k185 then some (insS T_omap_pair_string_int 2 24 [(.string ⟨#[]⟩), (.int .i64 0)]) else none)) = some s := hs
  cases ha : sp.any (Nat.beq f) with
  | true =>
    rw [ha, cond_true] at hs
    cases hs
    exact tS_log hh
  | false =>
    rw [ha, cond_false] at hs
    cases hb0 : Nat.beq f N_k185 with
    | true =>
      rw [hb0, cond_true] at hs
      cases hs
      exact ins_log hh
    | false =>
      rw [hb0, cond_false] at hs
      cases hs
end Go.L1
