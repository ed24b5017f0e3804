/- Texts of a proof: no condition. -/
import Derived.Test.YtbmpmjljbiepiaaGreatOneB
import Derived.Laws.CopyRow
import Derived.Laws.Entries
import Derived.ChangeKeysEq
set_option autoImplicit true
set_option relaxedAutoImplicit true
set_option linter.all false
set_option linter.unusedVariables false
set_option linter.unusedSimpArgs false
/-! L1, third part: operations that at most read. -/
namespace Go.L1
open Go

theorem VP.vr {φ : Emb} {v v' : Value} (h : VP φ v v') (hn : isPoison v = false) : VR φ v v' := by
  rcases h with h | h
  · rw [h] at hn; cases hn
  · exact h
theorem VR.vp {φ : Emb} {v v' : Value} (h : VR φ v v') : VP φ v v' := .inr h

theorem VP.boolI {φ : Emb} {t : Bool} {v' : Value} (h : VP φ (.bool t) v') : v' = .bool t := by cases h.vr rfl; rfl
theorem VP.intI {φ : Emb} {k : IntKind} {n : Int} {v' : Value} (h : VP φ (.int k n) v') : v' = .int k n := by cases h.vr rfl; rfl
theorem VP.strI {φ : Emb} {s : ByteArray} {v' : Value} (h : VP φ (.string s) v') : v' = .string s := by cases h.vr rfl; rfl
theorem VP.ptrI {φ : Emb} {b off : Nat} {v' : Value} (h : VP φ (.pointer (some ⟨b, off, none⟩)) v') : ∃ bi, φ b = some bi ∧ v' = .pointer (some ⟨bi.r, bi.o + off, none⟩) := by
  cases h.vr rfl with | ptr hb => exact ⟨_, hb, rfl⟩
theorem VP.ptrI' {φ : Emb} {a : Addr} {v' : Value} (h : VP φ (.pointer (some a)) v') : ∃ a', v' = .pointer (some a') ∧ VR φ (.pointer (some a)) (.pointer (some a')) := by
  have hv := h.vr rfl
  cases hv with | ptr hb => exact ⟨_, rfl, .ptr hb⟩
theorem VP.sliceI {φ : Emb} {b off n c : Nat} {v' : Value} (h : VP φ (.slice (some ⟨b, off, none⟩) n c) v') : ∃ bi a' c', φ b = some bi ∧ v' = .slice (some a') n c' ∧ n ≤ c' ∧ (c' = 0 ∨ a' = ⟨bi.r, bi.o + off, none⟩) ∧
    ((c = uc ∧ bi.isz ≤ off + c' * bi.es ∧ (c' = 0 ∨ (bi.o + off + c' * bi.es ≤ bi.s ∧ c' < uc))) ∨ (c' = c ∧ c < uc)) := by
  cases h.vr rfl with | slice hb hn ha hc => exact ⟨_, _, _, hb, rfl, hn, ha, hc⟩
theorem VP.nilsliceI {φ : Emb} {n c : Nat} {v' : Value} (h : VP φ (.slice none n c) v') : n = 0 ∧ c = 0 ∧ v' = .slice none 0 0 := by
  cases h.vr rfl; exact ⟨rfl, rfl, rfl⟩
theorem VP.mapI {φ : Emb} {b : Nat} {v' : Value} (h : VP φ (.map (some b)) v') : ∃ bi, φ b = some bi ∧ v' = .map (some bi.r) := by
  cases h.vr rfl with | map hb => exact ⟨_, hb, rfl⟩
theorem VP.nilmapI {φ : Emb} {v' : Value} (h : VP φ (.map none) v') : v' = .map none := by cases h.vr rfl; rfl
theorem VP.aggI {φ : Emb} {cs : Array Value} {v' : Value} (h : VP φ (.agg cs) v') : ∃ cs', v' = .agg cs' ∧ VL φ cs.toList cs'.toList := by
  cases h.vr rfl with | agg l h1 => exact ⟨_, rfl, l, h1⟩
theorem VP.tupleI {φ : Emb} {cs : Array Value} {v' : Value} (h : VP φ (.tuple cs) v') : ∃ cs', v' = .tuple cs' ∧ VL φ cs.toList cs'.toList := by
  cases h.vr rfl with | tuple l h1 => exact ⟨_, rfl, l, h1⟩
theorem VP.funcI {φ : Emb} {f : Nat} {x y : Array Value} {v' : Value} (h : VP φ (.func (.func f) x y) v') : ∃ x' y', v' = .func (.func f) x' y' ∧ VL φ x.toList x'.toList ∧ VL φ y.toList y'.toList := by
  cases h.vr rfl with | func _ l1 l2 h1 h2 => exact ⟨_, _, rfl, ⟨l1, h1⟩, ⟨l2, h2⟩⟩
theorem VP.yieldI {φ : Emb} {b : Nat} {x y : Array Value} {v' : Value} (h : VP φ (.func (.yield b) x y) v') : ∃ bi, φ b = some bi ∧ x = #[] ∧ y = #[] ∧ v' = .func (.yield bi.r) #[] #[] := by
  cases h.vr rfl with | yield hb => exact ⟨_, hb, rfl, rfl, rfl⟩

theorem addr_add (g o n : Nat) : (⟨g, o, none⟩ : Addr).add n = ⟨g, o + n, none⟩ := by unfold Addr.add; split <;> simp_all

theorem eval_rel {φ : Emb} {T : Env} {a : Act} (hE : ER φ T a.tmps) {x : Operand} (hx : operandOk x = true) : VP φ (eval T x) (a.eval x) := by
  cases x with
  | tmp t => exact hE t
  | const v => exact (VR.pure φ hx).vp
  | global g => exact .inl rfl
  | func f => exact (VR.func f rfl rfl (fun i x y h => by simp at h) (fun i x y h => by simp at h)).vp

theorem VR.tuple2 {φ : Emb} {a b a' b' : Value} (h : VR φ a a') (h' : VR φ b b') : VR φ (.tuple #[a, b]) (.tuple #[a', b']) :=
  .tuple rfl (VL.cons h (VL.cons h' (VL.nil φ))).2
section mem
variable {p : Pg} {P : Program} {φ : Emb} {w : World}

theorem cellsAt_inv {C : Cont} {b off n : Nat} {cs : List Value} (h : cellsAt C b off n = some cs) :
    ∃ vs ty ro, C b = some (.cells vs ty ro) ∧ off + n ≤ vs.length ∧ cs = (vs.drop off).take n := by
  unfold cellsAt at h
  split at h
  · rename_i vs ty ro he
    split at h
    · cases h; exact ⟨vs, ty, ro, he, by assumption, rfl⟩
    · cases h
  · cases h

/-- the real cells behind some ideal ones -/
theorem BlockRel.read {bi : BI} {vs : List Value} {ty : TypeId} {ro : Bool} (h : BlockRel p φ bi w (.cells vs ty ro)) {off n : Nat} (hl : off + n ≤ vs.length) :
    ∃ cs', VL φ ((vs.drop off).take n) cs' ∧ cs'.length = n ∧ (∀ x ∈ (vs.drop off).take n, isCell x = true) ∧ ∀ j v, cs'[j]? = some v → w.cell? ((⟨bi.r, bi.o + off, none⟩ : Addr).add j) = some v := by
  cases h with
  | @cells _ _ _ cs ty' fr i hi hes hisz hw hs hsz hv hcell hfr =>
    refine ⟨((cs.toList.drop bi.o).take vs.length |>.drop off).take n, (hv.drop off).take n, ?_, fun x hx => hcell x (List.mem_of_mem_drop (List.mem_of_mem_take hx)), ?_⟩
    · have hcs : cs.toList.length = bi.s := by simpa using hs
      simp only [List.length_take, List.length_drop, hcs]
      omega
    · intro j v hj
      rw [List.getElem?_take] at hj
      split at hj
      · rename_i hjn
        rw [List.getElem?_drop, List.getElem?_take] at hj
        split at hj
        · rw [List.getElem?_drop] at hj
          rw [addr_add]
          simp only [World.cell?, hw, Option.isSome_none, Bool.false_eq_true, if_false]
          rw [← hj, ← Array.getElem?_toList]
          congr 1
          omega
        · cases hj
      · cases hj

theorem loadCells_sim {C : Cont} {b off n : Nat} {cs : List Value} {bi : BI} (h : cellsAt C b off n = some cs) (hb : ∃ ob, C b = some ob ∧ BlockRel p φ bi w ob) :
    ∃ cs', VL φ cs cs' ∧ cs'.length = n ∧ (∀ x ∈ cs, isCell x = true) ∧ (loadCells ⟨bi.r, bi.o + off, none⟩ n).run P w = .ok cs'.toArray w ∧
      (∀ j v, cs'[j]? = some v → w.cell? ((⟨bi.r, bi.o + off, none⟩ : Addr).add j) = some v) := by
  obtain ⟨vs, ty, ro, hC, hl, rfl⟩ := cellsAt_inv h
  obtain ⟨ob, hC', hr⟩ := hb
  rw [hC] at hC'
  cases hC'
  obtain ⟨cs', h1, h2, h3, h4⟩ := hr.read hl
  refine ⟨cs', h1, h2, h3, ?_, h4⟩
  have := run_loadCells_list (P := P) w ⟨bi.r, bi.o + off, none⟩ cs' h4
  rwa [h2] at this

theorem load_sim {C : Cont} {b off : Nat} {x : Value} {bi : BI} (h : cellsAt C b off 1 = some [x]) (hb : ∃ ob, C b = some ob ∧ BlockRel p φ bi w ob) :
    ∃ y, VR φ x y ∧ (load ⟨bi.r, bi.o + off, none⟩).run P w = .ok y w := by
  obtain ⟨cs', h1, h2, h3, _, h4⟩ := loadCells_sim (P := P) h hb
  obtain ⟨y, r, rfl, hxy, _⟩ := h1.cons_inv
  refine ⟨y, hxy, ?_⟩
  have := h4 0 y rfl
  rw [addr_add] at this
  simp only [Nat.add_zero] at this
  simp [this]

theorem run_isAgg {t : Nat} {i : TyI} (h : TyFits P t i) (w : World) : (isAgg t).run P w = .ok (isAggD i.desc) w := by
  unfold isAgg
  simp only [Sem.run_bind, run_underlying h.und, Result.andThen_ok]
  unfold isAggD
  split <;> simp_all
theorem run_size {t : Nat} {i : TyI} (h : TyFits P t i) (w : World) : (sizeOf t).run P w = .ok i.size w := by
  obtain ⟨⟨x, hx, hs, _⟩, _, _, _, _⟩ := h
  simp [sizeOf, typeInfo, hx, hs]
theorem run_zero {t : Nat} {i : TyI} (h : TyFits P t i) (w : World) : ∃ z, (zeroValue t).run P w = .ok z w ∧ cellsOf z = some i.zero ∧ pureC 6 z = true ∧ isAggV z = isAggD i.desc := by
  obtain ⟨⟨x, hx, _, _, ⟨z, hz, hc, hp, ha⟩, _⟩, _, _, _, _⟩ := h
  exact ⟨z, by simp [zeroValue, typeInfo, hx, hz], hc, hp, ha⟩
theorem run_bytes {t : Nat} {i : TyI} (h : TyFits P t i) (w : World) : ∃ x, (typeInfo t).run P w = .ok x w ∧ x.bytes = i.bytes := by
  obtain ⟨⟨x, hx, _, hb, _⟩, _, _, _, _⟩ := h
  exact ⟨x, by simp [typeInfo, hx], hb⟩

theorem rLoad_sim {C : Cont} {t : Nat} {i : TyI} (ht : TyFits P t i) {x v x' : Value} (h : rLoad C i x = some v)
    (hx : VP φ x x') (hR : ∀ b off bi, x = .pointer (some ⟨b, off, none⟩) → φ b = some bi → ∃ ob, C b = some ob ∧ BlockRel p φ bi w ob) :
    ∃ a' v', x' = .pointer (some a') ∧ (loadVar t a').run P w = .ok v' w ∧ VR φ v v' := by
  unfold rLoad at h
  split at h
  · rename_i b off
    cases hx.vr rfl with
    | @ptr _ _ bi hb =>
      have hR' := hR b off bi rfl hb
      simp only [loadVar, Sem.run_bind, run_isAgg ht, run_size ht, Result.andThen_ok]
      split at h
      · rename_i hagg
        obtain ⟨cs, hcs, rfl⟩ := Option.map_eq_some_iff.1 h
        obtain ⟨cs', h1, h2, h3, h4, _⟩ := loadCells_sim (P := P) hcs hR'
        refine ⟨_, .agg cs'.toArray, rfl, ?_, .agg ?_ ?_⟩
        · simp [hagg, h4, run_size ht]
        · simpa using h1.1
        · intro j x y hx hy; exact h1.2 j x y (by simpa using hx) (by simpa using hy)
      · rename_i hagg
        split at h
        · rename_i x hc
          cases h
          obtain ⟨y, hxy, hl⟩ := load_sim (P := P) hc hR'
          refine ⟨_, y, rfl, ?_, hxy⟩
          have hf : isAggD i.desc = false := by simpa using hagg
          simp only [hf, Bool.false_eq_true, if_false, hl]
        · cases h
  · cases h

/-! ### What is built -/
theorem putAt_length {vs : List Value} {off : Nat} {new : List Value} (h : off + new.length ≤ vs.length) : (putAt vs off new).length = vs.length := by
  simp [putAt]; omega
theorem VL.putAt {a a' b b' : List Value} (h : VL φ a a') (h' : VL φ b b') (off : Nat) : VL φ (L1.putAt a off b) (L1.putAt a' off b') := by
  unfold L1.putAt
  rw [h'.1]
  exact ((h.take off).append h').append (h.drop _)
theorem foldl_set (off : Nat) : ∀ (new : List Value) (j : Nat) (cs : Array Value), off + j + new.length ≤ cs.size →
    ((new.zipIdx j).foldl (fun cs (c, j) => cs.setIfInBounds (off + j) c) cs).toList = cs.toList.take (off + j) ++ new ++ cs.toList.drop (off + j + new.length)
  | [], j, cs, _ => by simp
  | c :: new, j, cs, h => by
    simp only [List.zipIdx_cons, List.foldl_cons]
    rw [foldl_set off new (j + 1) (cs.setIfInBounds (off + j) c) (by simp at h ⊢; omega)]
    have e := list_seg_step cs.toList (off + j) c new (by simp at h ⊢; omega)
    simpa [Array.toList_setIfInBounds, Nat.add_assoc] using e
theorem fill_sim {place place' : Nat → Option (Nat × Nat)} (hpp : ∀ j os, place j = some os → place' j = some os) : ∀ {parts parts' : List (Nat × Value)} {cells out : List Value} {cells' : Array Value}, fillAt place cells parts = some out →
    VL φ cells cells'.toList → parts.length = parts'.length → (∀ (i : Nat) (x y : Nat × Value), parts[i]? = some x → parts'[i]? = some y → x.1 = y.1 ∧ VP φ x.2 y.2) →
    ∃ out', Instr.fill place' cells' parts' = some out' ∧ VL φ out out'.toList
  | [], parts', cells, out, cells', h, hc, hl, _ => by
    cases h
    cases parts' with
    | nil => exact ⟨cells', rfl, hc⟩
    | cons _ _ => simp at hl
  | (i, v) :: rest, parts', cells, out, cells', h, hc, hl, hp => by
    cases parts' with
    | nil => simp at hl
    | cons y rest' =>
      obtain ⟨i', v'⟩ := y
      obtain ⟨rfl, hv⟩ := hp 0 _ _ rfl rfl
      simp only [fillAt] at h
      simp only [Instr.fill]
      cases hpl : place i with
      | none => rw [hpl] at h; cases h
      | some os =>
        obtain ⟨off, size⟩ := os
        rw [hpl] at h
        rw [hpp _ _ hpl]
        simp only at h ⊢
        cases hco : cellsOf v with
        | none => rw [hco] at h; cases h
        | some cs =>
          rw [hco] at h
          simp only at h
          split at h
          · rename_i hcond
            have hnp : isPoison v = false := by cases v <;> simp_all [isPoison, cellsOf, isCell]
            obtain ⟨h1, _, _⟩ := (hv.vr hnp).cells hco
            have hsz : v'.cells.size = size := by rw [← Array.length_toList, ← h1.1, hcond.1]
            have hcl : cells'.size = cells.length := by rw [← Array.length_toList, hc.1]
            have hoff : off + v'.cells.size ≤ cells'.size := by omega
            rw [if_neg (by simp; omega)]
            have e := foldl_set off v'.cells.toList 0 cells' (by simpa using hoff)
            refine fill_sim hpp (cells' := _) h ?_ (by simpa using hl) (fun j x y hx hy => hp (j + 1) x y (by simpa using hx) (by simpa using hy))
            rw [← Array.foldl_toList, Array.toList_zipIdx]
            simp only [Nat.add_zero] at e
            have e' := (hc.putAt h1 off)
            unfold L1.putAt at e' ⊢
            rw [show cells'.toList.take off ++ v'.cells.toList ++ cells'.toList.drop (off + v'.cells.toList.length) = _ from e.symm] at e'
            exact e'
          · cases h

/-! ### == -/
theorem bl_beq (a b : ByteArray) : (a == b) = (bl a == bl b) := by rw [beq_toListBytes, ByteArray.toList_eq, ByteArray.toList_eq]; rfl
theorem eqV_sim (d : Nat) {t : Nat} {i : TyI} (ht : TyFits P t i) {a b a' b' : Value} {r : Bool} (h : eqV a b = some r) (ha : descEq i.desc a = true) (hb : descEq i.desc b = true)
    (va : VR φ a a') (vb : VR φ b b') (w : World) : (Op.equalIn (d + 1) t a' b').run P w = .ok r w := by
  have hu := ht.und
  generalize hD : i.desc = D at *
  simp only [Op.equalIn, Sem.run_bind, run_underlying hu, Result.andThen_ok]
  unfold eqV at h
  split at h
  all_goals first | cases h | skip
  all_goals cases va
  all_goals cases vb
  all_goals cases D <;> simp [descEq] at ha hb
  all_goals simp_all [Op.equalIn, bl_beq]
theorem descEq_np {d : TypeDesc} {v : Value} (h : descEq d v = true) : isPoison v = false := by
  cases d <;> cases v <;> simp_all [descEq, isPoison]
theorem eqFields_sim (hF : Fits p P) (d : Nat) {xs ys xs' ys' : Array Value} (hx : VL φ xs.toList xs'.toList) (hy : VL φ ys.toList ys'.toList) (w : World) : ∀ {fs : List Field} {r : Bool},
    eqFields p.ty xs.toList ys.toList fs = some r → (Op.eqFields (d + 1) xs' ys' fs).run P w = .ok r w
  | [], r, h => by cases h; rfl
  | f :: fs, r, h => by
    simp only [eqFields] at h
    split at h
    · rename_i i a b hi ha hb
      split at h
      · rename_i hc
        obtain ⟨hn, hda, hdb⟩ := hc
        have ht := hF.ty _ _ hi
        obtain ⟨a', ha', va⟩ := hx.get ha
        obtain ⟨b', hb', vb⟩ := hy.get hb
        have hagg : isAggD i.desc = false := by cases hD : i.desc <;> simp_all [descEq, isAggD]
        have pa : (part f.type xs' f.offset).run P w = .ok a' w := by
          simp only [part, Sem.run_bind, run_isAgg ht, Result.andThen_ok, hagg, Bool.false_eq_true, if_false]
          rw [← Array.getElem?_toList, ha']; rfl
        have pb : (part f.type ys' f.offset).run P w = .ok b' w := by
          simp only [part, Sem.run_bind, run_isAgg ht, Result.andThen_ok, hagg, Bool.false_eq_true, if_false]
          rw [← Array.getElem?_toList, hb']; rfl
        simp only [Op.eqFields, if_pos hn, Sem.run_bind, pa, pb, Result.andThen_ok]
        split at h
        · rename_i he
          rw [eqV_sim d ht he hda hdb va vb w]
          simpa using eqFields_sim hF d hx hy w h
        · rename_i q hq
          rw [eqV_sim d ht h hda hdb va vb w]
          cases r with
          | false => simp
          | true => exact absurd h hq
      · cases h
    · cases h
theorem eqCells_sim (hF : Fits p P) (d : Nat) {e : Nat} {ei : TyI} (he : p.ty e = some ei) (hs : ei.size = 1) (hagg : isAggD ei.desc = false) (w : World) {xs' ys' : Array Value} :
    ∀ {xs ys : List Value} {r : Bool} (k : Nat), VL φ xs (xs'.toList.drop k) → VL φ ys (ys'.toList.drop k) →
    eqCells ei.desc xs ys = some r → (Op.eqItems (d + 1) e 1 xs' ys' (List.range' k xs.length)).run P w = .ok r w
  | [], [], r, k, _, _, h => by cases h; rfl
  | [], _ :: _, r, k, _, _, h => by cases h
  | _ :: _, [], r, k, _, _, h => by cases h
  | a :: xs, b :: ys, r, k, hx, hy, h => by
    have ht := hF.ty _ _ he
    simp only [eqCells] at h
    split at h
    · rename_i hc
      obtain ⟨hda, hdb⟩ := hc
      obtain ⟨a', xr, hxe, va, hx2⟩ := hx.cons_inv
      obtain ⟨b', yr, hye, vb, hy2⟩ := hy.cons_inv
      have ga : xs'[k]? = some a' := by
        have := congrArg (fun l => l[0]?) hxe
        simpa [List.getElem?_drop] using this
      have gb : ys'[k]? = some b' := by
        have := congrArg (fun l => l[0]?) hye
        simpa [List.getElem?_drop] using this
      have dx : xs'.toList.drop (k + 1) = xr := by rw [← List.drop_drop, hxe]; rfl
      have dy : ys'.toList.drop (k + 1) = yr := by rw [← List.drop_drop, hye]; rfl
      have pa : (part e xs' (k * 1)).run P w = .ok a' w := by
        simp only [part, Sem.run_bind, run_isAgg ht, Result.andThen_ok, hagg, Bool.false_eq_true, if_false, Nat.mul_one, ga, Sem.run_pure]
      have pb : (part e ys' (k * 1)).run P w = .ok b' w := by
        simp only [part, Sem.run_bind, run_isAgg ht, Result.andThen_ok, hagg, Bool.false_eq_true, if_false, Nat.mul_one, gb, Sem.run_pure]
      simp only [List.length_cons, List.range'_succ, Op.eqItems, Sem.run_bind, pa, pb, Result.andThen_ok]
      split at h
      · rename_i hq
        rw [eqV_sim d ht hq hda hdb va vb w]
        have := eqCells_sim hF d he hs hagg w (k + 1) (dx ▸ hx2) (dy ▸ hy2) h
        simpa using this
      · rename_i q hq
        rw [eqV_sim d ht h hda hdb va vb w]
        cases r with
        | false => simp
        | true => exact absurd h hq
    · cases h

def noGuard : Value → Bool
  | .agg _ | .nilIface => false
  | _ => true
theorem descEq_noGuard {d : TypeDesc} {v v' : Value} (h : descEq d v = true) (hv : VR φ v v') : noGuard v' = true := by
  have : noGuard v = true := by cases d <;> cases v <;> simp_all [descEq, noGuard]
  cases hv <;> simp_all [noGuard]
theorem run_eqGuard_plain (op : BinOp) (t : TypeId) (x y : Operand) {a b : Value} (h : noGuard a = true) (w : World) : (eqGuard op t x y a b).run P w = .ok () w := by
  unfold eqGuard
  cases a <;> first | (simp [noGuard] at h; done) | (cases op <;> simp)
theorem eqT_sim (hF : Fits p P) {t : Nat} {i : TyI} (hi : p.ty t = some i) {a b a' b' : Value} {r : Bool} (h : eqT p.ty i a b = some r)
    (va : VP φ a a') (vb : VP φ b b') (w : World) (x y : Operand) (op : BinOp) : (eqGuard op t x y a' b').run P w = .ok () w ∧ (Op.equal t a' b').run P w = .ok r w := by
  have ht := hF.ty _ _ hi
  have scalar : descEq i.desc a = true → descEq i.desc b = true → eqV a b = some r → (eqGuard op t x y a' b').run P w = .ok () w ∧ (Op.equal t a' b').run P w = .ok r w := by
    intro hda hdb he
    have va' := va.vr (descEq_np hda)
    have vb' := vb.vr (descEq_np hdb)
    exact ⟨run_eqGuard_plain op t x y (descEq_noGuard hda va') w, eqV_sim 9999 ht he hda hdb va' vb' w⟩
  unfold eqT at h
  split at h
  · rename_i fs xs ys hD
    split at h
    · rename_i hok
      cases va.vr rfl with
      | agg la h1 =>
        cases vb.vr rfl with
        | agg lb h2 =>
          obtain ⟨e1, e2⟩ := ht.eqok hok
          refine ⟨run_eqGuard_agg w op t x y _ _ e1, ?_⟩
          have hfs : P.fieldsOf t = fs := by simp [Program.fieldsOf, ht.und, hD]
          have hut : P.underlying t = some (.struct (P.fieldsOf t)) := by rw [hfs, ht.und, hD]
          have := eqFields_sim hF 9998 (xs' := _) (ys' := _) ⟨la, h1⟩ ⟨lb, h2⟩ w h
          rw [show Op.equal t _ _ = Op.equalIn (9999 + 1) t _ _ from rfl, run_equalIn_struct w 9999 t _ _ hut e2, hfs]
          exact this
    · cases h
  · rename_i n e xs ys hD
    split at h
    · rename_i ei hei
      split at h
      · rename_i hc
        obtain ⟨hok, hs, hagg, l1, l2⟩ := hc
        cases va.vr rfl with
        | agg la h1 =>
          cases vb.vr rfl with
          | agg lb h2 =>
            obtain ⟨e1, _⟩ := ht.eqok hok
            refine ⟨run_eqGuard_agg w op t x y _ _ e1, ?_⟩
            obtain ⟨⟨xi, hxi, hxs, _⟩, _, _, _, _⟩ := hF.ty _ _ hei
            have hu : P.underlying t = some (.array n e) := by rw [ht.und, hD]
            rw [show Op.equal t _ _ = Op.equalIn (9999 + 1) t _ _ from rfl, run_equalIn_array w 9999 _ _ hu hxi]
            have hco : P.cellsOf e = 1 := by simp [Program.cellsOf, hxi, hxs, hs]
            rw [hco, List.range_eq_range', ← l1]
            exact eqCells_sim hF 9998 hei hs hagg w 0 ⟨la, h1⟩ ⟨lb, h2⟩ h
      · cases h
    · cases h
  · split at h
    · rename_i hc
      exact scalar hc.1 hc.2 h
    · cases h
end mem
end Go.L1
