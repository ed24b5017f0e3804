/- Texts of a proof: no condition. -/
import Derived.Test.YtbmpmjljbiepiaaGreatOneI
set_option autoImplicit true
set_option relaxedAutoImplicit true
set_option linter.all false
set_option linter.unusedVariables false
set_option linter.unusedSimpArgs false
/-! L1, tenth part: clear, maps; one operation that writes, but for calls. -/
namespace Go.L1
open Go

section
variable {p : Pg} {P : Program} {φ : Emb} {w : World}

theorem rClear_sim (hF : Fits p P) {h h1 : H} (hR : Rel p φ h.get w) (hd : Dom φ h.n) {t e : Nat} {i ei : TyI} (ht : p.ty t = some i) (hD : i.desc = .slice e) (he : p.ty e = some ei) {ts : Array TypeId} (h0 : ts[0]? = some t)
    {x x' v : Value} {l1 : List Nat} (hh : rClear h ei x = some (v, h1, l1)) (hx : VP φ x x') (ty : TypeId) :
    ∃ v' w', (Builtin.clear_ ts ty #[x']).run P w = .ok v' w' ∧ Post p φ h w v h1 v' w' := by
  have hu : P.underlying t = some (.slice e) := by rw [(hF.ty _ _ ht).und, hD]
  unfold rClear at hh
  split at hh
  · rename_i a n c
    split at hh
    · rename_i hn
      subst hn
      cases hh
      obtain ⟨a', c', rfl, _⟩ := slice_shape hx
      refine ⟨.tuple #[], w, ?_, φ, Gr.refl w hd, Fr.refl _ _ _, hR, vr_ud.vp⟩
      simp only [Builtin.clear_, h0, List.getElem?_toArray, List.getElem?_cons_zero, Sem.run_bind, run_underlying hu, Result.andThen_ok]
      cases a' <;> rfl
    · rename_i hn
      split at hh
      · rename_i b o
        obtain ⟨h2, hw, hq⟩ := Option.map_eq_some_iff.1 hh
        cases hq
        obtain ⟨z, hz, hzc, hzp, hza⟩ := run_zero (hF.ty _ _ he) w
        have hzv : VL φ ei.zero z.cells.toList := ((VR.pure φ hzp).cells hzc).1
        obtain ⟨bi, a', c', hb, rfl, hnc, ha, hc⟩ := hx.sliceI
        have hv := rep_VL hzv n (n * z.cells.size) (by rw [hzv.1]; simp)
        obtain ⟨w', hs, hp⟩ := post_of_write (P := P) (v := ud) (v' := .tuple #[]) hw hb hR hd hv (rep_isCell (cellsOf_isCell hzc) n) vr_ud.vp
        refine ⟨_, w', ?_, hp⟩
        rcases ha with ha | ha
        · omega
        · subst ha
          simp only [Builtin.clear_, h0, List.getElem?_toArray, List.getElem?_cons_zero, Sem.run_bind, run_underlying hu, Result.andThen_ok]
          cases n with
          | zero => exact absurd rfl hn
          | succ n =>
            simp only [hz, Result.andThen_ok]
            have hs' : (storeCells ⟨bi.r, bi.o + o, none⟩ (Builtin.zeroCells z.cells (n + 1)).toList).run P w = .ok () w' := hs
            rw [hs']
            rfl
      · cases hh
  · cases hh

theorem getObj_map {r : Nat} {es : Array MapEntry} {clock : Nat} (h : w.heap[r]? = some (.map es clock)) : (getObj r).run P w = .ok (.map es clock) w := by simp [getObj, Sem.run, h]
theorem setObj_map {r : Nat} {es : Array MapEntry} {clock : Nat} (h : w.heap[r]? = some (.map es clock)) (o : Obj) : (setObj r o).run P w = .ok () { w with heap := w.heap.setIfInBounds r o } := by simp [setObj, Sem.run, h]

/-- where a key stands -/
theorem putK_sim {k : ByteArray} {x x' : Value} (hx : VR φ x x') (hxc : isCell x = true) : ∀ {es es1 : List (Value × Value)} {es' : List MapEntry} (j : Nat), putK k x es = some es1 → es.length = es'.length →
    (∀ (i : Nat) (k v : Value) (e : MapEntry), es[i]? = some (k, v) → es'[i]? = some e → (∃ s, k = .string s ∧ e.key = .string s) ∧ VR φ v e.val ∧ isCell v = true) →
    (Instr.findNow .string (.string k) es' j = some none ∧ es1 = es ++ [(.string k, x)]) ∨
    (∃ i e, Instr.findNow .string (.string k) es' j = some (some (j + i, e.val)) ∧ es'[i]? = some e ∧ (∃ s, e.key = .string s ∧ bl k = bl s) ∧ i < es.length ∧ es1 = es.set i (.string k, x))
  | [], es1, es', j, h, hl, _ => by
    cases h
    cases es' with
    | nil => exact .inl ⟨rfl, rfl⟩
    | cons _ _ => simp at hl
  | (k', v) :: es, es1, es', j, h, hl, he => by
    cases es' with
    | nil => simp at hl
    | cons e es' =>
      obtain ⟨⟨s, rfl, hs⟩, hv, hc⟩ := he 0 k' v e rfl rfl
      simp only [putK] at h
      simp only [Instr.findNow, hs, sameNow_str]
      split at h
      · rename_i heq
        cases h
        rw [heq]
        exact .inr ⟨0, e, rfl, rfl, ⟨s, hs, by simpa using heq⟩, by simp, rfl⟩
      · rename_i heq
        have hf : (bl k == bl s) = false := by simpa using heq
        rw [hf]
        obtain ⟨r, hr, rfl⟩ := Option.map_eq_some_iff.1 h
        rcases putK_sim hx hxc (j + 1) hr (by simpa using hl) (fun i k v e h1 h2 => he (i + 1) k v e (by simpa using h1) (by simpa using h2)) with ⟨h1, rfl⟩ | ⟨i, e2, h1, h2, h3, h4, rfl⟩
        · exact .inl ⟨h1, rfl⟩
        · exact .inr ⟨i + 1, e2, by rw [h1, show j + 1 + i = j + (i + 1) by omega], by simpa using h2, h3, by rw [List.length_cons]; exact Nat.succ_lt_succ h4, rfl⟩

theorem rMapUpd_sim (hF : Fits p P) {h h1 : H} (hR : Rel p φ h.get w) (hd : Dom φ h.n) {t kt e : Nat} {i ki : TyI} (ht : p.ty t = some i) (hD : i.desc = .map kt e) (hk : p.ty kt = some ki) (hks : ki.desc = .string)
    {m k x m' k' x' v : Value} {l1 : List Nat} (hh : rMapUpd h m k x = some (v, h1, l1)) (hm : VP φ m m') (hkv : VP φ k k') (hx : VP φ x x') :
    ∃ w', (Instr.mapUpdate t m' k' x').run P w = .ok () w' ∧ Post p φ h w v h1 undef w' := by
  have hu : P.underlying t = some (.map kt e) := by rw [(hF.ty _ _ ht).und, hD]
  have huk : P.underlying kt = some .string := by rw [(hF.ty _ _ hk).und, hks]
  unfold rMapUpd at hh
  split at hh
  · rename_i r s
    split at hh
    · rename_i es hC
      split at hh
      · rename_i hxc
        obtain ⟨es1, hput, hq⟩ := Option.map_eq_some_iff.1 hh
        cases hq
        obtain ⟨bi, hb, rfl⟩ := hm.mapI
        have hks' := hkv.strI
        subst hks'
        have hxv := hx.vr (by cases x <;> simp_all [isPoison, isCell])
        obtain ⟨ob, hC', hrel⟩ := hR.blk r bi hb
        rw [hC] at hC'
        cases hC'
        cases hrel with
        | @map _ es' clock hw hl hke =>
          have fin : ∀ {es2 : Array MapEntry} {clock2 : Nat}, es1.length = es2.toList.length →
              (∀ (i : Nat) (k v : Value) (e : MapEntry), es1[i]? = some (k, v) → es2.toList[i]? = some e → (∃ s, k = .string s ∧ e.key = .string s) ∧ VR φ v e.val ∧ isCell v = true) →
              Post p φ h w ud (h.set r (.map es1)) undef { w with heap := w.heap.setIfInBounds bi.r (.map es2 clock2) } := by
            intro es2 clock2 hl2 hke2
            have hlt : bi.r < w.heap.size := (Array.getElem?_eq_some_iff.1 hw).1
            have hset : (h.set r (.map es1)).get = fun j => if j = r then some (.map es1) else h.get j := by funext j; exact H.get_set ..
            refine ⟨φ, ⟨fun _ _ => rfl, hd, Nat.le_refl _, fun q _ ho => ?_, fun q _ ho => ?_⟩, ⟨rfl, rfl, rfl, by simp, fun q _ ho => ?_⟩, ?_, vr_ud.vp⟩
            · rw [hset] at ho; exact owned_upd hC rfl ho
            · rw [hset] at ho; exact uses_upd hC rfl ho
            · have : bi.r ≠ q := fun e => ho ⟨r, bi, _, hb, hC, rfl, e⟩
              simp [this]
            · rw [hset]
              refine hR.upd hb hC rfl rfl (fun k hk => by simp [Ne.symm hk]) (.map (es' := es2) (clock := clock2) (by simp [hlt]) hl2 hke2)
          rcases putK_sim hxv hxc 0 hput hl hke with ⟨hf, rfl⟩ | ⟨i0, e0, hf, he0, ⟨s0, hs0, hs1⟩, hi0, rfl⟩
          · refine ⟨_, ?_, fin (es2 := es'.push { key := .string s, val := x', born := clock }) (clock2 := clock + 1) (by simp [hl]) ?_⟩
            · simp only [Instr.mapUpdate, Sem.run_bind, run_underlying hu, Result.andThen_ok, getObj_map hw, checkKey_str huk, Instr.findKey, run_underlying huk, hf, Sem.run_pure]
              exact setObj_map hw _
            · intro i k v e h1 h2
              simp only [Array.toList_push] at h2
              rw [List.getElem?_append] at h1 h2
              rw [← hl] at h2
              split at h1
              · rename_i hi
                rw [if_pos hi] at h2
                exact hke i k v e h1 h2
              · rename_i hi
                rw [if_neg hi] at h2
                rcases hz : i - es.length with _ | q
                · rw [hz] at h1 h2
                  cases h1
                  cases h2
                  exact ⟨⟨s, rfl, rfl⟩, hxv, hxc⟩
                · rw [hz] at h1
                  simp at h1
          · have hkeys : s0 = s := by
              have : s.data.toList = s0.data.toList := hs1
              cases s; cases s0
              simp only at this
              congr 1
              exact (Array.ext' this).symm
            subst hkeys
            have hi' : i0 < es'.size := by simpa [hl] using hi0
            have hg : es'[i0]? = some e0 := by rw [← Array.getElem?_toList]; exact he0
            refine ⟨_, ?_, fin (es2 := es'.modify i0 fun e => { e with key := .string s0, val := x' }) (clock2 := clock) (by simp [hl]) ?_⟩
            · simp only [Instr.mapUpdate, Sem.run_bind, run_underlying hu, Result.andThen_ok, getObj_map hw, checkKey_str huk, Instr.findKey, run_underlying huk, hf, Sem.run_pure, Nat.zero_add, hg, Option.map_some, Option.getD_some, hs0, Instr.keyThatStays, Instr.sameBits, show (s0 == s0) = true from by rw [bl_beq]; simp, if_true]
              exact setObj_map hw _
            · intro i k v e h1 h2
              rw [List.getElem?_set] at h1
              rw [Array.getElem?_toList, Array.getElem?_modify] at h2
              split at h1
              · rename_i hii
                subst hii
                cases h1
                rw [if_pos rfl, hg] at h2
                cases h2
                exact ⟨⟨s0, rfl, rfl⟩, hxv, hxc⟩
              · rename_i hii
                rw [if_neg hii] at h2
                exact hke i k v e h1 (by rw [Array.getElem?_toList]; exact h2)
      · cases hh
    · cases hh
  · cases hh

/-- What one operation comes to. -/
def Did (r : Result Next) (v' : Value) (w' : World) : Prop := r = .ok (.value v') w' ∨ (r = .ok .skip w' ∧ v' = undef)

theorem elemOf_inv {o : Option Nat} {e : Nat} {ei : TyI} (h : elemOf p o = some (e, ei)) : ∃ t i, o = some t ∧ p.ty t = some i ∧ i.desc = .slice e ∧ p.ty e = some ei := by
  unfold elemOf at h
  obtain ⟨t, ht, h⟩ := Option.bind_eq_some_iff.1 h
  obtain ⟨i, hi, h⟩ := Option.bind_eq_some_iff.1 h
  split at h
  · rename_i e' hD
    obtain ⟨ei', hei, h⟩ := Option.map_eq_some_iff.1 h
    cases h
    exact ⟨t, i, ht, hi, hD, hei⟩
  · cases h

theorem list2 {β γ : Type} {f : β → γ} {l : List β} {x y : γ} (h : l.map f = [x, y]) : ∃ a b, l = [a, b] ∧ f a = x ∧ f b = y := by
  match l, h with
  | [a, b], h => simp at h; exact ⟨a, b, rfl, h⟩

theorem list1 {β γ : Type} {f : β → γ} {l : List β} {x : γ} (h : l.map f = [x]) : ∃ a, l = [a] ∧ f a = x := by
  match l, h with
  | [a], h => simp at h; exact ⟨a, rfl, h⟩

theorem run_append {a : Act} {al : List Operand} {ts : Array TypeId} {type : TypeId} {dst : Option Nat} {pos : String} {after : Array Edge} {guard : Option (Nat × Bool)} {v : Value} {w' : World}
    (h : (Builtin.append_ ts type ⟨al.map a.eval⟩).run P w = .ok v w') :
    (execOp a.eval { dst := dst, op := .call { callee := .builtin .append, args := ⟨al⟩, argTypes := ts }, type := type, pos := pos, after := after, guard := guard }).run P w = .ok (.value v) w' := by
  simp only [execOp, resolve, Sem.run_bind, Sem.run_pure, Result.andThen_ok, invoke, builtin, List.map_toArray]
  rw [h]; rfl
theorem run_copy {a : Act} {al : List Operand} {ts : Array TypeId} {type : TypeId} {dst : Option Nat} {pos : String} {after : Array Edge} {guard : Option (Nat × Bool)} {v : Value} {w' : World}
    (h : (Builtin.copy_ ts type ⟨al.map a.eval⟩).run P w = .ok v w') :
    (execOp a.eval { dst := dst, op := .call { callee := .builtin .copy, args := ⟨al⟩, argTypes := ts }, type := type, pos := pos, after := after, guard := guard }).run P w = .ok (.value v) w' := by
  simp only [execOp, resolve, Sem.run_bind, Sem.run_pure, Result.andThen_ok, invoke, builtin, List.map_toArray]
  rw [h]; rfl
theorem run_clear {a : Act} {al : List Operand} {ts : Array TypeId} {type : TypeId} {dst : Option Nat} {pos : String} {after : Array Edge} {guard : Option (Nat × Bool)} {v : Value} {w' : World}
    (h : (Builtin.clear_ ts type ⟨al.map a.eval⟩).run P w = .ok v w') :
    (execOp a.eval { dst := dst, op := .call { callee := .builtin .clear, args := ⟨al⟩, argTypes := ts }, type := type, pos := pos, after := after, guard := guard }).run P w = .ok (.value v) w' := by
  simp only [execOp, resolve, Sem.run_bind, Sem.run_pure, Result.andThen_ok, invoke, builtin, List.map_toArray]
  rw [h]; rfl

/-- One operation that may write, but for calls of functions. -/
theorem heavy_sim (hF : Fits p P) {call : CallF} {T : Env} {a : Act} {h h1 : H} (hR : Rel p φ h.get w) (hd : Dom φ h.n) (o : Oper) {v : Value} {l1 : List Nat} (hh : heavyV p call T h o.op = some (v, h1, l1))
    (hE : ∀ x ∈ o.op.operands.toList, VP φ (eval T x) (a.eval x)) (hnc : ∀ f as ts, o.op ≠ .call { callee := .value f, args := as, argTypes := ts }) :
    ∃ v' w', Did ((execOp a.eval o).run P w) v' w' ∧ Post p φ h w v h1 v' w' := by
  obtain ⟨dst, op, type, pos, after, guard⟩ := o
  simp only at hh hE hnc
  cases op <;> simp only [heavyV] at hh <;> try contradiction
  case store t x y =>
    obtain ⟨i, hi, hh⟩ := Option.bind_eq_some_iff.1 hh
    obtain ⟨w', h1, h2⟩ := rStore_sim (P := P) hF hR hd hi hh (hE x (by simp [Op.operands])) (hE y (by simp [Op.operands]))
    exact ⟨undef, w', .inr ⟨by simp [execOp, h1], rfl⟩, h2⟩
  case mapUpdate t m k x =>
    obtain ⟨i, hi, hh⟩ := Option.bind_eq_some_iff.1 hh
    split at hh
    · rename_i kt e hD
      obtain ⟨ki, hki, hh⟩ := Option.bind_eq_some_iff.1 hh
      split at hh
      · rename_i hks
        obtain ⟨w', h1, h2⟩ := rMapUpd_sim (P := P) hF hR hd hi hD hki hks hh (hE m (by simp [Op.operands])) (hE k (by simp [Op.operands])) (hE x (by simp [Op.operands]))
        exact ⟨undef, w', .inr ⟨by simp [execOp, h1], rfl⟩, h2⟩
      · cases hh
    · cases hh
  case call c =>
    obtain ⟨callee, args, ts⟩ := c
    cases callee <;> simp only at hh <;> try contradiction
    · exact absurd rfl (hnc _ _ _)
    rename_i b
    obtain ⟨al⟩ := args
    have hargs : ∀ x, x ∈ al → VP φ (eval T x) (a.eval x) := fun x hx => hE x (by simpa [Op.operands, Call.operands] using hx)
    unfold builtinH at hh
    split at hh
    · rename_i s x he
      obtain ⟨so, xo, rfl, rfl, rfl⟩ := list2 he
      obtain ⟨⟨e, ei⟩, he1, hh⟩ := Option.bind_eq_some_iff.1 hh
      obtain ⟨⟨m, new⟩, hnew, hh⟩ := Option.bind_eq_some_iff.1 hh
      obtain ⟨t, i, ht, hi, hD, hei⟩ := elemOf_inv he1
      rw [Array.getElem?_toList] at ht
      simp only at hh
      split at hh
      · rename_i sa n cc hs
        have hvs := hargs so (by simp)
        rw [hs] at hvs
        cases htx : ts.toList[1]? with
        | none => rw [htx] at hnew; simp [appNew] at hnew
        | some tx =>
          rw [htx] at hnew
          simp only [Option.bind_some] at hnew
          rw [Array.getElem?_toList] at htx
          obtain ⟨v', w', h2, h3⟩ := rAppend_sim (P := P) hF hR hd hi hD hei ht htx hh hnew hvs (hargs xo (by simp)) type
          exact ⟨v', w', .inl (run_append h2), h3⟩
      · cases hh
    · rename_i d x he
      obtain ⟨so, xo, rfl, rfl, rfl⟩ := list2 he
      obtain ⟨⟨e, ei⟩, he1, hh⟩ := Option.bind_eq_some_iff.1 hh
      obtain ⟨t, i, ht, hi, hD, hei⟩ := elemOf_inv he1
      rw [Array.getElem?_toList] at ht
      obtain ⟨v', w', h2, h3⟩ := rCopy_sim (P := P) hF hR hd hi hD hei ht hh (hargs so (by simp)) (hargs xo (by simp)) type
      exact ⟨v', w', .inl (run_copy h2), h3⟩
    · rename_i d he
      obtain ⟨so, rfl, rfl⟩ := list1 he
      obtain ⟨⟨e, ei⟩, he1, hh⟩ := Option.bind_eq_some_iff.1 hh
      obtain ⟨t, i, ht, hi, hD, hei⟩ := elemOf_inv he1
      rw [Array.getElem?_toList] at ht
      obtain ⟨v', w', h2, h3⟩ := rClear_sim (P := P) hF hR hd hi hD hei ht hh (hargs so (by simp)) type
      exact ⟨v', w', .inl (run_clear h2), h3⟩
    · cases hh
end
end Go.L1
