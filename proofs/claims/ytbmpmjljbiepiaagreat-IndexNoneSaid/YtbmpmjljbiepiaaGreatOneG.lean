/- Texts of a proof: no condition. -/
import Derived.Test.YtbmpmjljbiepiaaGreatOneF
import Derived.IntWalk
set_option autoImplicit true
set_option relaxedAutoImplicit true
set_option linter.all false
set_option linter.unusedVariables false
set_option linter.unusedSimpArgs false
/-! L1, seventh part: an operation that makes one object. -/
namespace Go.L1
open Go

def Emb.put (φ : Emb) (n : Nat) (bi : BI) : Emb := fun j => if j = n then some bi else φ j
theorem Emb.put_self (φ : Emb) (n : Nat) (bi : BI) : φ.put n bi n = some bi := by simp [Emb.put]
theorem Emb.put_ne {φ : Emb} {n b : Nat} {bi : BI} (h : b ≠ n) : φ.put n bi b = φ b := by simp [Emb.put, h]
theorem Emb.sub_put {φ : Emb} {n : Nat} {bi : BI} (h : φ n = none) : Sub φ (φ.put n bi) := by
  intro b c hb
  rw [Emb.put_ne]
  · exact hb
  · rintro rfl; rw [h] at hb; cases hb

section
variable {p : Pg} {P : Program} {φ : Emb} {w : World}

def Laid (p : Pg) (φ : Emb) (w : World) (n : Nat) (v : Value) (ob : IObj) (v' : Value) (o' : Obj) : Prop :=
  ∃ bi : BI, bi.r = w.heap.size ∧ VR (φ.put n bi) v v' ∧ (∀ w' : World, w'.heap[bi.r]? = some o' → BlockRel p (φ.put n bi) bi w' ob) ∧ liveO ob = true ∧ rwO ob = true

theorem laid_cells (hn : φ n = none) {e : Nat} {ei : TyI} (he : p.ty e = some ei) {cs : List Value} {cs' : Array Value} (hv : VL φ cs cs'.toList) (hc : ∀ x ∈ cs, isCell x = true) {v v' : Value}
    (hval : VR (φ.put n ⟨w.heap.size, 0, cs'.size, ei.size, cs.length⟩) v v') : Laid p φ w n v (.cells cs e false) v' (.cells cs' e) := by
  refine ⟨⟨w.heap.size, 0, cs'.size, ei.size, cs.length⟩, rfl, hval, fun w' hw' => ?_, rfl, rfl⟩
  have hl : cs.length = cs'.toList.length := hv.1
  refine .cells he rfl rfl hw' rfl (by simp [hl]) ?_ hc (fun _ => rfl) (fun _ x hx => hv.cellR hc x (List.mem_of_mem_drop hx))
  simp only [List.drop_zero]
  rw [List.take_of_length_le (by omega)]
  exact hv.mono (Emb.sub_put hn)

theorem rep_length (z : List Value) : ∀ n, (rep z n).length = n * z.length
  | 0 => by simp [rep]
  | n + 1 => by simp [rep, rep_length z n, Nat.add_mul]; omega
theorem rep_get (z : List Value) (hz : 0 < z.length) : ∀ (n i : Nat), i < n * z.length → (rep z n)[i]? = z[i % z.length]?
  | 0, i, h => by simp at h
  | n + 1, i, h => by
    simp only [rep]
    rw [List.getElem?_append]
    split
    · rename_i hlt; rw [Nat.mod_eq_of_lt hlt]
    · rename_i hlt
      rw [rep_get z hz n (i - z.length) (by rw [Nat.succ_mul] at h; omega)]
      rw [← Nat.mod_eq_sub_mod (by omega)]
theorem rep_isCell {z : List Value} (hz : ∀ x ∈ z, isCell x = true) : ∀ n, ∀ x ∈ rep z n, isCell x = true
  | 0, x, h => by simp [rep] at h
  | n + 1, x, h => by
    simp only [rep, List.mem_append] at h
    rcases h with h | h
    · exact hz x h
    · exact rep_isCell hz n x h
/-- n times the zero value's cells, as the model lays them -/
theorem rep_VL {z : List Value} {zc : Array Value} (hz : VL φ z zc.toList) (n m : Nat) (hm : m = n * z.length) :
    VL φ (rep z n) ((Array.range m).map fun i => zc[i % zc.size]!).toList := by
  subst hm
  have hl : zc.size = z.length := by rw [hz.1]; simp
  refine ⟨by simp [rep_length], fun i x y hx hy => ?_⟩
  have hi : i < n * z.length := by rw [← rep_length]; exact (List.getElem?_eq_some_iff.1 hx).1
  have hz0 : 0 < z.length := by
    rcases Nat.eq_zero_or_pos z.length with h | h
    · rw [h] at hi; simp at hi
    · exact h
  rw [rep_get z hz0 n i hi] at hx
  simp only [Array.toList_map, Array.toList_range, List.getElem?_map, List.getElem?_range hi, Option.map_some, Option.some.injEq] at hy
  subst hy
  have hmod : i % zc.size < zc.size := Nat.mod_lt _ (by omega)
  refine hz.2 (i % z.length) x _ hx ?_
  rw [← hl, Array.getElem?_toList]
  simp [hmod]
theorem cellsOf_isCell {z : Value} {l : List Value} (h : cellsOf z = some l) : ∀ x ∈ l, isCell x = true := by
  rcases cellsOf_one h with ⟨a, rfl, rfl, hall⟩ | ⟨hc, rfl⟩
  · exact hall
  · intro x hx; simp at hx; subst hx; exact hc
theorem putAt_isCell {cs new : List Value} {off : Nat} (h : ∀ x ∈ cs, isCell x = true) (h' : ∀ x ∈ new, isCell x = true) : ∀ x ∈ putAt cs off new, isCell x = true := by
  intro x hx
  simp only [putAt, List.mem_append] at hx
  rcases hx with (hx | hx) | hx
  · exact h x (List.mem_of_mem_take hx)
  · exact h' x hx
  · exact h x (List.mem_of_mem_drop hx)
theorem fillAt_isCell {place : Nat → Option (Nat × Nat)} : ∀ {parts : List (Nat × Value)} {cells out : List Value}, fillAt place cells parts = some out → (∀ x ∈ cells, isCell x = true) → ∀ x ∈ out, isCell x = true
  | [], cells, out, h, hc => by cases h; exact hc
  | (i, v) :: rest, cells, out, h, hc => by
    simp only [fillAt] at h
    split at h
    · cases h
    · split at h
      · cases h
      · rename_i cs hcs
        split at h
        · exact fillAt_isCell h (putAt_isCell hc (cellsOf_isCell hcs))
        · cases h
theorem fillAt_length {place : Nat → Option (Nat × Nat)} : ∀ {parts : List (Nat × Value)} {cells out : List Value}, fillAt place cells parts = some out → out.length = cells.length
  | [], cells, out, h => by cases h; rfl
  | (i, v) :: rest, cells, out, h => by
    simp only [fillAt] at h
    split at h
    · cases h
    · split at h
      · cases h
      · split at h
        · rename_i hle
          rw [fillAt_length h, putAt_length (by omega)]
        · cases h

theorem alloc_sim (hF : Fits p P) {T : Env} {a : Act} {n : Nat} (hn : φ n = none) (o : Oper) {v : Value} {ob : IObj} (h : allocV p T n o.op = some (v, ob))
    (hE : ∀ x ∈ o.op.operands.toList, VP φ (eval T x) (a.eval x)) :
    ∃ v' o', (execOp a.eval o).run P w = .ok (.value v') { w with heap := w.heap.push o' } ∧ Laid p φ w n v ob v' o' := by
  obtain ⟨dst, op, type, pos, after, guard⟩ := o
  simp only at h hE
  have ptr : ∀ {sz es isz : Nat}, VR (φ.put n ⟨w.heap.size, 0, sz, es, isz⟩) (.pointer (some ⟨n, 0, none⟩)) (.pointer (some ⟨w.heap.size, 0, none⟩)) := fun {sz es isz} =>
    VR.ptr (bi := ⟨w.heap.size, 0, sz, es, isz⟩) (Emb.put_self _ _ _)
  cases op <;> simp only [allocV] at h <;> try contradiction
  case alloc e =>
    obtain ⟨i, hi, h⟩ := Option.bind_eq_some_iff.1 h
    cases h
    obtain ⟨z, hz, hzc, hzp, hza⟩ := run_zero (hF.ty _ _ hi) w
    refine ⟨.pointer (some ⟨w.heap.size, 0, none⟩), .cells z.cells e, ?_, laid_cells hn hi (cs' := z.cells) (((VR.pure φ hzp).cells hzc).1) (cellsOf_isCell hzc) ptr⟩
    simp [execOp, Instr.alloc, hz, newVar, newRow]
  case box e x =>
    obtain ⟨i, hi, h⟩ := Option.bind_eq_some_iff.1 h
    obtain ⟨cs, hcs, h⟩ := Option.bind_eq_some_iff.1 h
    split at h
    · cases h
      have hx := hE x (by simp [Op.operands])
      have hnp : isPoison (eval T x) = false := by generalize eval T x = q at hcs; cases q <;> simp_all [isPoison, cellsOf, isCell]
      obtain ⟨h1, _, _⟩ := (hx.vr hnp).cells hcs
      refine ⟨.pointer (some ⟨w.heap.size, 0, none⟩), .cells (a.eval x).cells e, ?_, laid_cells hn hi (cs' := (a.eval x).cells) h1 (cellsOf_isCell hcs) ptr⟩
      simp [execOp, Instr.box, newVar, newRow]
    · cases h
  case buildSlice t len ps =>
    obtain ⟨i, hi, h⟩ := Option.bind_eq_some_iff.1 h
    split at h
    · rename_i e hD
      obtain ⟨ei, hei, h⟩ := Option.bind_eq_some_iff.1 h
      split at h
      · rename_i hle
        obtain ⟨cs, hcs, h⟩ := Option.bind_eq_some_iff.1 h
        cases h
        have hu : P.underlying t = some (.slice e) := by rw [(hF.ty _ _ hi).und, hD]
        obtain ⟨z, hz, hzc, hzp, hza⟩ := run_zero (hF.ty _ _ hei) w
        have hzv : VL φ ei.zero z.cells.toList := ((VR.pure φ hzp).cells hzc).1
        have hzl : ei.zero.length = ei.size := (hF.ty _ _ hei).info.elim fun _ h => h.2.2.2.2
        obtain ⟨out', h1, h2⟩ := fill_sim (φ := φ) (place := fun j => some (j * ei.size, ei.size)) (place' := fun j => some (j * ei.size, ei.size)) (fun _ _ h => h)
          (cells' := (Array.range (len * ei.size)).map fun i => z.cells[i % z.cells.size]!) (parts' := (ps.map fun (i, x) => (i, a.eval x)).toList) hcs (rep_VL hzv len _ (by rw [hzl])) (by simp) (fun j x y hx hy => by
            rw [Array.toList_map] at hy
            simp only [List.getElem?_map] at hx hy
            obtain ⟨q, hq, rfl⟩ := Option.map_eq_some_iff.1 hx
            rw [hq] at hy
            simp only [Option.map_some, Option.some.injEq] at hy
            subst hy
            exact ⟨rfl, hE q.2 (by simp [Op.operands]; exact ⟨q.1, by simpa using List.mem_of_getElem? hq⟩)⟩)
        have hcc := fillAt_isCell hcs (rep_isCell (cellsOf_isCell hzc) len)
        refine ⟨.slice (some ⟨w.heap.size, 0, none⟩) len len, .cells out' e, ?_, laid_cells hn hei (cs' := out') h2 hcc ?_⟩
        · simp only [execOp, Instr.buildSlice, Sem.run_bind, run_underlying hu, Result.andThen_ok, run_size (hF.ty _ _ hei), if_neg (show ¬ len * ei.size > 2 ^ 24 by rw [Nat.mul_add] at hle; omega)]
          by_cases h0 : len * ei.size = 0
          · have h1' := h1
            rw [h0] at h1'
            simp only [h0, if_true]
            rw [Sem.run_bind, Sem.run_pure]
            simp only [Result.andThen_ok]
            have e0 : ∀ f : Nat → Value, Array.map f (Array.range 0) = #[] := fun f => by simp
            rw [e0] at h1' ⊢
            rw [h1']
            rfl
          · simp only [h0, if_false, Sem.run_bind, hz, Sem.run_pure, Result.andThen_ok]
            rw [h1]
            rfl
        · refine VR.slice (bi := ⟨w.heap.size, 0, _, _, _⟩) (Emb.put_self _ _ _) (Nat.le_refl _) (.inr rfl) (.inr ⟨rfl, ?_⟩)
          rw [Nat.mul_add] at hle
          unfold uc
          omega
      · cases h
    · cases h
  case makeMap t r =>
    cases r <;> simp only [allocV] at h <;> try contradiction
    cases h
    refine ⟨.map (some w.heap.size), .map #[] 0, by simp [execOp, Instr.makeMap], ⟨w.heap.size, 0, 0, 0, 0⟩, rfl, VR.map (bi := ⟨w.heap.size, 0, 0, 0, 0⟩) (Emb.put_self _ _ _), fun w' hw' => .map hw' rfl (fun i k v e h => by simp at h), rfl, rfl⟩
  case makeSlice t l c =>
    obtain ⟨i, hi, h⟩ := Option.bind_eq_some_iff.1 h
    have hl := hE l (by simp [Op.operands])
    have hc := hE c (by simp [Op.operands])
    split at h
    · rename_i e hD
      obtain ⟨ei, hei, h⟩ := Option.bind_eq_some_iff.1 h
      split at h
      · rename_i lv cv hlv hcv
        split at h
        · rename_i hcond
          obtain ⟨h0, hlc, hbig⟩ := hcond
          cases h
          rw [hlv] at hl
          rw [hcv] at hc
          have hu : P.underlying t = some (.slice e) := by rw [(hF.ty _ _ hi).und, hD]
          obtain ⟨z, hz, hzc, hzp, hza⟩ := run_zero (hF.ty _ _ hei) w
          obtain ⟨ti, hti, hbytes⟩ := run_bytes (hF.ty _ _ hei) w
          have hzv : VL φ ei.zero z.cells.toList := ((VR.pure φ hzp).cells hzc).1
          have hzl : ei.zero.length = ei.size := (hF.ty _ _ hei).info.elim fun _ h => h.2.2.2.2
          have hc0 : 0 ≤ cv := by omega
          have hcs : cv ≤ 1099511627776 := by
            have h2 : cv * 1 ≤ cv * ((ei.bytes : Int) + ei.size + 1) := Int.mul_le_mul_of_nonneg_left (by omega) hc0
            omega
          have hwl : IntKind.i64.wrap lv = lv := IntWalk.i64_in _ (by omega)
          have hwc : IntKind.i64.wrap cv = cv := IntWalk.i64_in _ (by omega)
          have hby : (ei.bytes : Int) * cv ≤ 2 ^ 48 := by
            have h2 : cv * (ei.bytes : Int) ≤ cv * ((ei.bytes : Int) + ei.size + 1) := Int.mul_le_mul_of_nonneg_left (by omega) hc0
            rw [Int.mul_comm]
            omega
          have hnb : ¬ (cv < 0 ∨ (2 : Int) ^ 48 < (ei.bytes : Int) * cv) := by omega
          refine ⟨.slice (some ⟨w.heap.size, 0, none⟩) lv.toNat cv.toNat, .cells ((Array.range (cv.toNat * ei.size)).map fun i => z.cells[i % z.cells.size]!) e, ?_,
            laid_cells hn hei (rep_VL hzv cv.toNat _ (by rw [hzl])) (rep_isCell (cellsOf_isCell hzc) _) ?_⟩
          · simp only [execOp, Instr.makeSlice, Sem.run_bind, run_underlying hu, Result.andThen_ok, hl.intI, hc.intI, asInt, asIntOf, Sem.run_pure, hti, hbytes, hwl, hwc]
            rw [if_neg (by
              simp only [Bool.or_eq_true, decide_eq_true_eq]
              omega)]
            simp only [Sem.run_bind, run_askRoom, Result.andThen_ok, run_size (hF.ty _ _ hei)]
            by_cases hz0 : cv.toNat * ei.size = 0
            · rw [if_pos hz0, Sem.run_bind, Sem.run_pure]
              simp only [Result.andThen_ok, hz0]
              have e0 : ∀ f : Nat → Value, Array.map f (Array.range 0) = #[] := fun f => by simp
              rw [e0, e0]
              rfl
            · rw [if_neg hz0, Sem.run_bind, hz]
              rfl
          · exact VR.slice (bi := ⟨w.heap.size, 0, _, _, _⟩) (Emb.put_self _ _ _) (by omega) (.inr rfl) (.inr ⟨rfl, by unfold uc; omega⟩)
        · cases h
      · cases h
    · cases h
end
end Go.L1
