/- Texts of a proof: no condition. -/
import Derived.Test.YtbmpmjljbiepiaaGreatOneE
set_option autoImplicit true
set_option relaxedAutoImplicit true
set_option linter.all false
set_option linter.unusedVariables false
set_option linter.unusedSimpArgs false
/-! L1, sixth part: one operation that at most reads. -/
namespace Go.L1
open Go

section
variable {p : Pg} {P : Program} {φ : Emb} {w : World}

theorem mapM_run {α β : Type} (f : α → Sem β) (g : α → β) (w : World) (xs : Array α) (h : ∀ x ∈ xs.toList, (f x).run P w = .ok (g x) w) : (xs.mapM f).run P w = .ok (xs.map g) w := by
  rw [Array.mapM_eq_mapM_toList]
  have : ∀ l : List α, (∀ x ∈ l, (f x).run P w = .ok (g x) w) → (l.mapM f).run P w = .ok (l.map g) w := by
    intro l
    induction l with
    | nil => intro _; rfl
    | cons x l ih =>
      intro hl
      simp only [List.mapM_cons, Sem.run_bind, hl x (by simp), Result.andThen_ok, ih fun y hy => hl y (by simp [hy])]
      rfl
  simp only [Sem.run_map, this _ h, Result.andThen_ok]
  congr 1
  exact Array.ext' (by simp)

theorem build_sim (hF : Fits p P) {t : Nat} {i : TyI} (ht : p.ty t = some i) {ps : List (Nat × Operand)} {T : Env} {ρ : Operand → Value} {cs : List Value} {pa : Array (Nat × Operand)} (hpa : pa.toList = ps)
    (hE : ∀ x ∈ ps, VP φ (eval T x.2) (ρ x.2)) (h : fillAt (placeOf p.ty i) i.zero (ps.map fun (j, x) => (j, eval T x)) = some cs) (hagg : isAggD i.desc = true) :
    ∃ v', (Instr.build t (pa.map fun (i, x) => (i, ρ x))).run P w = .ok v' w ∧ VR φ (.agg cs.toArray) v' := by
  have hT := hF.ty _ _ ht
  obtain ⟨z, hz, hzc, hzp, hza⟩ := run_zero hT w
  have hzv : VL φ i.zero z.cells.toList := ((VR.pure φ hzp).cells hzc).1
  have hparts : ∀ (j : Nat) (x y : Nat × Value), (ps.map fun (j, x) => (j, eval T x))[j]? = some x → (pa.map fun (i, x) => (i, ρ x)).toList[j]? = some y → x.1 = y.1 ∧ VP φ x.2 y.2 := by
    intro j x y hx hy
    rw [Array.toList_map, hpa] at hy
    simp only [List.getElem?_map] at hx hy
    obtain ⟨q, hq, rfl⟩ := Option.map_eq_some_iff.1 hx
    rw [hq] at hy
    simp only [Option.map_some, Option.some.injEq] at hy
    subst hy
    exact ⟨rfl, hE _ (List.mem_of_getElem? hq)⟩
  have hlen : (ps.map fun (j, x) => (j, eval T x)).length = (pa.map fun (i, x) => (i, ρ x)).toList.length := by rw [Array.toList_map, hpa]; simp
  have fin : ∀ {place' : Nat → Option (Nat × Nat)}, (∀ j os, placeOf p.ty i j = some os → place' j = some os) → ∃ out', Instr.fill place' z.cells (pa.map fun (i, x) => (i, ρ x)).toList = some out' ∧ VR φ (.agg cs.toArray) (.agg out') := by
    intro place' hpp
    obtain ⟨out', h1, h2⟩ := fill_sim hpp h hzv hlen hparts
    exact ⟨out', h1, .agg (by simpa using h2.1) (fun j x y hx hy => h2.2 j x y (by simpa using hx) hy)⟩
  cases hD : i.desc <;> rw [hD] at hagg <;> simp [isAggD] at hagg
  · rename_i n e
    obtain ⟨x, hx⟩ := hT.elem n e hD
    obtain ⟨out', h1, h2⟩ := fin (place' := fun j => some (j * P.cellsOf e, P.cellsOf e)) (fun j os hj => by
      simp only [placeOf, hD] at hj
      obtain ⟨ei, hei, rfl⟩ := Option.map_eq_some_iff.1 hj
      obtain ⟨⟨x', hx', hs, _⟩, _⟩ := hF.ty _ _ hei
      simp [Program.cellsOf, hx', hs])
    refine ⟨_, ?_, h2⟩
    have hu : P.underlying t = some (.array n e) := by rw [hT.und, hD]
    simp only [Instr.build, Sem.run_bind, hz, Result.andThen_ok, run_underlying hu, run_sizeOf w hx, h1]
    rfl
  · rename_i fs
    have hu : P.underlying t = some (.struct fs) := by rw [hT.und, hD]
    let g : Field → Nat × Nat := fun f => (f.offset, P.cellsOf f.type)
    have hm : (fs.mapM fun f => do pure (f.offset, ← sizeOf f.type) : Sem (Array (Nat × Nat))).run P w = .ok (fs.map g) w := by
      refine mapM_run _ g w fs fun f hf => ?_
      obtain ⟨x, hx⟩ := hT.flds fs hD f hf
      simp [run_sizeOf w hx, g]
    obtain ⟨out', h1, h2⟩ := fin (place' := fun j => (fs.map g)[j]?) (fun j os hj => by
      simp only [placeOf, hD] at hj
      obtain ⟨f, hf, hj⟩ := Option.bind_eq_some_iff.1 hj
      obtain ⟨fi, hfi, rfl⟩ := Option.map_eq_some_iff.1 hj
      obtain ⟨⟨x, hx, hs, _⟩, _⟩ := hF.ty _ _ hfi
      rw [Array.getElem?_map, ← Array.getElem?_toList, hf]
      simp [g, Program.cellsOf, hx, hs])
    refine ⟨_, ?_, h2⟩
    simp only [Instr.build, Sem.run_bind, hz, Result.andThen_ok, run_underlying hu, hm, h1]
    rfl

theorem optRel_map {T : Env} {a : Act} {x : Option Operand} (h : ∀ y, x = some y → VP φ (eval T y) (a.eval y)) : OptRel φ (x.map (eval T)) (x.map a.eval) := by
  cases x with
  | none => exact ⟨fun v hv => by simp at hv, fun _ => rfl⟩
  | some y => exact ⟨fun v hv => by simp at hv; subst hv; exact ⟨_, rfl, h y rfl⟩, fun hv => by simp at hv⟩

theorem builtinP_sim (hF : Fits p P) {C : Cont} {b : Builtin} {args : List Value} {args' : Array Value} {v : Value} {ts : Array TypeId} {ty : TypeId} {cn : Array Bool} (h : builtinP p C b ts.toList args = some v) (hl : args.length = args'.toList.length)
    (ha : ∀ (i : Nat) (x y : Value), args[i]? = some x → args'.toList[i]? = some y → VP φ x y) (hR : ∀ r bi, .map (some r) ∈ args → φ r = some bi → ∃ ob, C r = some ob ∧ BlockRel p φ bi w ob) :
    ∃ v', (builtin b ts ty cn args').run P w = .ok (.value v') w ∧ VR φ v v' := by
  obtain ⟨l⟩ := args'
  simp only at hl ha
  unfold builtinP at h
  split at h
  · rename_i y
    match l, hl with
    | [x'], _ =>
      have hx := ha 0 y x' rfl rfl
      obtain ⟨i, hi, hr⟩ := Option.bind_eq_some_iff.1 h
      obtain ⟨t, ht, hti⟩ := Option.bind_eq_some_iff.1 hi
      have hu := (hF.ty _ _ hti).und
      rw [Array.getElem?_toList] at ht
      generalize i.desc = d at *
      unfold rLen at hr
      split at hr
      · cases hr
        cases hx.vr rfl
        exact ⟨_, by simp [builtin, Builtin.len_, ht, run_underlying hu, goInt], .int _ _⟩
      · cases hr
        cases hx.vr rfl
        · exact ⟨_, by simp [builtin, Builtin.len_, ht, run_underlying hu, goInt], .int _ _⟩
        · exact ⟨_, by simp [builtin, Builtin.len_, ht, run_underlying hu, goInt], .int _ _⟩
      · cases hr
        cases hx.vr rfl
        exact ⟨_, by simp [builtin, Builtin.len_, ht, run_underlying hu, goInt], .int _ _⟩
      · rename_i q
        split at hr
        · rename_i es hC
          cases hr
          cases hx.vr rfl with
          | @map _ bi hb =>
            obtain ⟨ob, hC', hr⟩ := hR _ bi (by simp) hb
            rw [hC] at hC'
            cases hC'
            cases hr with
            | @map _ es' clock hw hl2 hk =>
              have hg : (getObj bi.r).run P w = .ok (.map es' clock) w := by simp [getObj, Sem.run, hw]
              exact ⟨_, by simp [builtin, Builtin.len_, ht, run_underlying hu, goInt, hg, hl2], .int _ _⟩
        · cases hr
      · cases hr
  · rename_i y
    match l, hl with
    | [x'], _ =>
      have hx := ha 0 y x' rfl rfl
      obtain ⟨i, hi, hr⟩ := Option.bind_eq_some_iff.1 h
      obtain ⟨t, ht, hti⟩ := Option.bind_eq_some_iff.1 hi
      have hu := (hF.ty _ _ hti).und
      rw [Array.getElem?_toList] at ht
      generalize i.desc = d at *
      unfold rCap at hr
      split at hr
      · split at hr
        · cases hr
        · rename_i hu'
          cases hr
          cases hx.vr rfl with
          | nilslice => exact ⟨_, by simp [builtin, Builtin.cap_, ht, run_underlying hu, goInt], .int _ _⟩
          | slice h hn ha hc =>
            rcases hc with ⟨e, _⟩ | ⟨rfl, _⟩
            · exact absurd e hu'
            · exact ⟨_, by simp [builtin, Builtin.cap_, ht, run_underlying hu, goInt], .int _ _⟩
      · cases hr
  · rename_i y r
    match l, hl with
    | x' :: r', hl =>
      obtain ⟨v', h1, h2⟩ := foldMM_sim (P := P) h (ha 0 y x' rfl rfl) (by simpa using hl) (fun i a b h1 h2 => ha (i + 1) a b (by simpa using h1) (by simpa using h2)) w
      exact ⟨v', by simp [builtin, Builtin.min_] at h1 ⊢; simp [h1], h2⟩
  · rename_i y r
    match l, hl with
    | x' :: r', hl =>
      obtain ⟨v', h1, h2⟩ := foldMM_sim (P := P) h (ha 0 y x' rfl rfl) (by simpa using hl) (fun i a b h1 h2 => ha (i + 1) a b (by simpa using h1) (by simpa using h2)) w
      exact ⟨v', by simp [builtin, Builtin.max_] at h1 ⊢; simp [h1], h2⟩
  · cases h

theorem rPick_sim {c x y c' x' y' v : Value} (h : rPick c x y = some v) (hc : VP φ c c') (hx : VP φ x x') (hy : VP φ y y') : ∃ t, c' = .bool t ∧ VP φ v (if t then x' else y') := by
  cases c <;> simp only [rPick] at h <;> try contradiction
  rename_i t
  cases h
  refine ⟨t, hc.boolI, ?_⟩
  cases t
  · exact hy
  · exact hx
theorem rIdxS_sim {es : Nat} {x x' ix ix' v : Value} (h : rIdxS es x ix = some v) (hx : VP φ x x') (hix : VP φ ix ix') (w : World) :
    ∃ a' n c' k m, x' = .slice (some a') n c' ∧ (asIntOf ix').run P w = .ok (k, m) w ∧ 0 ≤ m ∧ m < (n : Int) ∧ VR φ v (.pointer (some (a'.add (m.toNat * es)))) := by
  unfold rIdxS at h
  split at h
  · rename_i hj
    split at h
    · cases h
      obtain ⟨k, m, hm, h0, rfl⟩ := idx_sim (P := P) hj hix w
      obtain ⟨bi, a', c', hb, hvx, hn, ha, hc⟩ := hx.sliceI
      refine ⟨a', _, c', k, m, hvx, hm, h0, by omega, ?_⟩
      rcases ha with ha | ha
      · omega
      · rw [ha, addr_add, Nat.add_assoc]
        exact .ptr hb
    · cases h
  · cases h
theorem rIdxA_sim {n es : Nat} {x x' ix ix' v : Value} (h : rIdxA n es x ix = some v) (hx : VP φ x x') (hix : VP φ ix ix') (w : World) :
    ∃ a' k m, x' = .pointer (some a') ∧ (asIntOf ix').run P w = .ok (k, m) w ∧ 0 ≤ m ∧ m < (n : Int) ∧ VR φ v (.pointer (some (a'.add (m.toNat * es)))) := by
  unfold rIdxA at h
  split at h
  · rename_i hj
    split at h
    · cases h
      obtain ⟨k, m, hm, h0, rfl⟩ := idx_sim (P := P) hj hix w
      obtain ⟨bi, hb, hvx⟩ := hx.ptrI
      refine ⟨_, k, m, hvx, hm, h0, by omega, ?_⟩
      rw [addr_add, Nat.add_assoc]
      exact .ptr hb
    · cases h
  · cases h
theorem rIdxStr_sim {s : ByteArray} {ix ix' v : Value} (h : rIdxStr s ix = some v) (hix : VP φ ix ix') (w : World) :
    ∃ k m b, (asIntOf ix').run P w = .ok (k, m) w ∧ 0 ≤ m ∧ s[m.toNat]? = some b ∧ v = .int .u8 b.toNat := by
  unfold rIdxStr at h
  split at h
  · rename_i j hj
    obtain ⟨b, hb, rfl⟩ := Option.map_eq_some_iff.1 h
    obtain ⟨k, m, hm, h0, rfl⟩ := idx_sim (P := P) hj hix w
    refine ⟨k, m, b, hm, h0, ?_, rfl⟩
    obtain ⟨hlt, he⟩ := List.getElem?_eq_some_iff.1 hb
    have hlt' : m.toNat < s.size := by rw [Array.length_toList] at hlt; exact hlt
    rw [getElem?_pos s m.toNat hlt']
    congr 1
  · cases h

theorem pure_sim (hF : Fits p P) {T : Env} {a : Act} {C : Cont} (o : Oper) {v : Value} (hk : kindOf o.op = .pure) (h : pureV p T C o.op = some v)
    (hE : ∀ x ∈ o.op.operands.toList, VP φ (eval T x) (a.eval x)) (hR : ∀ b ∈ readsOf T o.op, ∀ bi, φ b = some bi → ∃ ob, C b = some ob ∧ BlockRel p φ bi w ob) :
    ∃ v', (execOp a.eval o).run P w = .ok (.value v') w ∧ VP φ v v' := by
  obtain ⟨dst, op, type, pos, after, guard⟩ := o
  simp only at hk h hE hR
  cases op <;> simp [kindOf] at hk <;> simp only [pureV] at h
  case move x => cases h; exact ⟨_, rfl, hE x (by simp [Op.operands])⟩
  case assign x => cases h; exact ⟨_, rfl, hE x (by simp [Op.operands])⟩
  case pick c x y =>
    have hc := hE c (by simp [Op.operands])
    have hx := hE x (by simp [Op.operands])
    have hy := hE y (by simp [Op.operands])
    obtain ⟨t, he, hv⟩ := rPick_sim h hc hx hy
    exact ⟨_, by simp only [execOp, Sem.run_bind, he, asBool, Sem.run_pure, Result.andThen_ok], hv⟩
  case build t ps =>
    obtain ⟨i, hi, h⟩ := Option.bind_eq_some_iff.1 h
    obtain ⟨cs, hcs, h⟩ := Option.bind_eq_some_iff.1 h
    split at h
    · rename_i hagg
      cases h
      obtain ⟨v', h1, h2⟩ := build_sim (P := P) (φ := φ) hF hi (pa := ps) rfl (ρ := a.eval) (fun x hx => hE x.2 (by simp [Op.operands]; exact ⟨x.1, by simpa using hx⟩)) hcs hagg
      exact ⟨v', by simp only [execOp, Sem.run_bind]; exact congrArg (fun r => Result.andThen r fun a w' => (Pure.pure (Next.value a) : Sem Next).run P w') h1, h2.vp⟩
    · cases h
  case nilCheck x =>
    have hx := hE x (by simp [Op.operands])
    generalize eval T x = vx at *
    unfold rNil at h
    split at h
    · cases h
      obtain ⟨a', he, hv⟩ := hx.ptrI'
      exact ⟨_, by simp [execOp, he], hv.vp⟩
    · cases h
      obtain ⟨x', y', he, ⟨l1, h1⟩, ⟨l2, h2⟩⟩ := hx.funcI
      exact ⟨_, by simp [execOp, he], (VR.func _ l1 l2 h1 h2).vp⟩
    · cases h
      obtain ⟨bi, hb, rfl, rfl, he⟩ := hx.yieldI
      exact ⟨_, by simp [execOp, he], (VR.yield hb).vp⟩
    · cases h
  case binOp op t x y yt =>
    obtain ⟨i, hi, h⟩ := Option.bind_eq_some_iff.1 h
    obtain ⟨v', h1, h2, h3⟩ := binV_sim (P := P) hF hi h (hE x (by simp [Op.operands])) (hE y (by simp [Op.operands])) x y w
    exact ⟨v', by simp [execOp, h1, h2], h3.vp⟩
  case unOp op t x =>
    obtain ⟨v', h1, h2⟩ := unV_sim (P := P) h (hE x (by simp [Op.operands])) w
    exact ⟨v', by simp [execOp, h1], h2.vp⟩
  case makeFunc fn first captured =>
    cases fn <;> simp only [pureV] at h <;> try contradiction
    rename_i f
    split at h
    · rename_i hc
      cases h
      simp only [Bool.and_eq_true, List.all_eq_true] at hc
      have one : ∀ (l : Array Operand), (∀ x ∈ l.toList, VP φ (eval T x) (a.eval x)) → (∀ x ∈ (l.map (eval T)).toList, isCell x = true) → (l.map (eval T)).toList.length = (l.map a.eval).toList.length ∧ ∀ (i : Nat) (x y : Value), (l.map (eval T)).toList[i]? = some x → (l.map a.eval).toList[i]? = some y → VR φ x y := by
        intro l hl hcl
        refine ⟨by simp, fun i x y hx hy => ?_⟩
        have hcx := hcl x (List.mem_of_getElem? hx)
        simp only [Array.toList_map, List.getElem?_map] at hx hy
        obtain ⟨q, hq, rfl⟩ := Option.map_eq_some_iff.1 hx
        rw [hq] at hy
        cases hy
        exact (hl q (List.mem_of_getElem? hq)).vr (by generalize eval T q = z at hcx; cases z <;> simp_all [isCell, isPoison])
      obtain ⟨l1, h1⟩ := one first (fun x hx => hE x (by simp [Op.operands]; exact .inl (by simpa using hx))) hc.1
      obtain ⟨l2, h2⟩ := one captured (fun x hx => hE x (by simp [Op.operands]; exact .inr (by simpa using hx))) hc.2
      exact ⟨_, rfl, (VR.func f l1 l2 h1 h2).vp⟩
    · cases h
  case fieldAddr s x f =>
    obtain ⟨i, hi, h⟩ := Option.bind_eq_some_iff.1 h
    obtain ⟨fd, hfd, h⟩ := Option.bind_eq_some_iff.1 h
    obtain ⟨fi, hfi, h⟩ := Option.bind_eq_some_iff.1 h
    split at h
    · cases h
    · rename_i hne
      obtain ⟨a', ha, hv⟩ := rFld_sim h (hE x (by simp [Op.operands]))
      unfold fieldOf at hfd
      split at hfd
      · rename_i fs hD
        have hu : P.underlying s = some (.struct fs) := by rw [(hF.ty _ _ hi).und, hD]
        rw [Array.getElem?_toList] at hfd
        refine ⟨_, ?_, hv.vp⟩
        simp only [execOp, Sem.run_bind, ha, Instr.fieldAt, run_underlying hu, Result.andThen_ok, hfd, Instr.sureAddr, Sem.run_pure, fieldPlace, run_size (hF.ty _ _ hfi), if_neg hne]
      · cases hfd
  case field t x f =>
    obtain ⟨i, hi, h⟩ := Option.bind_eq_some_iff.1 h
    obtain ⟨fd, hfd, h⟩ := Option.bind_eq_some_iff.1 h
    obtain ⟨fi, hfi, h⟩ := Option.bind_eq_some_iff.1 h
    obtain ⟨cs, v', ha, hv, hr⟩ := rPart_sim (P := P) hF hfi h (hE x (by simp [Op.operands])) w
    unfold fieldOf at hfd
    split at hfd
    · rename_i fs hD
      have hu : P.underlying t = some (.struct fs) := by rw [(hF.ty _ _ hi).und, hD]
      rw [Array.getElem?_toList] at hfd
      refine ⟨v', ?_, hr.vp⟩
      simp only [execOp, Sem.run_bind, ha, Instr.field, run_underlying hu, Result.andThen_ok, hfd, asAgg, Sem.run_pure, hv]
    · cases hfd
  case indexAddr t x ix =>
    obtain ⟨i, hi, h⟩ := Option.bind_eq_some_iff.1 h
    have hx := hE x (by simp [Op.operands])
    have hix := hE ix (by simp [Op.operands])
    have hT := hF.ty _ _ hi
    split at h
    · rename_i n e hD
      obtain ⟨ei, hei, h⟩ := Option.bind_eq_some_iff.1 h
      have hu : P.underlying t = some (.array n e) := by rw [hT.und, hD]
      obtain ⟨a', k, m, hvx, hm, h0, hlt, hv⟩ := rIdxA_sim (P := P) h hx hix w
      refine ⟨_, ?_, hv.vp⟩
      simp only [execOp, Sem.run_bind, Instr.indexAt, hm, Result.andThen_ok, run_underlying hu, hvx, Instr.sureAddr, Sem.run_pure, if_pos (show 0 ≤ m ∧ m < (n : Int) from ⟨h0, hlt⟩), run_size (hF.ty _ _ hei)]
    · rename_i e hD
      obtain ⟨ei, hei, h⟩ := Option.bind_eq_some_iff.1 h
      have hu : P.underlying t = some (.slice e) := by rw [hT.und, hD]
      obtain ⟨a', n, c', k, m, hvx, hm, h0, hlt, hv⟩ := rIdxS_sim (P := P) h hx hix w
      refine ⟨_, ?_, hv.vp⟩
      simp only [execOp, Sem.run_bind, Instr.indexAt, hm, Result.andThen_ok, run_underlying hu, hvx, Sem.run_pure, if_pos (show 0 ≤ m ∧ m < (n : Int) from ⟨h0, hlt⟩), run_size (hF.ty _ _ hei)]
    · cases h
  case index t x ix =>
    obtain ⟨i, hi, h⟩ := Option.bind_eq_some_iff.1 h
    have hx := hE x (by simp [Op.operands])
    have hix := hE ix (by simp [Op.operands])
    have hT := hF.ty _ _ hi
    split at h
    · rename_i n e hD
      obtain ⟨ei, hei, h⟩ := Option.bind_eq_some_iff.1 h
      obtain ⟨j, hj, h⟩ := Option.bind_eq_some_iff.1 h
      have hu : P.underlying t = some (.array n e) := by rw [hT.und, hD]
      split at h
      · rename_i hjn
        obtain ⟨k, m, hm, h0, rfl⟩ := idx_sim (P := P) hj hix w
        obtain ⟨cs, v', hvx, hp, hv⟩ := rPart_sim (P := P) hF hei h hx w
        refine ⟨v', ?_, hv.vp⟩
        simp only [execOp, Sem.run_bind, Instr.index, hm, Result.andThen_ok, run_underlying hu, hvx, if_pos (show 0 ≤ m ∧ m < (n : Int) from ⟨h0, by omega⟩), run_size (hF.ty _ _ hei), hp, Sem.run_pure]
      · cases h
    · rename_i hD
      have hu : P.underlying t = some .string := by rw [hT.und, hD]
      split at h
      · rename_i s hs
        rw [hs] at hx
        obtain ⟨k, m, b, hm, h0, hb, rfl⟩ := rIdxStr_sim (P := P) h hix w
        refine ⟨_, ?_, (VR.int _ _).vp⟩
        simp only [execOp, Sem.run_bind, Instr.index, hm, Result.andThen_ok, run_underlying hu, hx.strI, if_pos h0, hb, Sem.run_pure]
      · cases h
    · cases h
  case extract t j =>
    have hx := hE t (by simp [Op.operands])
    generalize eval T t = vx at *
    unfold rExtract at h
    split at h
    · obtain ⟨cs', he, hl⟩ := hx.tupleI
      obtain ⟨y, hy, hv⟩ := hl.get h
      rw [Array.getElem?_toList] at hy
      refine ⟨y, ?_, hv.vp⟩
      simp only [execOp, he, Instr.extract, hy, Sem.run_bind, Sem.run_pure, Result.andThen_ok]
    · cases h
  case load t x =>
    obtain ⟨i, hi, h⟩ := Option.bind_eq_some_iff.1 h
    obtain ⟨a', v', he, hr, hv⟩ := rLoad_sim (P := P) (hF.ty _ _ hi) h (hE x (by simp [Op.operands])) (fun b off bi hx hb => hR b (by simp [readsOf, hx]) bi hb)
    refine ⟨v', ?_, hv.vp⟩
    simp only [execOp, he, Instr.loadAt, Instr.sureAddr, Sem.run_bind, Sem.run_pure, Result.andThen_ok, hr]
  case convert s d x =>
    obtain ⟨si, hsi, h⟩ := Option.bind_eq_some_iff.1 h
    obtain ⟨di, hdi, h⟩ := Option.bind_eq_some_iff.1 h
    obtain ⟨v', h1, h2⟩ := rConv_sim (P := P) hF hsi hdi h (hE x (by simp [Op.operands])) (fun ad n c bi hx hb => hR _ (by simp [readsOf, hx]) bi hb)
    exact ⟨v', by simp [execOp, h1], h2.vp⟩
  case slice t x lo hi mx =>
    obtain ⟨i, hi', h⟩ := Option.bind_eq_some_iff.1 h
    have hx := hE x (by simp [Op.operands])
    have rl : OptRel φ (lo.map (eval T)) (lo.map a.eval) := optRel_map fun y hy => hE y (by simp [Op.operands, hy])
    have rh : OptRel φ (hi.map (eval T)) (hi.map a.eval) := optRel_map fun y hy => hE y (by simp [Op.operands, hy])
    have rm : OptRel φ (mx.map (eval T)) (mx.map a.eval) := optRel_map fun y hy => hE y (by simp [Op.operands, hy])
    split at h
    · rename_i s hD hs
      rw [hs] at hx
      have hu : P.underlying t = some .string := by rw [(hF.ty _ _ hi').und, hD]
      unfold rSliceStr at h
      split at h
      · rename_i hi2 lo2 hm hh hl
        split at h
        · rename_i hle
          cases h
          have hmn := rm.2 hm
          refine ⟨_, ?_, (VR.string _).vp⟩
          simp only [execOp, Sem.run_bind, Instr.sliceAt, run_underlying hu, Result.andThen_ok, hx.strI, Instr.slice, hmn, Option.isSome_none, Bool.false_eq_true, if_false]
          rw [sliceBounds_sim hl hh rl.1 rl.2 rh.1 rh.2 hle.1 hle.2 w]
          rfl
        · cases h
      · cases h
    · rename_i e sa n c hD hs
      obtain ⟨ei, hei, h⟩ := Option.bind_eq_some_iff.1 h
      rw [hs] at hx
      obtain ⟨v', h1, h2⟩ := rSlice_sim (P := P) hF hi' hD hei h hx rl rh rm (fun ad bi ha hb => hR _ (by simp [readsOf, hs, ha]) bi hb)
      exact ⟨v', by simp [execOp, h1], h2.vp⟩
    · cases h
  case lookup t x k ok =>
    obtain ⟨i, hi, h⟩ := Option.bind_eq_some_iff.1 h
    split at h
    · rename_i kt e hD
      obtain ⟨ki, hki, h⟩ := Option.bind_eq_some_iff.1 h
      split at h
      · rename_i hks
        obtain ⟨ei, hei, h⟩ := Option.bind_eq_some_iff.1 h
        obtain ⟨z, hz, h⟩ := Option.bind_eq_some_iff.1 h
        obtain ⟨v', h1, h2⟩ := rLook_sim (P := P) hF hi hD hki hks hei hz h (hE x (by simp [Op.operands])) (hE k (by simp [Op.operands])) (fun b bi hx hb => hR b (by simp [readsOf, hx]) bi hb)
        exact ⟨v', by simp [execOp, h1], h2.vp⟩
      · cases h
    · cases h
  case call c =>
    obtain ⟨callee, args, ts⟩ := c
    cases callee <;> simp only [kindOf, pureV] at hk h <;> try contradiction
    rename_i b
    obtain ⟨v', h1, h2⟩ := builtinP_sim (P := P) (φ := φ) (w := w) hF (args' := args.map a.eval) (ty := type) (cn := args.map fun | .const _ => true | _ => false) h (by simp) (fun i x y hx hy => by
      simp only [Array.toList_map, List.getElem?_map] at hx hy
      obtain ⟨q, hq, rfl⟩ := Option.map_eq_some_iff.1 hx
      rw [hq] at hy
      cases hy
      exact hE q (by simp [Op.operands, Call.operands]; simpa using List.mem_of_getElem? hq)) (fun r bi hr hb => hR r (by
        simp only [readsOf, List.mem_flatMap]
        obtain ⟨q, hq, he⟩ := List.mem_map.1 hr
        exact ⟨q, hq, by simp [he]⟩) bi hb)
    exact ⟨v', by simp only [execOp, resolve, Sem.run_bind, Sem.run_pure, Result.andThen_ok, invoke]; exact h1, h2.vp⟩
end
end Go.L1
