/- Texts of a proof: no condition. -/
import Derived.Test.YtbmpmjljbiepiaaGreatOneH
import Derived.Laws.AppendOwn
set_option autoImplicit true
set_option relaxedAutoImplicit true
set_option linter.all false
set_option linter.unusedVariables false
set_option linter.unusedSimpArgs false
/-! L1, ninth part: each operation that writes. -/
namespace Go.L1
open Go

section
variable {p : Pg} {P : Program} {φ : Emb} {w : World}

theorem vr_ud : VR φ ud undef := .tuple rfl (fun i x y h => by simp at h)
theorem cellsOf_np {v : Value} {l : List Value} (h : cellsOf v = some l) : isPoison v = false := by cases v <;> simp_all [isPoison, cellsOf, isCell]

theorem post_of_write {h h1 : H} {b off : Nat} {bi : BI} {new new' : List Value} (hw : writeAt h b off new = some h1) (hb : φ b = some bi) (hR : Rel p φ h.get w) (hd : Dom φ h.n) (hv : VL φ new new')
    (hc : ∀ x ∈ new, isCell x = true) {v v' : Value} (hvv : VP φ v v') : ∃ w', (storeCells ⟨bi.r, bi.o + off, none⟩ new').run P w = .ok () w' ∧ Post p φ h w v h1 v' w' := by
  obtain ⟨w', h1, h2, h3, h4⟩ := write_sim (P := P) hw hb hR hd hv hc
  exact ⟨w', h1, φ, h4, h3, h2, hvv⟩

theorem rStore_sim (hF : Fits p P) {h h1 : H} (hR : Rel p φ h.get w) (hd : Dom φ h.n) {t : Nat} {i : TyI} (ht : p.ty t = some i) {x y x' y' v : Value} {l1 : List Nat} (h0 : rStore h i.size x y = some (v, h1, l1))
    (hx : VP φ x x') (hy : VP φ y y') : ∃ w', (Instr.storeAt t x' y').run P w = .ok () w' ∧ Post p φ h w v h1 undef w' := by
  unfold rStore at h0
  split at h0
  · rename_i b o
    obtain ⟨cs, hcs, h0⟩ := Option.bind_eq_some_iff.1 h0
    split at h0
    · rename_i hl
      obtain ⟨h2, hw, he⟩ := Option.map_eq_some_iff.1 h0
      cases he
      obtain ⟨bi, hb, rfl⟩ := hx.ptrI
      obtain ⟨hv, _, _⟩ := (hy.vr (cellsOf_np hcs)).cells hcs
      obtain ⟨w', hs, hp⟩ := post_of_write (P := P) (v := ud) (v' := undef) hw hb hR hd hv (cellsOf_isCell hcs) vr_ud.vp
      refine ⟨w', ?_, hp⟩
      have hsz : y'.cells.size = i.size := by rw [← Array.length_toList, ← hv.1, hl]
      simp only [Instr.storeAt, Instr.sureAddr, Sem.run_bind, Sem.run_pure, Result.andThen_ok, storeVar, run_size (hF.ty _ _ ht), hsz]
      simp [hs]
    · cases h0
  · cases h0

theorem slice_shape {a : Option Addr} {n c : Nat} {z' : Value} (hz : VP φ (.slice a n c) z') : ∃ a' c', z' = .slice a' n c' ∧ (a = none → a' = none) := by
  cases a with
  | none => obtain ⟨rfl, rfl, rfl⟩ := hz.nilsliceI; exact ⟨none, 0, rfl, fun _ => rfl⟩
  | some ad => have hv := hz.vr rfl; cases hv; exact ⟨_, _, rfl, (by intro e; cases e)⟩
theorem sliceCells_sim {C : Cont} {es n len c len2 c2 : Nat} {a a2 : Option Addr} {cs : List Value} (h : sliceCells C es a n = some cs) (hx : VP φ (.slice a len c) (.slice a2 len2 c2)) (hle : n ≤ len)
    (hR : ∀ b bi, φ b = some bi → ∃ ob, C b = some ob ∧ BlockRel p φ bi w ob) : ∃ cs' : List Value, VL φ cs cs' ∧ (∀ x ∈ cs, isCell x = true) ∧
      ∀ (w' : World) (l c : Nat), w'.heap = w.heap → (Builtin.firstCells es n (.slice a2 l c)).run P w' = .ok cs'.toArray w' := by
  unfold sliceCells at h
  split at h
  · rename_i h0
    cases h
    subst h0
    refine ⟨[], VL.nil φ, by simp, fun w' l c _ => ?_⟩
    cases a2 <;> simp [Builtin.firstCells, loadCells, loadCellsFrom]
  · rename_i h0
    split at h
    · rename_i b o
      obtain ⟨bi, a', c', hb, he, hn, ha, hc⟩ := hx.sliceI
      cases he
      obtain ⟨cs', h1, h2, h3, h4, h5⟩ := loadCells_sim (P := P) h (hR b bi hb)
      refine ⟨cs', h1, h3, fun w' l c hw' => ?_⟩
      have ha' : a' = ⟨bi.r, bi.o + o, none⟩ := by
        rcases ha with ha | ha
        · omega
        · exact ha
      subst ha'
      have := run_loadCells_list (P := P) w' ⟨bi.r, bi.o + o, none⟩ cs' (fun j v hj => by
        have := h5 j v hj
        simpa [World.cell?, hw'] using this)
      rw [h2] at this
      exact this
    · cases h

theorem rCopy_sim (hF : Fits p P) {h h1 : H} (hR : Rel p φ h.get w) (hd : Dom φ h.n) {t e : Nat} {i ei : TyI} (ht : p.ty t = some i) (hD : i.desc = .slice e) (he : p.ty e = some ei) {ts : Array TypeId} (h0 : ts[0]? = some t)
    {x y x' y' v : Value} {l1 : List Nat} (hh : rCopy h ei.size x y = some (v, h1, l1)) (hx : VP φ x x') (hy : VP φ y y') (ty : TypeId) :
    ∃ v' w', (Builtin.copy_ ts ty #[x', y']).run P w = .ok v' w' ∧ Post p φ h w v h1 v' w' := by
  have hu : P.underlying t = some (.slice e) := by rw [(hF.ty _ _ ht).und, hD]
  unfold rCopy at hh
  split at hh
  · rename_i a n c xa xn xc
    have hself : Post p φ h w (.int .i64 (min xn n : Nat)) h (.int .i64 (min xn n : Nat)) w := ⟨φ, Gr.refl w hd, Fr.refl _ _ _, hR, (VR.int _ _).vp⟩
    split at hh
    · rename_i hm
      cases hh
      obtain ⟨a', c', rfl, _⟩ := slice_shape hx
      obtain ⟨xa', xc', rfl, _⟩ := slice_shape hy
      rw [hm] at hself
      refine ⟨_, w, ?_, hself⟩
      have hm' : Nat.min xn n = 0 := hm
      have hfc : (Builtin.firstCells ei.size 0 (.slice xa' xn xc')).run P w = .ok #[] w := by cases xa' <;> simp [Builtin.firstCells, loadCells, loadCellsFrom]
      simp only [Builtin.copy_, h0, List.getElem?_toArray, List.getElem?_cons_zero, List.getElem?_cons_succ, Sem.run_bind, run_underlying hu, Result.andThen_ok, Builtin.lenOf, Sem.run_pure, hm', run_size (hF.ty _ _ he), hfc]
      cases a' <;> rfl
    · rename_i hm
      obtain ⟨new, hnew, hh⟩ := Option.bind_eq_some_iff.1 hh
      obtain ⟨a', c', rfl, _⟩ := slice_shape hx
      obtain ⟨xa', xc', rfl, _⟩ := slice_shape hy
      obtain ⟨cs', hcs, hcell, hrun⟩ := sliceCells_sim (P := P) hnew hy (Nat.min_le_left _ _) hR.blk
      split at hh
      · obtain ⟨h2, hw, hq⟩ := Option.map_eq_some_iff.1 hh
        cases hq
        obtain ⟨bi, a2, c2, hb, he2, hn, ha, hc⟩ := hx.sliceI
        cases he2
        obtain ⟨w', hs, hp⟩ := post_of_write (P := P) (v := .int .i64 (min xn n : Nat)) (v' := .int .i64 (min xn n : Nat)) hw hb hR hd hcs hcell (VR.int _ _).vp
        refine ⟨_, w', ?_, hp⟩
        have hm' : Nat.min xn n = min xn n := rfl
        rcases ha with ha | ha
        · omega
        · subst ha
          simp only [Builtin.copy_, h0, List.getElem?_toArray, List.getElem?_cons_zero, List.getElem?_cons_succ, Sem.run_bind, run_underlying hu, Result.andThen_ok, Builtin.lenOf, Sem.run_pure, run_size (hF.ty _ _ he), hm', hrun w _ _ rfl, hs, goInt]
      · cases hh
  · cases hh

/-! ### append -/
theorem appNew_sim (hF : Fits p P) {C : Cont} (hR : ∀ b bi, φ b = some bi → ∃ ob, C b = some ob ∧ BlockRel p φ bi w ob) {e : Nat} {ei : TyI} (he : p.ty e = some ei) {tx : Nat} {x x' : Value} {m : Nat} {new : List Value}
    (h : appNew C ei (p.ty tx) x = some (m, new)) (hx : VP φ x x') (hb : m * (ei.bytes + ei.size + 1) ≤ lim) : ∃ new' : Array Value, AppX P w ei.size e tx x' m new' ∧ VL φ new new'.toList ∧ (∀ y ∈ new, isCell y = true) ∧ new.length = m * ei.size := by
  obtain ⟨z, hz, hzc, hzp, hza⟩ := run_zero (hF.ty _ _ he) w
  have hzall : ∀ w', (zeroValue e).run P w' = .ok z w' := by
    intro w'
    obtain ⟨z', h1, _⟩ := run_zero (hF.ty _ _ he) w'
    have e1 : ∀ {w1 w2 : World} {a b : Value}, (zeroValue e).run P w1 = .ok a w1 → (zeroValue e).run P w2 = .ok b w2 → a = b := by
      intro w1 w2 a b h1 h2
      obtain ⟨⟨xi, hxi, _, _, ⟨zz, hzz, _⟩, _⟩, _⟩ := hF.ty _ _ he
      simp [zeroValue, typeInfo, hxi, hzz] at h1 h2
      rw [← h1, ← h2]
    rw [h1, e1 h1 hz]
  have hzl : ei.zero.length = ei.size := (hF.ty _ _ he).info.elim fun _ h => h.2.2.2.2
  have hzv : VL φ ei.zero z.cells.toList := ((VR.pure φ hzp).cells hzc).1
  unfold appNew at h
  split at h
  · rename_i k s1 s2 s3 s4 n hi
    split at h
    · rename_i hk
      cases h
      obtain ⟨hk0, hk1⟩ := hk
      have htx := hF.ty _ _ hi
      have hxi := hx.intI
      subst hxi
      obtain ⟨nn, rfl⟩ := Int.eq_ofNat_of_zero_le hk0
      refine ⟨Builtin.zeroCells z.cells nn, .zeros htx.und hzall (by omega) ?_ ?_, ?_, ?_, ?_⟩
      · intro w'
        obtain ⟨ti, hti, hb2⟩ := run_bytes (hF.ty _ _ he) w'
        have hb' := hb
        refine ⟨ti, hti, ?_⟩
        have h1 : nn * ei.bytes ≤ nn * (ei.bytes + ei.size + 1) := Nat.mul_le_mul_left _ (by omega)
        unfold lim at hb'
        rw [Int.toNat_natCast] at hb'
        have h2 : nn * ei.bytes ≤ 1099511627776 := Nat.le_trans h1 hb'
        rw [hb2, ← Int.natCast_mul]
        generalize nn * ei.bytes = q at h2
        omega
      · intro h0
        unfold Builtin.zeroCells
        have hsz : z.cells.size = ei.size := by rw [← Array.length_toList, ← hzv.1, hzl]
        rw [hsz, h0]
        simp
      · have := rep_VL hzv nn (nn * z.cells.size) (by rw [hzv.1]; simp)
        simpa [Builtin.zeroCells] using this
      · exact rep_isCell (cellsOf_isCell hzc) _
      · rw [rep_length, hzl]
    · cases h
  · rename_i k s1 s2 s3 s4 xa xn xc hi
    obtain ⟨l, hl, he2⟩ := Option.map_eq_some_iff.1 h
    cases he2
    obtain ⟨xa', xc', rfl, _⟩ := slice_shape hx
    obtain ⟨cs', hcs, hcell, hrun⟩ := sliceCells_sim (P := P) hl hx (Nat.le_refl _) hR
    have htx := hF.ty _ _ hi
    refine ⟨cs'.toArray, .slice htx.und (fun w' hw' => hrun w' _ _ hw'), by simpa using hcs, hcell, ?_⟩
    unfold sliceCells at hl
    split at hl
    · rename_i h0; cases hl; simp [h0]
    · split at hl
      · obtain ⟨vs, ty, ro, _, hle, rfl⟩ := cellsAt_inv hl
        simp; omega
      · cases hl
  · cases h

/-- real spare memory behind what grew -/
theorem zeroCells_size (z : Array Value) (k : Nat) : (Builtin.zeroCells z k).size = k * z.size := by simp [Builtin.zeroCells]

/-- The real append made a new row; so does the ideal one, out of h0 (h, or h with a block done away with). -/
theorem grow_post {h h0 : H} (hn0 : h0.n = h.n) (hR : Rel p φ h0.get w) (hd : Dom φ h.n) (hC : ∀ c oc, h0.get c = some oc → liveO oc = true → h.get c = some oc) {e : Nat} {ei : TyI} (he : p.ty e = some ei)
    {k cap : Nat} {cells : List Value} {real : Array Value} {spare : Array Value} (hv : VL φ cells real.toList) (hcell : ∀ y ∈ cells, isCell y = true) (hlen : cells.length = k * ei.size) (hcap : k ≤ cap)
    (hsp : spare.size = (cap - k) * ei.size) (hspc : ∀ y ∈ spare.toList, isCell y = true) (hcu : cap < uc) :
    Post p φ h w (.slice (some ⟨h.n, 0, none⟩) k uc) (h0.push (.cells cells e false)) (.slice (some ⟨w.heap.size, 0, none⟩) k cap)
      { w with drawn := w.drawn + 1, heap := w.heap.push (.cells (real ++ spare) e) } := by
  let bi : BI := ⟨w.heap.size, 0, (real ++ spare).size, ei.size, cells.length⟩
  have hnone : φ h.n = none := by
    cases hh : φ h.n with
    | none => rfl
    | some x => exact absurd (hd h.n x hh) (by omega)
  have hrl : real.size = cells.length := by rw [hv.1]; simp
  have hget : (h0.push (.cells cells e false)).get = fun j => if j = h.n then some (.cells cells e false) else h0.get j := by
    funext j
    rw [H.get_push, hn0]
  refine ⟨φ.put h.n bi, ?_, ?_, ?_, ?_⟩
  · rw [hget, H.n_push, hn0]
    exact Gr.new hd (fun hlt => absurd hlt (Nat.lt_irrefl _)) hC
  · exact ⟨rfl, rfl, rfl, by simp, fun r hr _ => by simp [Array.getElem?_push, Nat.ne_of_lt hr]⟩
  · rw [hget]
    refine hR.new hd (fun c ci oc hc hoc hl => Nat.ne_of_lt (hR.lt hc hoc hl)) (fun c ci oc hc hoc hl => ?_) ?_
    · have := hR.lt hc hoc hl
      simp [Array.getElem?_push, Nat.ne_of_lt this]
    · refine .cells he rfl rfl (cs := real ++ spare) (ty' := e) (fr := (0, 0)) (by simp [bi]) rfl (by simp [bi]; omega) ?_ hcell (fun _ => rfl) (fun _ x hx => by
        have hx := List.mem_of_mem_drop hx
        rw [Array.toList_append] at hx
        exact (List.mem_append.1 hx).elim (hv.cellR hcell x) (hspc x))
      simp only [bi, List.drop_zero, Array.toList_append]
      rw [List.take_append_of_le_length (by simp; omega), List.take_of_length_le (by simp; omega)]
      exact hv.mono (Emb.sub_put hnone)
  · refine (VR.slice (bi := bi) (Emb.put_self _ _ _) hcap (.inr rfl) (.inl ⟨rfl, ?_, ?_⟩)).vp
    · simp only [bi, hlen, Nat.zero_add]
      exact Nat.mul_le_mul_right _ hcap
    · right
      refine ⟨?_, hcu⟩
      simp only [bi, Array.size_append, hrl, hlen, hsp, Nat.zero_add]
      rw [← Nat.add_mul]
      exact Nat.le_of_eq (by congr 1; omega)

/-- The real append had room where the ideal one makes a block anew: the row is the new block now. -/
theorem take_post {h : H} (hR : Rel p φ h.get w) (hd : Dom φ h.n) {b o n m c' : Nat} {bi : BI} (hb : φ b = some bi) {vs : List Value} {e : Nat} {ei : TyI} (hC : h.get b = some (.cells vs e false)) (he : p.ty e = some ei) (hes : bi.es = ei.size)
    {old new new' : List Value} (ho : sliceCells h.get ei.size (some ⟨b, o, none⟩) n = some old) (hv : VL φ new new') (hcn : ∀ y ∈ new, isCell y = true) (hnl : new.length = m * ei.size) (hle : n + m ≤ c')
    (hfit : bi.o + o + c' * ei.size ≤ bi.s) (hisz : bi.isz ≤ o + c' * bi.es) (hcu : c' < uc) :
    ∃ w', (storeCells ⟨bi.r, bi.o + o + n * ei.size, none⟩ new').run P w = .ok () w' ∧
      Post p φ h w (.slice (some ⟨h.n, 0, none⟩) (n + m) uc) ((h.kill b).push (.cells (old ++ new) e false)) (.slice (some ⟨bi.r, bi.o + o, none⟩) (n + m) c') w' := by
  obtain ⟨ob, hC', hr⟩ := hR.blk b bi hb
  rw [hC] at hC'
  cases hC'
  cases hr with
  | @cells _ _ _ cs ty' fr i hi hes' hisz' hww hs hsz hvv hcell hfr hj =>
    have hfr0 := hfr rfl
    subst hfr0
    have hnl' : new'.length = m * ei.size := by rw [← hv.1, hnl]
    have hmul : (n + m) * ei.size ≤ c' * ei.size := Nat.mul_le_mul_right _ hle
    rw [Nat.add_mul] at hmul
    have hf2 : bi.o + o + n * ei.size + 0 + new'.length ≤ cs.size := by rw [hs, hnl']; omega
    have hst := run_storeCells_at P bi.r (bi.o + o + n * ei.size) ty' new' 0 cs w hww hf2 (fun x hx => oneCell_of_isCell (hv.isCell_right hcn x hx))
    simp only [Nat.add_zero] at hst
    have hcl : cs.toList.length = bi.s := by simpa using hs
    have hol : old.length = n * ei.size ∧ VL φ old ((cs.toList.drop (bi.o + o)).take (n * ei.size)) ∧ ∀ y ∈ old, isCell y = true := by
      unfold sliceCells at ho
      split at ho
      · rename_i h0
        cases ho
        subst h0
        simp only [Nat.zero_mul, List.take_zero]
        exact ⟨rfl, VL.nil φ, by simp⟩
      · obtain ⟨vs2, ty2, ro2, hC2, hl2, rfl⟩ := cellsAt_inv ho
        rw [hC] at hC2
        cases hC2
        refine ⟨by simp; omega, ?_, fun y hy => hcell y (List.mem_of_mem_drop (List.mem_of_mem_take hy))⟩
        have e1 : (((cs.toList.drop bi.o).take vs.length).drop o).take (n * ei.size) = (cs.toList.drop (bi.o + o)).take (n * ei.size) := by
          rw [List.drop_take, List.drop_drop, List.take_take]
          congr 1
          omega
        rw [← e1]
        exact (hvv.drop o).take _
    obtain ⟨hol, hvo, hco⟩ := hol
    let bi2 : BI := ⟨bi.r, bi.o + o, bi.s, ei.size, (old ++ new).length⟩
    let row : List Value := cs.toList.take (bi.o + o + n * ei.size) ++ new' ++ cs.toList.drop (bi.o + o + n * ei.size + new'.length)
    have hrow : row.toArray.size = bi.s := by simp [row]; omega
    have hnone : φ h.n = none := by
      cases hh : φ h.n with
      | none => rfl
      | some x => exact absurd (hd h.n x hh) (by omega)
    have hk : Rel p φ (h.kill b).get (w.setRow bi.r row.toArray) := hR.kill hb hC rfl rfl (fun k hk => setRow_other w bi.r k _ hk)
    have hkget : ∀ c oc, (h.kill b).get c = some oc → liveO oc = true → c ≠ b ∧ h.get c = some oc := by
      intro c oc hq hl
      unfold H.kill at hq
      rw [H.get_set] at hq
      split at hq
      · cases hq; cases hl
      · exact ⟨by assumption, hq⟩
    have rwlive : ∀ o : IObj, rwO o = true → liveO o = true := by intro o; cases o <;> simp [rwO, liveO]
    have hget : ((h.kill b).push (.cells (old ++ new) e false)).get = fun j => if j = h.n then some (.cells (old ++ new) e false) else (h.kill b).get j := by
      funext j
      rw [H.get_push]
      rfl
    have hlen : (old ++ new).length = n * ei.size + m * ei.size := by rw [List.length_append, hol, hnl]
    refine ⟨w.setRow bi.r row.toArray, hst, φ.put h.n bi2, ?_, ?_, ?_, ?_⟩
    · rw [hget]
      exact Gr.new hd (fun _ => ⟨b, bi, _, hb, hC, rfl, rfl⟩) (fun c oc hq hrw => (hkget c oc hq hrw).2)
    · exact ⟨rfl, rfl, rfl, by simp [World.setRow], fun r hr ho => setRow_other w bi.r r _ (fun e => ho ⟨b, bi, _, hb, hC, rfl, e.symm⟩)⟩
    · rw [hget]
      refine hk.new hd (fun c ci oc hc hoc hl => ?_) (fun _ _ _ _ _ _ => rfl) ?_
      · obtain ⟨hcb, hc2⟩ := hkget c oc hoc hl
        exact Ne.symm (hR.inj b c bi ci _ oc hb hc hC hc2 (Ne.symm hcb) rfl hl)
      · refine .cells he rfl rfl (setRow_heap w bi.r cs _ ty' (0, 0) hww) hrow (by simp only [bi2]; rw [hlen]; omega) ?_ (fun y hy => ?_) (fun _ => rfl) (fun _ x hx => ?_)
        · have e2 : (row.drop (bi.o + o)).take (old ++ new).length = (cs.toList.drop (bi.o + o)).take (n * ei.size) ++ new' := by
            rw [hlen]
            apply List.ext_getElem?
            intro j
            simp only [row, List.getElem?_take, List.getElem?_drop, List.getElem?_append, List.length_take, List.length_append, List.length_drop, hcl, hnl']
            repeat' split
            all_goals first
              | rfl
              | (exfalso; omega)
              | (congr 1; omega)
              | (symm; apply List.getElem?_eq_none; omega)
              | (apply List.getElem?_eq_none; omega)
          show VL _ _ ((row.toArray.toList.drop (bi.o + o)).take (old ++ new).length)
          rw [show row.toArray.toList = row from rfl, e2]
          exact (hvo.append hv).mono (Emb.sub_put hnone)
        · rcases List.mem_append.1 hy with hy | hy
          · exact hco y hy
          · exact hcn y hy
        · have hx : x ∈ row.drop (bi.o + o) := hx
          refine (mem_row (by omega) (by omega) (by omega) hx).elim (fun hx => ?_) (hv.cellR hcn x)
          refine hj rfl x ?_
          rw [← List.drop_drop] at hx
          exact List.mem_of_mem_drop hx
    · have hv2 := VR.slice (φ := φ.put h.n bi2) (bi := bi2) (off := 0) (n := n + m) (c := uc) (c' := c') (a' := ⟨bi.r, bi.o + o, none⟩) (Emb.put_self _ _ _) hle (.inr rfl) (.inl ⟨rfl, by simp only [bi2]; rw [hlen]; omega, .inr ⟨by simp only [bi2]; omega, hcu⟩⟩)
      exact hv2.vp

theorem lim_bytes {n m b s : Nat} (h : (n + m) * (b + s + 1) ≤ lim) : (n + m) * b ≤ 140737488355328 ∧ n + m ≤ 9223372036854775807 ∧ m * (b + s + 1) ≤ lim := by
  have h1 : (n + m) * b ≤ (n + m) * (b + s + 1) := Nat.mul_le_mul_left _ (by omega)
  have h2 : (n + m) * 1 ≤ (n + m) * (b + s + 1) := Nat.mul_le_mul_left _ (by omega)
  have h3 : m * (b + s + 1) ≤ (n + m) * (b + s + 1) := Nat.mul_le_mul_right _ (by omega)
  unfold lim at *
  omega

theorem rAppend_sim (hF : Fits p P) {h h1 : H} (hR : Rel p φ h.get w) (hd : Dom φ h.n) {t tx e : Nat} {i ei : TyI} (ht : p.ty t = some i) (hD : i.desc = .slice e) (he : p.ty e = some ei) {ts : Array TypeId} (h0 : ts[0]? = some t)
    (hx0 : ts[1]? = some tx) {a : Option Addr} {n c m : Nat} {new : List Value} {s' x x' v : Value} {l1 : List Nat} (hh : rAppend h e ei a n c m new = some (v, h1, l1))
    (hnew : appNew h.get ei (p.ty tx) x = some (m, new)) (hs : VP φ (.slice a n c) s') (hx : VP φ x x') (ty : TypeId) :
    ∃ v' w', (Builtin.append_ ts ty #[s', x']).run P w = .ok v' w' ∧ Post p φ h w v h1 v' w' := by
  have hu : P.underlying t = some (.slice e) := by rw [(hF.ty _ _ ht).und, hD]
  have hsz : ∀ w', (sizeOf e).run P w' = .ok ei.size w' := fun w' => run_size (hF.ty _ _ he) w'
  obtain ⟨⟨ti, hti, htis, htib, ⟨z, hz, hzc, hzp, hza⟩, hzl⟩, _⟩ := hF.ty _ _ he
  have hzr : ∀ w', (zeroValue e).run P w' = .ok z w' := fun w' => by simp [zeroValue, typeInfo, hti, hz]
  have hzs : z.cells.size = ei.size := by
    have := ((VR.pure φ hzp).cells hzc).1.1
    rw [← Array.length_toList, ← this, hzl]
  unfold rAppend at hh
  split at hh
  case isFalse => cases hh
  rename_i hlim
  obtain ⟨hlb, hln, hlm⟩ := lim_bytes hlim
  obtain ⟨new', hX, hvn, hcn, hnl⟩ := appNew_sim (P := P) hF hR.blk he hnew hx hlm
  -- the real append makes a new row
  have grow : ∀ {g0 : H} {sb : Option Addr} {sc : Nat} {old : List Value} {old' : List Value}, g0.n = h.n → Rel p φ g0.get w → (∀ c oc, g0.get c = some oc → liveO oc = true → h.get c = some oc) →
      sc < n + m → VL φ old old' → (∀ y ∈ old, isCell y = true) → old.length = n * ei.size → (∀ w' : World, w'.heap = w.heap → (Builtin.firstCells ei.size n (.slice sb n sc)).run P w' = .ok old'.toArray w') →
      ∃ v' w', (Builtin.append_ ts ty #[.slice sb n sc, x']).run P w = .ok v' w' ∧ Post p φ h w (.slice (some ⟨h.n, 0, none⟩) (n + m) uc) (g0.push (.cells (old ++ new) e false)) v' w' := by
    intro g0 sb sc old old' hn0 hR0 hC0 hlt hvo hco hol hfo
    have hrun := app_grow (P := P) (w := w) h0 hx0 hu hsz hti hzr hX hlt (base := sb) hfo (by rw [htib]; exact hlb) hln ty
    refine ⟨_, _, hrun, ?_⟩
    have hcap := le_grownCap w (n + m) sc e
    have hspc : ∀ y ∈ (Builtin.zeroCells z.cells (grownCap w (n + m) sc e - (n + m))).toList, isCell y = true := by
      have hzv : VL φ ei.zero z.cells.toList := ((VR.pure φ hzp).cells hzc).1
      have hvz := rep_VL hzv (grownCap w (n + m) sc e - (n + m)) ((grownCap w (n + m) sc e - (n + m)) * z.cells.size) (by rw [hzv.1]; simp)
      have hvz : VL φ (rep ei.zero (grownCap w (n + m) sc e - (n + m))) (Builtin.zeroCells z.cells (grownCap w (n + m) sc e - (n + m))).toList := by simpa [Builtin.zeroCells] using hvz
      exact hvz.cellR (rep_isCell (cellsOf_isCell hzc) _)
    refine grow_post hn0 hR0 hd hC0 he (k := n + m) (real := old'.toArray ++ new') (by simpa using hvo.append hvn) (fun y hy => ?_) (by rw [List.length_append, hol, hnl, ← Nat.add_mul]) hcap (by rw [zeroCells_size, hzs]) hspc (by have := grownCap_le_maxLen w (n + m) sc e (by unfold maxLen; omega); unfold maxLen at this; unfold uc; omega)
    rcases List.mem_append.1 hy with hy | hy
    · exact hco y hy
    · exact hcn y hy
  split at hh
  · -- nil
    split at hh
    · rename_i hnc
      obtain ⟨rfl, rfl⟩ := hnc
      obtain ⟨_, _, rfl⟩ := hs.nilsliceI
      split at hh
      · rename_i hm
        subst hm
        cases hh
        have hrun := app_in (P := P) (w := w) h0 hx0 hu hsz hX (n := 0) (c := 0) (base := none) (Nat.le_refl _) (w' := w) rfl ty
        exact ⟨_, _, hrun, φ, Gr.refl w hd, Fr.refl _ _ _, hR, VR.nilslice.vp⟩
      · rename_i hm
        cases hh
        have := grow (g0 := h) (sb := none) (sc := 0) (old := []) (old' := []) rfl hR (fun _ _ h _ => h) (by omega) (VL.nil φ) (by simp) (by simp) (fun w' _ => by simp [Builtin.firstCells])
        simpa using this
    · cases h
      cases hh
  · rename_i b o
    obtain ⟨bi, a', c', hb, rfl, hn, ha, hc⟩ := hs.sliceI
    have old_of : ∀ {old : List Value}, sliceCells h.get ei.size (some ⟨b, o, none⟩) n = some old → ∃ old' : List Value, VL φ old old' ∧ (∀ y ∈ old, isCell y = true) ∧ old.length = n * ei.size ∧
        ∀ w' : World, w'.heap = w.heap → (Builtin.firstCells ei.size n (.slice (some a') n c')).run P w' = .ok old'.toArray w' := by
      intro old ho
      obtain ⟨old', g1, g2, g3⟩ := sliceCells_sim (P := P) ho hs (Nat.le_refl _) hR.blk
      refine ⟨old', g1, g2, ?_, fun w' hw' => g3 w' _ _ hw'⟩
      unfold sliceCells at ho
      split at ho
      · rename_i h0; cases ho; simp [h0]
      · obtain ⟨vs, ty, ro, _, hle, rfl⟩ := cellsAt_inv ho
        simp; omega
    split at hh
    · -- nothing is appended
      rename_i hm
      subst hm
      cases hh
      have hnn : new'.toList = [] := by
        have : new.length = 0 := by rw [hnl]; simp
        exact List.eq_nil_of_length_eq_zero (by rw [← hvn.1, this])
      have hrun := app_in (P := P) (w := w) h0 hx0 hu hsz hX (n := n) (c := c') (base := some a') (by omega) (w' := w) (by rw [hnn]; rfl) ty
      exact ⟨_, _, hrun, φ, Gr.refl w hd, Fr.refl _ _ _, hR, (VR.slice hb hn ha hc).vp⟩
    · rename_i hm
      -- the store in place
      have inplace : ∀ {h2 : H} {cc : Nat}, n + m ≤ c' → writeAt h b (o + n * ei.size) new = some h2 → ((cc = uc ∧ bi.isz ≤ o + c' * bi.es ∧ (c' = 0 ∨ (bi.o + o + c' * bi.es ≤ bi.s ∧ c' < uc))) ∨ (c' = cc ∧ cc < uc)) →
          ∃ v' w', (Builtin.append_ ts ty #[.slice (some a') n c', x']).run P w = .ok v' w' ∧ Post p φ h w (.slice (some ⟨b, o, none⟩) (n + m) cc) h2 v' w' := by
        intro h2 cc hle hw hcc
        have ha' : a' = ⟨bi.r, bi.o + o, none⟩ := by
          rcases ha with ha | ha
          · omega
          · exact ha
        obtain ⟨w', hst, hp⟩ := post_of_write (P := P) (v := .slice (some ⟨b, o, none⟩) (n + m) cc) (v' := .slice (some a') (n + m) c') hw hb hR hd hvn hcn (VR.slice hb hle ha hcc).vp
        refine ⟨_, w', app_in (P := P) (w := w) h0 hx0 hu hsz hX hle (base := some a') ?_ ty, hp⟩
        subst ha'
        show (storeCells ((⟨bi.r, bi.o + o, none⟩ : Addr).add (n * ei.size)) new'.toList).run P w = _
        rw [addr_add, Nat.add_assoc]
        exact hst
      split at hh
      · rename_i vs ty0 hC
        split at hh
        · rename_i hcu
          subst hcu
          split at hh
          · rename_i hty
            obtain ⟨rfl, hsz0⟩ := hty
            have hbk := hR.blk b bi hb
            obtain ⟨ob, hob, hrel⟩ := hbk
            rw [hC] at hob
            cases hob
            have hroom : roomOf h.get ty0 ei.size b o n uc = some (max n ((vs.length - o) / ei.size)) := by simp [roomOf, hC, hsz0]
            obtain ⟨hrl, hes⟩ := roomOf_le hF he hroom (fun _ => ⟨_, hC, hrel⟩) hn hc
            have hc1 : bi.isz ≤ o + c' * bi.es ∧ (c' = 0 ∨ (bi.o + o + c' * bi.es ≤ bi.s ∧ c' < uc)) := by
              rcases hc with ⟨_, h1, h2⟩ | ⟨rfl, h1⟩
              · exact ⟨h1, h2⟩
              · exact absurd h1 (Nat.lt_irrefl _)
            split at hh
            · rename_i hle
              obtain ⟨h2, hw, hq⟩ := Option.map_eq_some_iff.1 hh
              cases hq
              exact inplace (Nat.le_trans hle (Nat.le_trans (Nat.le_max_right _ _) hrl)) hw (.inl ⟨rfl, hc1⟩)
            · obtain ⟨old, ho, hq⟩ := Option.map_eq_some_iff.1 hh
              cases hq
              obtain ⟨old', g1, g2, g3, g4⟩ := old_of ho
              by_cases hle : n + m ≤ c'
              · -- the real row had room: it is the new block now
                have ha' : a' = ⟨bi.r, bi.o + o, none⟩ := by
                  rcases ha with ha | ha
                  · omega
                  · exact ha
                subst ha'
                have hfit : bi.o + o + c' * ei.size ≤ bi.s := by
                  rcases hc1.2 with h | h
                  · omega
                  · rw [hes rfl] at h; exact h.1
                have hcu : c' < uc := by
                  rcases hc1.2 with h | h
                  · rw [h]; unfold uc; omega
                  · exact h.2
                obtain ⟨w', hst, hp⟩ := take_post (P := P) (n := n) (m := m) (c' := c') hR hd hb hC he (hes rfl) ho hvn hcn hnl hle hfit hc1.1 hcu
                refine ⟨_, w', app_in (P := P) (w := w) h0 hx0 hu hsz hX hle (base := some _) ?_ ty, hp⟩
                show (storeCells ((⟨bi.r, bi.o + o, none⟩ : Addr).add (n * ei.size)) new'.toList).run P w = _
                rw [addr_add]
                exact hst
              · have hk : Rel p φ (h.kill b).get w := hR.kill hb hC rfl rfl (fun _ _ => rfl)
                exact grow (g0 := h.kill b) rfl hk (fun q oq hq hrw => by
                  unfold H.kill at hq
                  rw [H.get_set] at hq
                  split at hq
                  · cases hq; cases hrw
                  · exact hq) (by omega) g1 g2 g3 g4
          · cases hh
        · rename_i hcu
          have hcc : c' = c ∧ c < uc := by
            rcases hc with ⟨e, _⟩ | hc
            · exact absurd e hcu
            · exact hc
          split at hh
          · rename_i hle
            obtain ⟨h2, hw, hq⟩ := Option.map_eq_some_iff.1 hh
            cases hq
            exact inplace (by rw [hcc.1]; exact hle) hw (.inr hcc)
          · obtain ⟨old, ho, hq⟩ := Option.map_eq_some_iff.1 hh
            cases hq
            obtain ⟨old', g1, g2, g3, g4⟩ := old_of ho
            exact grow (g0 := h) rfl hR (fun _ _ h _ => h) (by omega) g1 g2 g3 g4
      · split at hh
        · cases hh
        · rename_i hcu
          split at hh
          · cases hh
          · have hcc : c' = c ∧ c < uc := by
              rcases hc with ⟨e, _⟩ | hc
              · exact absurd e hcu
              · exact hc
            obtain ⟨old, ho, hq⟩ := Option.map_eq_some_iff.1 hh
            cases hq
            obtain ⟨old', g1, g2, g3, g4⟩ := old_of ho
            exact grow (g0 := h) rfl hR (fun _ _ h _ => h) (by omega) g1 g2 g3 g4
      · cases hh
  · cases hh
end
end Go.L1
