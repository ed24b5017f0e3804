/- Texts of a proof: no condition. -/
import Derived.Test.YtmhdgdehbkjhhaaGreatOneB
import Derived.Laws.AppendOwn
import Derived.RangeFuncCalls
import Derived.OrdersIn
set_option autoImplicit true
set_option relaxedAutoImplicit true
set_option linter.all false
set_option linter.unusedVariables false
set_option linter.unusedSimpArgs false
namespace Go.L1
open Go

section
variable {p : Pg} {P : Program} {φ : Emb} {w : World}

theorem vr_ud : VR φ ud undef := .tuple rfl (fun i x y h => by simp at h)
theorem cellsOf_np {v : Value} {l : List Value} (h : cellsOf v = some l) : isPoison v = false := by cases v <;> simp_all [isPoison,cellsOf,isCell]

theorem post_of_write {h h1 : H} {b off : Nat} {bi : BI} {new new' : List Value} (hw : writeAt h b off new = some h1) (hb : φ b = some bi) (hR : Rel p φ h.get w) (hd : Dom φ h.n) (hv : VL φ new new')
    (hc : ∀ x ∈ new,isCell x = true) {v v' : Value} (hvv : VP φ v v') : ∃ w',(storeCells ⟨bi.r,bi.o + off,none⟩ new').run P w = .ok () w' ∧ Post p φ h w v h1 v' w' := by
  obtain ⟨w',h1,h2,h3,h4⟩ := write_sim (P := P) hw hb hR hd hv hc
  exact ⟨w',h1,φ,h4,h3,h2,hvv⟩

theorem rStore_sim (hF : Fits p P) {h h1 : H} (hR : Rel p φ h.get w) (hd : Dom φ h.n) {t : Nat} {i : TyI} (ht : p.ty t = some i) {x y x' y' v : Value} {l1 : List Nat} (h0 : rStore h i.size x y = some (v,h1,l1))
    (hx : VP φ x x') (hy : VP φ y y') : ∃ w',(Instr.storeAt t x' y').run P w = .ok () w' ∧ Post p φ h w v h1 undef w' := by
  unfold rStore at h0
  split at h0
  · rename_i b o
    obtain ⟨cs,hcs,h0⟩ := Option.bind_eq_some_iff.1 h0
    split at h0
    · rename_i hl
      obtain ⟨h2,hw,he⟩ := Option.map_eq_some_iff.1 h0
      cases he
      obtain ⟨bi,hb,rfl⟩ := hx.ptrI
      obtain ⟨hv,_,_⟩ := (hy.vr (cellsOf_np hcs)).cells hcs
      obtain ⟨w',hs,hp⟩ := post_of_write (P := P) (v := ud) (v' := undef) hw hb hR hd hv (cellsOf_isCell hcs) vr_ud.vp
      refine ⟨w',?_,hp⟩
      have hsz : y'.cells.size = i.size := by rw [← Array.length_toList,← hv.1,hl]
      simp only [Instr.storeAt,Instr.sureAddr,Sem.run_bind,Sem.run_pure,Result.andThen_ok,storeVar,run_size (hF.ty _ _ ht),hsz]
      simp [hs]
    · cases h0
  · cases h0

theorem slice_shape {a : Option Addr} {n c : Nat} {z' : Value} (hz : VP φ (.slice a n c) z') : ∃ a' c',z' = .slice a' n c' ∧ (a = none → a' = none) := by
  cases a with
  | none => obtain ⟨rfl,rfl,rfl⟩ := hz.nilsliceI; exact ⟨none,0,rfl,fun _ => rfl⟩
  | some ad => have hv := hz.vr rfl; cases hv; exact ⟨_,_,rfl,(by intro e; cases e)⟩
theorem sliceCells_sim {C : Cont} {es n len c len2 c2 : Nat} {a a2 : Option Addr} {cs : List Value} (h : sliceCells C es a n = some cs) (hx : VP φ (.slice a len c) (.slice a2 len2 c2)) (hle : n ≤ len)
    (hR : ∀ b bi,φ b = some bi → ∃ ob,C b = some ob ∧ BlockRel p φ bi w ob) : ∃ cs' : List Value,VL φ cs cs' ∧ (∀ x ∈ cs,isCell x = true) ∧
      ∀ (w' : World) (l c : Nat),w'.heap = w.heap → (Builtin.firstCells es n (.slice a2 l c)).run P w' = .ok cs'.toArray w' := by
  unfold sliceCells at h
  split at h
  · rename_i h0
    cases h
    subst h0
    refine ⟨[],VL.nil φ,by simp,fun w' l c _ => ?_⟩
    cases a2 <;> simp [Builtin.firstCells,loadCells,loadCellsFrom]
  · rename_i h0
    split at h
    · rename_i b o
      obtain ⟨bi,a',c',hb,he,hn,ha,hc⟩ := hx.sliceI
      cases he
      obtain ⟨cs',h1,h2,h3,h4,h5⟩ := loadCells_sim (P := P) h (hR b bi hb)
      refine ⟨cs',h1,h3,fun w' l c hw' => ?_⟩
      have ha' : a' = ⟨bi.r,bi.o + o,none⟩ := by
        rcases ha with ha | ha
        · omega
        · exact ha
      subst ha'
      have := run_loadCells_list (P := P) w' ⟨bi.r,bi.o + o,none⟩ cs' (fun j v hj => by
        have := h5 j v hj
        simpa [World.cell?,hw'] using this)
      rw [h2] at this
      exact this
    · cases h

theorem rCopy_sim (hF : Fits p P) {h h1 : H} (hR : Rel p φ h.get w) (hd : Dom φ h.n) {t e : Nat} {i ei : TyI} (ht : p.ty t = some i) (hD : i.desc = .slice e) (he : p.ty e = some ei) {ts : Array TypeId} (h0 : ts[0]? = some t)
    {x y x' y' v : Value} {l1 : List Nat} (hh : rCopy h ei.size x y = some (v,h1,l1)) (hx : VP φ x x') (hy : VP φ y y') (ty : TypeId) :
    ∃ v' w',(Builtin.copy_ ts ty #[x',y']).run P w = .ok v' w' ∧ Post p φ h w v h1 v' w' := by
  have hu : P.underlying t = some (.slice e) := by rw [(hF.ty _ _ ht).und,hD]
  unfold rCopy at hh
  split at hh
  · rename_i a n c xa xn xc
    have hself : Post p φ h w (.int .i64 (min xn n : Nat)) h (.int .i64 (min xn n : Nat)) w := ⟨φ,Gr.refl w hd,Fr.refl _ _ _,hR,(VR.int _ _).vp⟩
    split at hh
    · rename_i hm
      cases hh
      obtain ⟨a',c',rfl,_⟩ := slice_shape hx
      obtain ⟨xa',xc',rfl,_⟩ := slice_shape hy
      rw [hm] at hself
      refine ⟨_,w,?_,hself⟩
      have hm' : Nat.min xn n = 0 := hm
      have hfc : (Builtin.firstCells ei.size 0 (.slice xa' xn xc')).run P w = .ok #[] w := by cases xa' <;> simp [Builtin.firstCells,loadCells,loadCellsFrom]
      simp only [Builtin.copy_,h0,List.getElem?_toArray,List.getElem?_cons_zero,List.getElem?_cons_succ,Sem.run_bind,run_underlying hu,Result.andThen_ok,Builtin.lenOf,Sem.run_pure,hm',run_size (hF.ty _ _ he),hfc]
      cases a' <;> rfl
    · rename_i hm
      obtain ⟨new,hnew,hh⟩ := Option.bind_eq_some_iff.1 hh
      obtain ⟨a',c',rfl,_⟩ := slice_shape hx
      obtain ⟨xa',xc',rfl,_⟩ := slice_shape hy
      obtain ⟨cs',hcs,hcell,hrun⟩ := sliceCells_sim (P := P) hnew hy (Nat.min_le_left _ _) hR.blk
      split at hh
      · obtain ⟨h2,hw,hq⟩ := Option.map_eq_some_iff.1 hh
        cases hq
        obtain ⟨bi,a2,c2,hb,he2,hn,ha,hc⟩ := hx.sliceI
        cases he2
        obtain ⟨w',hs,hp⟩ := post_of_write (P := P) (v := .int .i64 (min xn n : Nat)) (v' := .int .i64 (min xn n : Nat)) hw hb hR hd hcs hcell (VR.int _ _).vp
        refine ⟨_,w',?_,hp⟩
        have hm' : Nat.min xn n = min xn n := rfl
        rcases ha with ha | ha
        · omega
        · subst ha
          simp only [Builtin.copy_,h0,List.getElem?_toArray,List.getElem?_cons_zero,List.getElem?_cons_succ,Sem.run_bind,run_underlying hu,Result.andThen_ok,Builtin.lenOf,Sem.run_pure,run_size (hF.ty _ _ he),hm',hrun w _ _ rfl,hs,goInt]
      · cases hh
  · cases hh

theorem appNew_sim (hF : Fits p P) {C : Cont} (hR : ∀ b bi,φ b = some bi → ∃ ob,C b = some ob ∧ BlockRel p φ bi w ob) {e : Nat} {ei : TyI} (he : p.ty e = some ei) {tx : Nat} {x x' : Value} {m : Nat} {new : List Value}
    (h : appNew C ei (p.ty tx) x = some (m,new)) (hx : VP φ x x') (hb : m * (ei.bytes + ei.size + 1) ≤ lim) : ∃ new' : Array Value,AppX P w ei.size e tx x' m new' ∧ VL φ new new'.toList ∧ (∀ y ∈ new,isCell y = true) ∧ new.length = m * ei.size := by
  obtain ⟨z,hz,hzc,hzp,hza⟩ := run_zero (hF.ty _ _ he) w
  have hzall : ∀ w',(zeroValue e).run P w' = .ok z w' := by
    intro w'
    obtain ⟨z',h1,_⟩ := run_zero (hF.ty _ _ he) w'
    have e1 : ∀ {w1 w2 : World} {a b : Value},(zeroValue e).run P w1 = .ok a w1 → (zeroValue e).run P w2 = .ok b w2 → a = b := by
      intro w1 w2 a b h1 h2
      obtain ⟨⟨xi,hxi,_,_,⟨zz,hzz,_⟩,_⟩,_⟩ := hF.ty _ _ he
      simp [zeroValue,typeInfo,hxi,hzz] at h1 h2
      rw [← h1,← h2]
    rw [h1,e1 h1 hz]
  have hzl : ei.zero.length = ei.size := (hF.ty _ _ he).info.elim fun _ h => h.2.2.2.2
  have hzv : VL φ ei.zero z.cells.toList := ((VR.pure φ hzp).cells hzc).1
  unfold appNew at h
  split at h
  · rename_i k s1 s2 s3 s4 n hi
    split at h
    · rename_i hk
      cases h
      obtain ⟨hk0,hk1⟩ := hk
      have htx := hF.ty _ _ hi
      have hxi := hx.intI
      subst hxi
      obtain ⟨nn,rfl⟩ := Int.eq_ofNat_of_zero_le hk0
      refine ⟨Builtin.zeroCells z.cells nn,.zeros htx.und hzall (by omega) ?_ ?_,?_,?_,?_⟩
      · intro w'
        obtain ⟨ti,hti,hb2⟩ := run_bytes (hF.ty _ _ he) w'
        have hb' := hb
        refine ⟨ti,hti,?_⟩
        have h1 : nn * ei.bytes ≤ nn * (ei.bytes + ei.size + 1) := Nat.mul_le_mul_left _ (by omega)
        unfold lim at hb'
        rw [Int.toNat_natCast] at hb'
        have h2 : nn * ei.bytes ≤ 1099511627776 := Nat.le_trans h1 hb'
        rw [hb2,← Int.natCast_mul]
        generalize nn * ei.bytes = q at h2
        omega
      · intro h0
        unfold Builtin.zeroCells
        have hsz : z.cells.size = ei.size := by rw [← Array.length_toList,← hzv.1,hzl]
        rw [hsz,h0]
        simp
      · have := rep_VL hzv nn (nn * z.cells.size) (by rw [hzv.1]; simp)
        simpa [Builtin.zeroCells] using this
      · exact rep_isCell (cellsOf_isCell hzc) _
      · rw [rep_length,hzl]
    · cases h
  · rename_i k s1 s2 s3 s4 xa xn xc hi
    obtain ⟨l,hl,he2⟩ := Option.map_eq_some_iff.1 h
    cases he2
    obtain ⟨xa',xc',rfl,_⟩ := slice_shape hx
    obtain ⟨cs',hcs,hcell,hrun⟩ := sliceCells_sim (P := P) hl hx (Nat.le_refl _) hR
    have htx := hF.ty _ _ hi
    refine ⟨cs'.toArray,.slice htx.und (fun w' hw' => hrun w' _ _ hw'),by simpa using hcs,hcell,?_⟩
    unfold sliceCells at hl
    split at hl
    · rename_i h0; cases hl; simp [h0]
    · split at hl
      · obtain ⟨vs,ty,ro,_,hle,rfl⟩ := cellsAt_inv hl
        simp; omega
      · cases hl
  · cases h

theorem zeroCells_size (z : Array Value) (k : Nat) : (Builtin.zeroCells z k).size = k * z.size := by simp [Builtin.zeroCells]

theorem grow_post {h h0 : H} (hn0 : h0.n = h.n) (hR : Rel p φ h0.get w) (hd : Dom φ h.n) (hC : ∀ c oc,h0.get c = some oc → liveO oc = true → h.get c = some oc) {e : Nat} {ei : TyI} (he : p.ty e = some ei)
    {k cap : Nat} {cells : List Value} {real : Array Value} {spare : Array Value} (hv : VL φ cells real.toList) (hcell : ∀ y ∈ cells,isCell y = true) (hlen : cells.length = k * ei.size) (hcap : k ≤ cap)
    (hsp : spare.size = (cap - k) * ei.size) (hspc : ∀ y ∈ spare.toList,isCell y = true) (hcu : cap < uc) :
    Post p φ h w (.slice (some ⟨h.n,0,none⟩) k uc) (h0.push (.cells cells e false)) (.slice (some ⟨w.heap.size,0,none⟩) k cap)
      { w with drawn := w.drawn + 1,heap := w.heap.push (.cells (real ++ spare) e) } := by
  let bi : BI := ⟨w.heap.size,0,(real ++ spare).size,ei.size,cells.length⟩
  have hnone : φ h.n = none := by
    cases hh : φ h.n with
    | none => rfl
    | some x => exact absurd (hd h.n x hh) (by omega)
  have hrl : real.size = cells.length := by rw [hv.1]; simp
  have hget : (h0.push (.cells cells e false)).get = fun j => if j = h.n then some (.cells cells e false) else h0.get j := by
    funext j
    rw [H.get_push,hn0]
  refine ⟨φ.put h.n bi,?_,?_,?_,?_⟩
  · rw [hget,H.n_push,hn0]
    exact Gr.new hd (fun hlt => absurd hlt (Nat.lt_irrefl _)) hC
  · exact ⟨rfl,rfl,rfl,by simp,fun r hr _ => by simp [Array.getElem?_push,Nat.ne_of_lt hr]⟩
  · rw [hget]
    refine hR.new hd (fun c ci oc hc hoc hl => Nat.ne_of_lt (hR.lt hc hoc hl)) (fun c ci oc hc hoc hl => ?_) ?_
    · have := hR.lt hc hoc hl
      simp [Array.getElem?_push,Nat.ne_of_lt this]
    · refine .cells he rfl rfl (cs := real ++ spare) (ty' := e) (fr := (0,0)) (by simp [bi]) rfl (by simp [bi]; omega) ?_ hcell (fun _ => rfl) (fun _ x hx => by
        have hx := List.mem_of_mem_drop hx
        rw [Array.toList_append] at hx
        exact (List.mem_append.1 hx).elim (hv.cellR hcell x) (hspc x))
      simp only [bi,List.drop_zero,Array.toList_append]
      rw [List.take_append_of_le_length (by simp; omega),List.take_of_length_le (by simp; omega)]
      exact hv.mono (Emb.sub_put hnone)
  · refine (VR.slice (bi := bi) (Emb.put_self _ _ _) hcap (.inr rfl) (.inl ⟨rfl,?_,?_⟩)).vp
    · simp only [bi,hlen,Nat.zero_add]
      exact Nat.mul_le_mul_right _ hcap
    · right
      refine ⟨?_,hcu⟩
      simp only [bi,Array.size_append,hrl,hlen,hsp,Nat.zero_add]
      rw [← Nat.add_mul]
      exact Nat.le_of_eq (by congr 1; omega)

theorem take_post {h : H} (hR : Rel p φ h.get w) (hd : Dom φ h.n) {b o n m c' : Nat} {bi : BI} (hb : φ b = some bi) {vs : List Value} {e : Nat} {ei : TyI} (hC : h.get b = some (.cells vs e false)) (he : p.ty e = some ei) (hes : bi.es = ei.size)
    {old new new' : List Value} (ho : sliceCells h.get ei.size (some ⟨b,o,none⟩) n = some old) (hv : VL φ new new') (hcn : ∀ y ∈ new,isCell y = true) (hnl : new.length = m * ei.size) (hle : n + m ≤ c')
    (hfit : bi.o + o + c' * ei.size ≤ bi.s) (hisz : bi.isz ≤ o + c' * bi.es) (hcu : c' < uc) :
    ∃ w',(storeCells ⟨bi.r,bi.o + o + n * ei.size,none⟩ new').run P w = .ok () w' ∧
      Post p φ h w (.slice (some ⟨h.n,0,none⟩) (n + m) uc) ((h.kill b).push (.cells (old ++ new) e false)) (.slice (some ⟨bi.r,bi.o + o,none⟩) (n + m) c') w' := by
  obtain ⟨ob,hC',hr⟩ := hR.blk b bi hb
  rw [hC] at hC'
  cases hC'
  cases hr with
  | @cells _ _ _ cs ty' fr i hi hes' hisz' hww hs hsz hvv hcell hfr hj =>
    have hfr0 := hfr rfl
    subst hfr0
    have hnl' : new'.length = m * ei.size := by rw [← hv.1,hnl]
    have hmul : (n + m) * ei.size ≤ c' * ei.size := Nat.mul_le_mul_right _ hle
    rw [Nat.add_mul] at hmul
    have hf2 : bi.o + o + n * ei.size + 0 + new'.length ≤ cs.size := by rw [hs,hnl']; omega
    have hst := run_storeCells_at P bi.r (bi.o + o + n * ei.size) ty' new' 0 cs w hww hf2 (fun x hx => oneCell_of_isCell (hv.isCell_right hcn x hx))
    simp only [Nat.add_zero] at hst
    have hcl : cs.toList.length = bi.s := by simpa using hs
    have hol : old.length = n * ei.size ∧ VL φ old ((cs.toList.drop (bi.o + o)).take (n * ei.size)) ∧ ∀ y ∈ old,isCell y = true := by
      unfold sliceCells at ho
      split at ho
      · rename_i h0
        cases ho
        subst h0
        simp only [Nat.zero_mul,List.take_zero]
        exact ⟨rfl,VL.nil φ,by simp⟩
      · obtain ⟨vs2,ty2,ro2,hC2,hl2,rfl⟩ := cellsAt_inv ho
        rw [hC] at hC2
        cases hC2
        refine ⟨by simp; omega,?_,fun y hy => hcell y (List.mem_of_mem_drop (List.mem_of_mem_take hy))⟩
        have e1 : (((cs.toList.drop bi.o).take vs.length).drop o).take (n * ei.size) = (cs.toList.drop (bi.o + o)).take (n * ei.size) := by
          rw [List.drop_take,List.drop_drop,List.take_take]
          congr 1
          omega
        rw [← e1]
        exact (hvv.drop o).take _
    obtain ⟨hol,hvo,hco⟩ := hol
    let bi2 : BI := ⟨bi.r,bi.o + o,bi.s,ei.size,(old ++ new).length⟩
    let row : List Value := cs.toList.take (bi.o + o + n * ei.size) ++ new' ++ cs.toList.drop (bi.o + o + n * ei.size + new'.length)
    have hrow : row.toArray.size = bi.s := by simp [row]; omega
    have hnone : φ h.n = none := by
      cases hh : φ h.n with
      | none => rfl
      | some x => exact absurd (hd h.n x hh) (by omega)
    have hk : Rel p φ (h.kill b).get (w.setRow bi.r row.toArray) := hR.kill hb hC rfl rfl (fun k hk => setRow_other w bi.r k _ hk)
    have hkget : ∀ c oc,(h.kill b).get c = some oc → liveO oc = true → c ≠ b ∧ h.get c = some oc := by
      intro c oc hq hl
      unfold H.kill at hq
      rw [H.get_set] at hq
      split at hq
      · cases hq; cases hl
      · exact ⟨by assumption,hq⟩
    have rwlive : ∀ o : IObj,rwO o = true → liveO o = true := by intro o; cases o <;> simp [rwO,liveO]
    have hget : ((h.kill b).push (.cells (old ++ new) e false)).get = fun j => if j = h.n then some (.cells (old ++ new) e false) else (h.kill b).get j := by
      funext j
      rw [H.get_push]
      rfl
    have hlen : (old ++ new).length = n * ei.size + m * ei.size := by rw [List.length_append,hol,hnl]
    refine ⟨w.setRow bi.r row.toArray,hst,φ.put h.n bi2,?_,?_,?_,?_⟩
    · rw [hget]
      exact Gr.new hd (fun _ => ⟨b,bi,_,hb,hC,rfl,rfl⟩) (fun c oc hq hrw => (hkget c oc hq hrw).2)
    · exact ⟨rfl,rfl,rfl,by simp [World.setRow],fun r hr ho => setRow_other w bi.r r _ (fun e => ho ⟨b,bi,_,hb,hC,rfl,e.symm⟩)⟩
    · rw [hget]
      refine hk.new hd (fun c ci oc hc hoc hl => ?_) (fun _ _ _ _ _ _ => rfl) ?_
      · obtain ⟨hcb,hc2⟩ := hkget c oc hoc hl
        exact Ne.symm (hR.inj b c bi ci _ oc hb hc hC hc2 (Ne.symm hcb) rfl hl)
      · refine .cells he rfl rfl (setRow_heap w bi.r cs _ ty' (0,0) hww) hrow (by simp only [bi2]; rw [hlen]; omega) ?_ (fun y hy => ?_) (fun _ => rfl) (fun _ x hx => ?_)
        · have e2 : (row.drop (bi.o + o)).take (old ++ new).length = (cs.toList.drop (bi.o + o)).take (n * ei.size) ++ new' := by
            rw [hlen]
            apply List.ext_getElem?
            intro j
            simp only [row,List.getElem?_take,List.getElem?_drop,List.getElem?_append,List.length_take,List.length_append,List.length_drop,hcl,hnl']
            repeat' split
            all_goals first
              | rfl
              | (exfalso; omega)
              | (congr 1; omega)
              | (symm; apply List.getElem?_eq_none; omega)
              | (apply List.getElem?_eq_none; omega)
          show VL _ _ ((row.toArray.toList.drop (bi.o + o)).take (old ++ new).length)
          rw [show row.toArray.toList = row from rfl,e2]
          exact (hvo.append hv).mono (Emb.sub_put hnone)
        · rcases List.mem_append.1 hy with hy | hy
          · exact hco y hy
          · exact hcn y hy
        · have hx : x ∈ row.drop (bi.o + o) := hx
          refine (mem_row (by omega) (by omega) (by omega) hx).elim (fun hx => ?_) (hv.cellR hcn x)
          refine hj rfl x ?_
          rw [← List.drop_drop] at hx
          exact List.mem_of_mem_drop hx
    · have hv2 := VR.slice (φ := φ.put h.n bi2) (bi := bi2) (off := 0) (n := n + m) (c := uc) (c' := c') (a' := ⟨bi.r,bi.o + o,none⟩) (Emb.put_self _ _ _) hle (.inr rfl) (.inl ⟨rfl,by simp only [bi2]; rw [hlen]; omega,.inr ⟨by simp only [bi2]; omega,hcu⟩⟩)
      exact hv2.vp

theorem lim_bytes {n m b s : Nat} (h : (n + m) * (b + s + 1) ≤ lim) : (n + m) * b ≤ 140737488355328 ∧ n + m ≤ 9223372036854775807 ∧ m * (b + s + 1) ≤ lim := by
  have h1 : (n + m) * b ≤ (n + m) * (b + s + 1) := Nat.mul_le_mul_left _ (by omega)
  have h2 : (n + m) * 1 ≤ (n + m) * (b + s + 1) := Nat.mul_le_mul_left _ (by omega)
  have h3 : m * (b + s + 1) ≤ (n + m) * (b + s + 1) := Nat.mul_le_mul_right _ (by omega)
  unfold lim at *
  omega

theorem rAppend_sim (hF : Fits p P) {h h1 : H} (hR : Rel p φ h.get w) (hd : Dom φ h.n) {t tx e : Nat} {i ei : TyI} (ht : p.ty t = some i) (hD : i.desc = .slice e) (he : p.ty e = some ei) {ts : Array TypeId} (h0 : ts[0]? = some t)
    (hx0 : ts[1]? = some tx) {a : Option Addr} {n c m : Nat} {new : List Value} {s' x x' v : Value} {l1 : List Nat} (hh : rAppend h e ei a n c m new = some (v,h1,l1))
    (hnew : appNew h.get ei (p.ty tx) x = some (m,new)) (hs : VP φ (.slice a n c) s') (hx : VP φ x x') (ty : TypeId) :
    ∃ v' w',(Builtin.append_ ts ty #[s',x']).run P w = .ok v' w' ∧ Post p φ h w v h1 v' w' := by
  have hu : P.underlying t = some (.slice e) := by rw [(hF.ty _ _ ht).und,hD]
  have hsz : ∀ w',(sizeOf e).run P w' = .ok ei.size w' := fun w' => run_size (hF.ty _ _ he) w'
  obtain ⟨⟨ti,hti,htis,htib,⟨z,hz,hzc,hzp,hza⟩,hzl⟩,_⟩ := hF.ty _ _ he
  have hzr : ∀ w',(zeroValue e).run P w' = .ok z w' := fun w' => by simp [zeroValue,typeInfo,hti,hz]
  have hzs : z.cells.size = ei.size := by
    have := ((VR.pure φ hzp).cells hzc).1.1
    rw [← Array.length_toList,← this,hzl]
  unfold rAppend at hh
  split at hh
  case isFalse => cases hh
  rename_i hlim
  obtain ⟨hlb,hln,hlm⟩ := lim_bytes hlim
  obtain ⟨new',hX,hvn,hcn,hnl⟩ := appNew_sim (P := P) hF hR.blk he hnew hx hlm
  -- the real append makes a new row
  have grow : ∀ {g0 : H} {sb : Option Addr} {sc : Nat} {old : List Value} {old' : List Value},g0.n = h.n → Rel p φ g0.get w → (∀ c oc,g0.get c = some oc → liveO oc = true → h.get c = some oc) →
      sc < n + m → VL φ old old' → (∀ y ∈ old,isCell y = true) → old.length = n * ei.size → (∀ w' : World,w'.heap = w.heap → (Builtin.firstCells ei.size n (.slice sb n sc)).run P w' = .ok old'.toArray w') →
      ∃ v' w',(Builtin.append_ ts ty #[.slice sb n sc,x']).run P w = .ok v' w' ∧ Post p φ h w (.slice (some ⟨h.n,0,none⟩) (n + m) uc) (g0.push (.cells (old ++ new) e false)) v' w' := by
    intro g0 sb sc old old' hn0 hR0 hC0 hlt hvo hco hol hfo
    have hrun := app_grow (P := P) (w := w) h0 hx0 hu hsz hti hzr hX hlt (base := sb) hfo (by rw [htib]; exact hlb) hln ty
    refine ⟨_,_,hrun,?_⟩
    have hcap := le_grownCap w (n + m) sc e
    have hspc : ∀ y ∈ (Builtin.zeroCells z.cells (grownCap w (n + m) sc e - (n + m))).toList,isCell y = true := by
      have hzv : VL φ ei.zero z.cells.toList := ((VR.pure φ hzp).cells hzc).1
      have hvz := rep_VL hzv (grownCap w (n + m) sc e - (n + m)) ((grownCap w (n + m) sc e - (n + m)) * z.cells.size) (by rw [hzv.1]; simp)
      have hvz : VL φ (rep ei.zero (grownCap w (n + m) sc e - (n + m))) (Builtin.zeroCells z.cells (grownCap w (n + m) sc e - (n + m))).toList := by simpa [Builtin.zeroCells] using hvz
      exact hvz.cellR (rep_isCell (cellsOf_isCell hzc) _)
    refine grow_post hn0 hR0 hd hC0 he (k := n + m) (real := old'.toArray ++ new') (by simpa using hvo.append hvn) (fun y hy => ?_) (by rw [List.length_append,hol,hnl,← Nat.add_mul]) hcap (by rw [zeroCells_size,hzs]) hspc (by have := grownCap_le_maxLen w (n + m) sc e (by unfold maxLen; omega); unfold maxLen at this; unfold uc; omega)
    rcases List.mem_append.1 hy with hy | hy
    · exact hco y hy
    · exact hcn y hy
  split at hh
  · -- nil
    split at hh
    · rename_i hnc
      obtain ⟨rfl,rfl⟩ := hnc
      obtain ⟨_,_,rfl⟩ := hs.nilsliceI
      split at hh
      · rename_i hm
        subst hm
        cases hh
        have hrun := app_in (P := P) (w := w) h0 hx0 hu hsz hX (n := 0) (c := 0) (base := none) (Nat.le_refl _) (w' := w) rfl ty
        exact ⟨_,_,hrun,φ,Gr.refl w hd,Fr.refl _ _ _,hR,VR.nilslice.vp⟩
      · rename_i hm
        cases hh
        have := grow (g0 := h) (sb := none) (sc := 0) (old := []) (old' := []) rfl hR (fun _ _ h _ => h) (by omega) (VL.nil φ) (by simp) (by simp) (fun w' _ => by simp [Builtin.firstCells])
        simpa using this
    · cases h
      cases hh
  · rename_i b o
    obtain ⟨bi,a',c',hb,rfl,hn,ha,hc⟩ := hs.sliceI
    have old_of : ∀ {old : List Value},sliceCells h.get ei.size (some ⟨b,o,none⟩) n = some old → ∃ old' : List Value,VL φ old old' ∧ (∀ y ∈ old,isCell y = true) ∧ old.length = n * ei.size ∧
        ∀ w' : World,w'.heap = w.heap → (Builtin.firstCells ei.size n (.slice (some a') n c')).run P w' = .ok old'.toArray w' := by
      intro old ho
      obtain ⟨old',g1,g2,g3⟩ := sliceCells_sim (P := P) ho hs (Nat.le_refl _) hR.blk
      refine ⟨old',g1,g2,?_,fun w' hw' => g3 w' _ _ hw'⟩
      unfold sliceCells at ho
      split at ho
      · rename_i h0; cases ho; simp [h0]
      · obtain ⟨vs,ty,ro,_,hle,rfl⟩ := cellsAt_inv ho
        simp; omega
    split at hh
    · -- nothing is appended
      rename_i hm
      subst hm
      cases hh
      have hnn : new'.toList = [] := by
        have : new.length = 0 := by rw [hnl]; simp
        exact List.eq_nil_of_length_eq_zero (by rw [← hvn.1,this])
      have hrun := app_in (P := P) (w := w) h0 hx0 hu hsz hX (n := n) (c := c') (base := some a') (by omega) (w' := w) (by rw [hnn]; rfl) ty
      exact ⟨_,_,hrun,φ,Gr.refl w hd,Fr.refl _ _ _,hR,(VR.slice hb hn ha hc).vp⟩
    · rename_i hm
      -- the store in place
      have inplace : ∀ {h2 : H} {cc : Nat},n + m ≤ c' → writeAt h b (o + n * ei.size) new = some h2 → ((cc = uc ∧ bi.isz ≤ o + c' * bi.es ∧ (c' = 0 ∨ (bi.o + o + c' * bi.es ≤ bi.s ∧ c' < uc))) ∨ (c' = cc ∧ cc < uc)) →
          ∃ v' w',(Builtin.append_ ts ty #[.slice (some a') n c',x']).run P w = .ok v' w' ∧ Post p φ h w (.slice (some ⟨b,o,none⟩) (n + m) cc) h2 v' w' := by
        intro h2 cc hle hw hcc
        have ha' : a' = ⟨bi.r,bi.o + o,none⟩ := by
          rcases ha with ha | ha
          · omega
          · exact ha
        obtain ⟨w',hst,hp⟩ := post_of_write (P := P) (v := .slice (some ⟨b,o,none⟩) (n + m) cc) (v' := .slice (some a') (n + m) c') hw hb hR hd hvn hcn (VR.slice hb hle ha hcc).vp
        refine ⟨_,w',app_in (P := P) (w := w) h0 hx0 hu hsz hX hle (base := some a') ?_ ty,hp⟩
        subst ha'
        show (storeCells ((⟨bi.r,bi.o + o,none⟩ : Addr).add (n * ei.size)) new'.toList).run P w = _
        rw [addr_add,Nat.add_assoc]
        exact hst
      split at hh
      · rename_i vs ty0 hC
        split at hh
        · rename_i hcu
          subst hcu
          split at hh
          · rename_i hty
            obtain ⟨rfl,hsz0⟩ := hty
            have hbk := hR.blk b bi hb
            obtain ⟨ob,hob,hrel⟩ := hbk
            rw [hC] at hob
            cases hob
            have hroom : roomOf h.get ty0 ei.size b o n uc = some (max n ((vs.length - o) / ei.size)) := by simp [roomOf,hC,hsz0]
            obtain ⟨hrl,hes⟩ := roomOf_le hF he hroom (fun _ => ⟨_,hC,hrel⟩) hn hc
            have hc1 : bi.isz ≤ o + c' * bi.es ∧ (c' = 0 ∨ (bi.o + o + c' * bi.es ≤ bi.s ∧ c' < uc)) := by
              rcases hc with ⟨_,h1,h2⟩ | ⟨rfl,h1⟩
              · exact ⟨h1,h2⟩
              · exact absurd h1 (Nat.lt_irrefl _)
            split at hh
            · rename_i hle
              obtain ⟨h2,hw,hq⟩ := Option.map_eq_some_iff.1 hh
              cases hq
              exact inplace (Nat.le_trans hle (Nat.le_trans (Nat.le_max_right _ _) hrl)) hw (.inl ⟨rfl,hc1⟩)
            · obtain ⟨old,ho,hq⟩ := Option.map_eq_some_iff.1 hh
              cases hq
              obtain ⟨old',g1,g2,g3,g4⟩ := old_of ho
              by_cases hle : n + m ≤ c'
              · -- the real row had room: it is the new block now
                have ha' : a' = ⟨bi.r,bi.o + o,none⟩ := by
                  rcases ha with ha | ha
                  · omega
                  · exact ha
                subst ha'
                have hfit : bi.o + o + c' * ei.size ≤ bi.s := by
                  rcases hc1.2 with h | h
                  · omega
                  · rw [hes rfl] at h; exact h.1
                have hcu : c' < uc := by
                  rcases hc1.2 with h | h
                  · rw [h]; unfold uc; omega
                  · exact h.2
                obtain ⟨w',hst,hp⟩ := take_post (P := P) (n := n) (m := m) (c' := c') hR hd hb hC he (hes rfl) ho hvn hcn hnl hle hfit hc1.1 hcu
                refine ⟨_,w',app_in (P := P) (w := w) h0 hx0 hu hsz hX hle (base := some _) ?_ ty,hp⟩
                show (storeCells ((⟨bi.r,bi.o + o,none⟩ : Addr).add (n * ei.size)) new'.toList).run P w = _
                rw [addr_add]
                exact hst
              · have hk : Rel p φ (h.kill b).get w := hR.kill hb hC rfl rfl (fun _ _ => rfl)
                exact grow (g0 := h.kill b) rfl hk (fun q oq hq hrw => by
                  unfold H.kill at hq
                  rw [H.get_set] at hq
                  split at hq
                  · cases hq; cases hrw
                  · exact hq) (by omega) g1 g2 g3 g4
          · cases hh
        · rename_i hcu
          have hcc : c' = c ∧ c < uc := by
            rcases hc with ⟨e,_⟩ | hc
            · exact absurd e hcu
            · exact hc
          split at hh
          · rename_i hle
            obtain ⟨h2,hw,hq⟩ := Option.map_eq_some_iff.1 hh
            cases hq
            exact inplace (by rw [hcc.1]; exact hle) hw (.inr hcc)
          · obtain ⟨old,ho,hq⟩ := Option.map_eq_some_iff.1 hh
            cases hq
            obtain ⟨old',g1,g2,g3,g4⟩ := old_of ho
            exact grow (g0 := h) rfl hR (fun _ _ h _ => h) (by omega) g1 g2 g3 g4
      · split at hh
        · cases hh
        · rename_i hcu
          split at hh
          · cases hh
          · have hcc : c' = c ∧ c < uc := by
              rcases hc with ⟨e,_⟩ | hc
              · exact absurd e hcu
              · exact hc
            obtain ⟨old,ho,hq⟩ := Option.map_eq_some_iff.1 hh
            cases hq
            obtain ⟨old',g1,g2,g3,g4⟩ := old_of ho
            exact grow (g0 := h) rfl hR (fun _ _ h _ => h) (by omega) g1 g2 g3 g4
      · cases hh
  · cases hh
end
end Go.L1


namespace Go.L1
open Go

section
variable {p : Pg} {P : Program} {φ : Emb} {w : World}

theorem rClear_sim (hF : Fits p P) {h h1 : H} (hR : Rel p φ h.get w) (hd : Dom φ h.n) {t e : Nat} {i ei : TyI} (ht : p.ty t = some i) (hD : i.desc = .slice e) (he : p.ty e = some ei) {ts : Array TypeId} (h0 : ts[0]? = some t)
    {x x' v : Value} {l1 : List Nat} (hh : rClear h ei x = some (v,h1,l1)) (hx : VP φ x x') (ty : TypeId) :
    ∃ v' w',(Builtin.clear_ ts ty #[x']).run P w = .ok v' w' ∧ Post p φ h w v h1 v' w' := by
  have hu : P.underlying t = some (.slice e) := by rw [(hF.ty _ _ ht).und,hD]
  unfold rClear at hh
  split at hh
  · rename_i a n c
    split at hh
    · rename_i hn
      subst hn
      cases hh
      obtain ⟨a',c',rfl,_⟩ := slice_shape hx
      refine ⟨.tuple #[],w,?_,φ,Gr.refl w hd,Fr.refl _ _ _,hR,vr_ud.vp⟩
      simp only [Builtin.clear_,h0,List.getElem?_toArray,List.getElem?_cons_zero,Sem.run_bind,run_underlying hu,Result.andThen_ok]
      cases a' <;> rfl
    · rename_i hn
      split at hh
      · rename_i b o
        obtain ⟨h2,hw,hq⟩ := Option.map_eq_some_iff.1 hh
        cases hq
        obtain ⟨z,hz,hzc,hzp,hza⟩ := run_zero (hF.ty _ _ he) w
        have hzv : VL φ ei.zero z.cells.toList := ((VR.pure φ hzp).cells hzc).1
        obtain ⟨bi,a',c',hb,rfl,hnc,ha,hc⟩ := hx.sliceI
        have hv := rep_VL hzv n (n * z.cells.size) (by rw [hzv.1]; simp)
        obtain ⟨w',hs,hp⟩ := post_of_write (P := P) (v := ud) (v' := .tuple #[]) hw hb hR hd hv (rep_isCell (cellsOf_isCell hzc) n) vr_ud.vp
        refine ⟨_,w',?_,hp⟩
        rcases ha with ha | ha
        · omega
        · subst ha
          simp only [Builtin.clear_,h0,List.getElem?_toArray,List.getElem?_cons_zero,Sem.run_bind,run_underlying hu,Result.andThen_ok]
          cases n with
          | zero => exact absurd rfl hn
          | succ n =>
            simp only [hz,Result.andThen_ok]
            have hs' : (storeCells ⟨bi.r,bi.o + o,none⟩ (Builtin.zeroCells z.cells (n + 1)).toList).run P w = .ok () w' := hs
            rw [hs']
            rfl
      · cases hh
  · cases hh

theorem getObj_map {r : Nat} {es : Array MapEntry} {clock : Nat} (h : w.heap[r]? = some (.map es clock)) : (getObj r).run P w = .ok (.map es clock) w := by simp [getObj,Sem.run,h]
theorem setObj_map {r : Nat} {es : Array MapEntry} {clock : Nat} (h : w.heap[r]? = some (.map es clock)) (o : Obj) : (setObj r o).run P w = .ok () { w with heap := w.heap.setIfInBounds r o } := by simp [setObj,Sem.run,h]

theorem putK_sim {k : ByteArray} {x x' : Value} (hx : VR φ x x') (hxc : isCell x = true) : ∀ {es es1 : List (Value × Value)} {es' : List MapEntry} (j : Nat),putK k x es = some es1 → es.length = es'.length →
    (∀ (i : Nat) (k v : Value) (e : MapEntry),es[i]? = some (k,v) → es'[i]? = some e → (∃ s,k = .string s ∧ e.key = .string s) ∧ VR φ v e.val ∧ isCell v = true) →
    (Instr.findNow .string (.string k) es' j = some none ∧ es1 = es ++ [(.string k,x)]) ∨
    (∃ i e,Instr.findNow .string (.string k) es' j = some (some (j + i,e.val)) ∧ es'[i]? = some e ∧ (∃ s,e.key = .string s ∧ bl k = bl s) ∧ i < es.length ∧ es1 = es.set i (.string k,x))
  | [],es1,es',j,h,hl,_ => by
    cases h
    cases es' with
    | nil => exact .inl ⟨rfl,rfl⟩
    | cons _ _ => simp at hl
  | (k',v) :: es,es1,es',j,h,hl,he => by
    cases es' with
    | nil => simp at hl
    | cons e es' =>
      obtain ⟨⟨s,rfl,hs⟩,hv,hc⟩ := he 0 k' v e rfl rfl
      simp only [putK] at h
      simp only [Instr.findNow,hs,sameNow_str]
      split at h
      · rename_i heq
        cases h
        rw [heq]
        exact .inr ⟨0,e,rfl,rfl,⟨s,hs,by simpa using heq⟩,by simp,rfl⟩
      · rename_i heq
        have hf : (bl k == bl s) = false := by simpa using heq
        rw [hf]
        obtain ⟨r,hr,rfl⟩ := Option.map_eq_some_iff.1 h
        rcases putK_sim hx hxc (j + 1) hr (by simpa using hl) (fun i k v e h1 h2 => he (i + 1) k v e (by simpa using h1) (by simpa using h2)) with ⟨h1,rfl⟩ | ⟨i,e2,h1,h2,h3,h4,rfl⟩
        · exact .inl ⟨h1,rfl⟩
        · exact .inr ⟨i + 1,e2,by rw [h1,show j + 1 + i = j + (i + 1) by omega],by simpa using h2,h3,by rw [List.length_cons]; exact Nat.succ_lt_succ h4,rfl⟩

theorem rMapUpd_sim (hF : Fits p P) {h h1 : H} (hR : Rel p φ h.get w) (hd : Dom φ h.n) {t kt e : Nat} {i ki : TyI} (ht : p.ty t = some i) (hD : i.desc = .map kt e) (hk : p.ty kt = some ki) (hks : ki.desc = .string)
    {m k x m' k' x' v : Value} {l1 : List Nat} (hh : rMapUpd h m k x = some (v,h1,l1)) (hm : VP φ m m') (hkv : VP φ k k') (hx : VP φ x x') :
    ∃ w',(Instr.mapUpdate t m' k' x').run P w = .ok () w' ∧ Post p φ h w v h1 undef w' := by
  have hu : P.underlying t = some (.map kt e) := by rw [(hF.ty _ _ ht).und,hD]
  have huk : P.underlying kt = some .string := by rw [(hF.ty _ _ hk).und,hks]
  unfold rMapUpd at hh
  split at hh
  · rename_i r s
    split at hh
    · rename_i es hC
      split at hh
      · rename_i hxc
        obtain ⟨es1,hput,hq⟩ := Option.map_eq_some_iff.1 hh
        cases hq
        obtain ⟨bi,hb,rfl⟩ := hm.mapI
        have hks' := hkv.strI
        subst hks'
        have hxv := hx.vr (by cases x <;> simp_all [isPoison,isCell])
        obtain ⟨ob,hC',hrel⟩ := hR.blk r bi hb
        rw [hC] at hC'
        cases hC'
        cases hrel with
        | @map _ es' clock hw hl hke =>
          have fin : ∀ {es2 : Array MapEntry} {clock2 : Nat},es1.length = es2.toList.length →
              (∀ (i : Nat) (k v : Value) (e : MapEntry),es1[i]? = some (k,v) → es2.toList[i]? = some e → (∃ s,k = .string s ∧ e.key = .string s) ∧ VR φ v e.val ∧ isCell v = true) →
              Post p φ h w ud (h.set r (.map es1)) undef { w with heap := w.heap.setIfInBounds bi.r (.map es2 clock2) } := by
            intro es2 clock2 hl2 hke2
            have hlt : bi.r < w.heap.size := (Array.getElem?_eq_some_iff.1 hw).1
            have hset : (h.set r (.map es1)).get = fun j => if j = r then some (.map es1) else h.get j := by funext j; exact H.get_set ..
            refine ⟨φ,⟨fun _ _ => rfl,hd,Nat.le_refl _,fun q _ ho => ?_,fun q _ ho => ?_⟩,⟨rfl,rfl,rfl,by simp,fun q _ ho => ?_⟩,?_,vr_ud.vp⟩
            · rw [hset] at ho; exact owned_upd hC rfl ho
            · rw [hset] at ho; exact uses_upd hC rfl ho
            · have : bi.r ≠ q := fun e => ho ⟨r,bi,_,hb,hC,rfl,e⟩
              simp [this]
            · rw [hset]
              refine hR.upd hb hC rfl rfl (fun k hk => by simp [Ne.symm hk]) (.map (es' := es2) (clock := clock2) (by simp [hlt]) hl2 hke2)
          rcases putK_sim hxv hxc 0 hput hl hke with ⟨hf,rfl⟩ | ⟨i0,e0,hf,he0,⟨s0,hs0,hs1⟩,hi0,rfl⟩
          · refine ⟨_,?_,fin (es2 := es'.push { key := .string s,val := x',born := clock }) (clock2 := clock + 1) (by simp [hl]) ?_⟩
            · simp only [Instr.mapUpdate,Sem.run_bind,run_underlying hu,Result.andThen_ok,getObj_map hw,checkKey_str huk,Instr.findKey,run_underlying huk,hf,Sem.run_pure]
              exact setObj_map hw _
            · intro i k v e h1 h2
              simp only [Array.toList_push] at h2
              rw [List.getElem?_append] at h1 h2
              rw [← hl] at h2
              split at h1
              · rename_i hi
                rw [if_pos hi] at h2
                exact hke i k v e h1 h2
              · rename_i hi
                rw [if_neg hi] at h2
                rcases hz : i - es.length with _ | q
                · rw [hz] at h1 h2
                  cases h1
                  cases h2
                  exact ⟨⟨s,rfl,rfl⟩,hxv,hxc⟩
                · rw [hz] at h1
                  simp at h1
          · have hkeys : s0 = s := by
              have : s.data.toList = s0.data.toList := hs1
              cases s; cases s0
              simp only at this
              congr 1
              exact (Array.ext' this).symm
            subst hkeys
            have hi' : i0 < es'.size := by simpa [hl] using hi0
            have hg : es'[i0]? = some e0 := by rw [← Array.getElem?_toList]; exact he0
            refine ⟨_,?_,fin (es2 := es'.modify i0 fun e => { e with key := .string s0,val := x' }) (clock2 := clock) (by simp [hl]) ?_⟩
            · simp only [Instr.mapUpdate,Sem.run_bind,run_underlying hu,Result.andThen_ok,getObj_map hw,checkKey_str huk,Instr.findKey,run_underlying huk,hf,Sem.run_pure,Nat.zero_add,hg,Option.map_some,Option.getD_some,hs0,Instr.keyThatStays,Instr.sameBits,show (s0 == s0) = true from by rw [bl_beq]; simp,if_true]
              exact setObj_map hw _
            · intro i k v e h1 h2
              rw [List.getElem?_set] at h1
              rw [Array.getElem?_toList,Array.getElem?_modify] at h2
              split at h1
              · rename_i hii
                subst hii
                cases h1
                rw [if_pos rfl,hg] at h2
                cases h2
                exact ⟨⟨s0,rfl,rfl⟩,hxv,hxc⟩
              · rename_i hii
                rw [if_neg hii] at h2
                exact hke i k v e h1 (by rw [Array.getElem?_toList]; exact h2)
      · cases hh
    · cases hh
  · cases hh

def Did (r : Result Next) (v' : Value) (w' : World) : Prop := r = .ok (.value v') w' ∨ (r = .ok .skip w' ∧ v' = undef)

theorem elemOf_inv {o : Option Nat} {e : Nat} {ei : TyI} (h : elemOf p o = some (e,ei)) : ∃ t i,o = some t ∧ p.ty t = some i ∧ i.desc = .slice e ∧ p.ty e = some ei := by
  unfold elemOf at h
  obtain ⟨t,ht,h⟩ := Option.bind_eq_some_iff.1 h
  obtain ⟨i,hi,h⟩ := Option.bind_eq_some_iff.1 h
  split at h
  · rename_i e' hD
    obtain ⟨ei',hei,h⟩ := Option.map_eq_some_iff.1 h
    cases h
    exact ⟨t,i,ht,hi,hD,hei⟩
  · cases h

theorem list2 {β γ : Type} {f : β → γ} {l : List β} {x y : γ} (h : l.map f = [x,y]) : ∃ a b,l = [a,b] ∧ f a = x ∧ f b = y := by
  match l,h with
  | [a,b],h => simp at h; exact ⟨a,b,rfl,h⟩

theorem list1 {β γ : Type} {f : β → γ} {l : List β} {x : γ} (h : l.map f = [x]) : ∃ a,l = [a] ∧ f a = x := by
  match l,h with
  | [a],h => simp at h; exact ⟨a,rfl,h⟩

theorem run_append {a : Act} {al : List Operand} {ts : Array TypeId} {type : TypeId} {dst : Option Nat} {pos : String} {after : Array Edge} {guard : Option (Nat × Bool)} {v : Value} {w' : World}
    (h : (Builtin.append_ ts type ⟨al.map a.eval⟩).run P w = .ok v w') :
    (execOp a.eval { dst := dst,op := .call { callee := .builtin .append,args := ⟨al⟩,argTypes := ts },type := type,pos := pos,after := after,guard := guard }).run P w = .ok (.value v) w' := by
  simp only [execOp,resolve,Sem.run_bind,Sem.run_pure,Result.andThen_ok,invoke,builtin,List.map_toArray]
  rw [h]; rfl
theorem run_copy {a : Act} {al : List Operand} {ts : Array TypeId} {type : TypeId} {dst : Option Nat} {pos : String} {after : Array Edge} {guard : Option (Nat × Bool)} {v : Value} {w' : World}
    (h : (Builtin.copy_ ts type ⟨al.map a.eval⟩).run P w = .ok v w') :
    (execOp a.eval { dst := dst,op := .call { callee := .builtin .copy,args := ⟨al⟩,argTypes := ts },type := type,pos := pos,after := after,guard := guard }).run P w = .ok (.value v) w' := by
  simp only [execOp,resolve,Sem.run_bind,Sem.run_pure,Result.andThen_ok,invoke,builtin,List.map_toArray]
  rw [h]; rfl
theorem run_clear {a : Act} {al : List Operand} {ts : Array TypeId} {type : TypeId} {dst : Option Nat} {pos : String} {after : Array Edge} {guard : Option (Nat × Bool)} {v : Value} {w' : World}
    (h : (Builtin.clear_ ts type ⟨al.map a.eval⟩).run P w = .ok v w') :
    (execOp a.eval { dst := dst,op := .call { callee := .builtin .clear,args := ⟨al⟩,argTypes := ts },type := type,pos := pos,after := after,guard := guard }).run P w = .ok (.value v) w' := by
  simp only [execOp,resolve,Sem.run_bind,Sem.run_pure,Result.andThen_ok,invoke,builtin,List.map_toArray]
  rw [h]; rfl

theorem heavy_sim (hF : Fits p P) {call : CallF} {T : Env} {a : Act} {h h1 : H} (hR : Rel p φ h.get w) (hd : Dom φ h.n) (o : Oper) {v : Value} {l1 : List Nat} (hh : heavyV p call T h o.op = some (v,h1,l1))
    (hE : ∀ x ∈ o.op.operands.toList,VP φ (eval T x) (a.eval x)) (hnc : ∀ f as ts,o.op ≠ .call { callee := .value f,args := as,argTypes := ts }) :
    ∃ v' w',Did ((execOp a.eval o).run P w) v' w' ∧ Post p φ h w v h1 v' w' := by
  obtain ⟨dst,op,type,pos,after,guard⟩ := o
  simp only at hh hE hnc
  cases op <;> simp only [heavyV] at hh <;> try contradiction
  case store t x y =>
    obtain ⟨i,hi,hh⟩ := Option.bind_eq_some_iff.1 hh
    obtain ⟨w',h1,h2⟩ := rStore_sim (P := P) hF hR hd hi hh (hE x (by simp [Op.operands])) (hE y (by simp [Op.operands]))
    exact ⟨undef,w',.inr ⟨by simp [execOp,h1],rfl⟩,h2⟩
  case mapUpdate t m k x =>
    obtain ⟨i,hi,hh⟩ := Option.bind_eq_some_iff.1 hh
    split at hh
    · rename_i kt e hD
      obtain ⟨ki,hki,hh⟩ := Option.bind_eq_some_iff.1 hh
      split at hh
      · rename_i hks
        obtain ⟨w',h1,h2⟩ := rMapUpd_sim (P := P) hF hR hd hi hD hki hks hh (hE m (by simp [Op.operands])) (hE k (by simp [Op.operands])) (hE x (by simp [Op.operands]))
        exact ⟨undef,w',.inr ⟨by simp [execOp,h1],rfl⟩,h2⟩
      · cases hh
    · cases hh
  case call c =>
    obtain ⟨callee,args,ts⟩ := c
    cases callee <;> simp only at hh <;> try contradiction
    · exact absurd rfl (hnc _ _ _)
    rename_i b
    obtain ⟨al⟩ := args
    have hargs : ∀ x,x ∈ al → VP φ (eval T x) (a.eval x) := fun x hx => hE x (by simpa [Op.operands,Call.operands] using hx)
    unfold builtinH at hh
    split at hh
    · rename_i s x he
      obtain ⟨so,xo,rfl,rfl,rfl⟩ := list2 he
      obtain ⟨⟨e,ei⟩,he1,hh⟩ := Option.bind_eq_some_iff.1 hh
      obtain ⟨⟨m,new⟩,hnew,hh⟩ := Option.bind_eq_some_iff.1 hh
      obtain ⟨t,i,ht,hi,hD,hei⟩ := elemOf_inv he1
      rw [Array.getElem?_toList] at ht
      simp only at hh
      split at hh
      · rename_i sa n cc hs
        have hvs := hargs so (by simp)
        rw [hs] at hvs
        cases htx : ts.toList[1]? with
        | none => rw [htx] at hnew; simp [appNew] at hnew
        | some tx =>
          rw [htx] at hnew
          simp only [Option.bind_some] at hnew
          rw [Array.getElem?_toList] at htx
          obtain ⟨v',w',h2,h3⟩ := rAppend_sim (P := P) hF hR hd hi hD hei ht htx hh hnew hvs (hargs xo (by simp)) type
          exact ⟨v',w',.inl (run_append h2),h3⟩
      · cases hh
    · rename_i d x he
      obtain ⟨so,xo,rfl,rfl,rfl⟩ := list2 he
      obtain ⟨⟨e,ei⟩,he1,hh⟩ := Option.bind_eq_some_iff.1 hh
      obtain ⟨t,i,ht,hi,hD,hei⟩ := elemOf_inv he1
      rw [Array.getElem?_toList] at ht
      obtain ⟨v',w',h2,h3⟩ := rCopy_sim (P := P) hF hR hd hi hD hei ht hh (hargs so (by simp)) (hargs xo (by simp)) type
      exact ⟨v',w',.inl (run_copy h2),h3⟩
    · rename_i d he
      obtain ⟨so,rfl,rfl⟩ := list1 he
      obtain ⟨⟨e,ei⟩,he1,hh⟩ := Option.bind_eq_some_iff.1 hh
      obtain ⟨t,i,ht,hi,hD,hei⟩ := elemOf_inv he1
      rw [Array.getElem?_toList] at ht
      obtain ⟨v',w',h2,h3⟩ := rClear_sim (P := P) hF hR hd hi hD hei ht hh (hargs so (by simp)) type
      exact ⟨v',w',.inl (run_clear h2),h3⟩
    · cases hh
end
end Go.L1


namespace Go.L1
open Go

structure Stp (h h1 : H) (lg : List Nat) : Prop where
  le : h.n ≤ h1.n
  same : ∀ b,b < h.n → b ∉ lg → h1.get b = h.get b
theorem Stp.refl (h : H) (lg : List Nat) : Stp h h lg := ⟨Nat.le_refl _,fun _ _ _ => rfl⟩
theorem Stp.trans {h h1 h2 : H} {l1 l2 : List Nat} (a : Stp h h1 l1) (b : Stp h1 h2 l2) : Stp h h2 (l2 ++ l1) :=
  ⟨Nat.le_trans a.le b.le,fun x hx hl => by
    simp only [List.mem_append,not_or] at hl
    exact (b.same x (Nat.lt_of_lt_of_le hx a.le) hl.1).trans (a.same x hx hl.2)⟩
theorem Stp.push (h : H) (ob : IObj) (lg : List Nat) : Stp h (h.push ob) lg :=
  ⟨by simp [H.push],fun b hb _ => by rw [H.get_push,if_neg (by omega)]⟩
theorem Stp.set (h : H) (r : Nat) (ob : IObj) {lg : List Nat} (hr : r ∈ lg) : Stp h (h.set r ob) lg :=
  ⟨Nat.le_refl _,fun b _ hl => by rw [H.get_set,if_neg (fun e => hl (by rw [e]; exact hr))]⟩
theorem Stp.more {h h1 : H} {l l' : List Nat} (a : Stp h h1 l) (hs : ∀ b,b < h.n → b ∈ l → b ∈ l') : Stp h h1 l' :=
  ⟨a.le,fun b hb hl => a.same b hb fun hm => hl (hs b hb hm)⟩

theorem writeAt_stp {h h1 : H} {b off : Nat} {new : List Value} (hw : writeAt h b off new = some h1) : Stp h h1 [b] := by
  obtain ⟨vs,ty,_,_,rfl⟩ := writeAt_inv hw
  exact Stp.set _ _ _ (by simp)

def CallLog (call : CallF) : Prop := ∀ t args h v h1 lg,call t args h = some (v,h1,lg) → Stp h h1 lg
def SpecLog (p : Pg) : Prop := ∀ f s,p.spec f = some s → ∀ args h v h1 lg,s args h = some (v,h1,lg) → Stp h h1 lg

section
variable {p : Pg}

theorem rAppend_stp {h : H} {e : Nat} {ei : TyI} {a : Option Addr} {n c m : Nat} {new : List Value} {v : Value} {h1 : H} {lg : List Nat}
    (hh : rAppend h e ei a n c m new = some (v,h1,lg)) : Stp h h1 lg := by
  unfold rAppend at hh
  split at hh
  · split at hh
    · split at hh
      · split at hh
        · cases hh; exact Stp.refl _ _
        · cases hh; exact Stp.push _ _ _
      · cases hh
    · rename_i b o
      split at hh
      · cases hh; exact Stp.refl _ _
      · split at hh
        · split at hh
          · split at hh
            · split at hh
              · obtain ⟨h2,hw,e⟩ := Option.map_eq_some_iff.1 hh
                cases e; exact writeAt_stp hw
              · obtain ⟨h2,hw,e⟩ := Option.map_eq_some_iff.1 hh
                cases e
                exact ((Stp.set h b .dead (lg := [b]) (by simp)).trans (Stp.push (h.kill b) _ [])).more (fun b _ h => by simpa using h)
            · cases hh
          · split at hh
            · obtain ⟨h2,hw,e⟩ := Option.map_eq_some_iff.1 hh
              cases e; exact writeAt_stp hw
            · obtain ⟨h2,hw,e⟩ := Option.map_eq_some_iff.1 hh
              cases e; exact Stp.push _ _ _
        · split at hh
          · cases hh
          · split at hh
            · cases hh
            · obtain ⟨h2,hw,e⟩ := Option.map_eq_some_iff.1 hh
              cases e; exact Stp.push _ _ _
        · cases hh
    · cases hh
  · cases hh

theorem rCopy_stp {h : H} {es : Nat} {d x : Value} {v : Value} {h1 : H} {lg : List Nat} (hh : rCopy h es d x = some (v,h1,lg)) : Stp h h1 lg := by
  unfold rCopy at hh
  split at hh
  · split at hh
    · cases hh; exact Stp.refl _ _
    · obtain ⟨new,_,hh⟩ := Option.bind_eq_some_iff.1 hh
      split at hh
      · obtain ⟨h2,hw,e⟩ := Option.map_eq_some_iff.1 hh
        cases e; exact writeAt_stp hw
      · cases hh
  · cases hh

theorem rClear_stp {h : H} {ei : TyI} {d : Value} {v : Value} {h1 : H} {lg : List Nat} (hh : rClear h ei d = some (v,h1,lg)) : Stp h h1 lg := by
  unfold rClear at hh
  split at hh
  · split at hh
    · cases hh; exact Stp.refl _ _
    · split at hh
      · obtain ⟨h2,hw,e⟩ := Option.map_eq_some_iff.1 hh
        cases e; exact writeAt_stp hw
      · cases hh
  · cases hh

theorem heavyV_stp {call : CallF} (hc : CallLog call) {T : Env} {h : H} {o : Op} {v : Value} {h1 : H} {lg : List Nat} (hh : heavyV p call T h o = some (v,h1,lg)) : Stp h h1 lg := by
  unfold heavyV at hh
  split at hh
  · obtain ⟨i,_,hh⟩ := Option.bind_eq_some_iff.1 hh
    unfold rStore at hh
    split at hh
    · obtain ⟨cs,_,hh⟩ := Option.bind_eq_some_iff.1 hh
      split at hh
      · obtain ⟨h2,hw,e⟩ := Option.map_eq_some_iff.1 hh
        cases e; exact writeAt_stp hw
      · cases hh
    · cases hh
  · obtain ⟨i,_,hh⟩ := Option.bind_eq_some_iff.1 hh
    split at hh
    · obtain ⟨ki,_,hh⟩ := Option.bind_eq_some_iff.1 hh
      split at hh
      · unfold rMapUpd at hh
        split at hh
        · split at hh
          · split at hh
            · obtain ⟨es1,_,e⟩ := Option.map_eq_some_iff.1 hh
              cases e; exact Stp.set _ _ _ (by simp)
            · cases hh
          · cases hh
        · cases hh
      · cases hh
    · cases hh
  · split at hh
    · unfold builtinH at hh
      split at hh
      · obtain ⟨⟨e,ei⟩,_,hh⟩ := Option.bind_eq_some_iff.1 hh
        obtain ⟨⟨m,new⟩,_,hh⟩ := Option.bind_eq_some_iff.1 hh
        simp only at hh
        split at hh
        · exact rAppend_stp hh
        · cases hh
      · obtain ⟨⟨e,ei⟩,_,hh⟩ := Option.bind_eq_some_iff.1 hh
        exact rCopy_stp hh
      · obtain ⟨⟨e,ei⟩,_,hh⟩ := Option.bind_eq_some_iff.1 hh
        exact rClear_stp hh
      · cases hh
    · unfold callV at hh
      split at hh
      · exact hc _ _ _ _ _ _ hh
      · split at hh
        · exact hc _ _ _ _ _ _ hh
        · cases hh
      · cases hh
    · cases hh
  · cases hh

theorem callV_stp {call : CallF} (hc : CallLog call) {h : H} {f : Value} {args : List Value} {v : Value} {h1 : H} {lg : List Nat} (hh : callV call h f args = some (v,h1,lg)) : Stp h h1 lg := by
  unfold callV at hh
  split at hh
  · exact hc _ _ _ _ _ _ hh
  · split at hh
    · exact hc _ _ _ _ _ _ hh
    · cases hh
  · cases hh

theorem opV_stp {call : CallF} (hc : CallLog call) {T : Env} {h : H} {o : Op} {v : Value} {h1 : H} {lg : List Nat} (hh : opV p call T h o = some (v,h1,lg)) : Stp h h1 lg := by
  unfold opV at hh
  split at hh
  · obtain ⟨x,_,e⟩ := Option.map_eq_some_iff.1 hh
    cases e; exact Stp.refl _ _
  · obtain ⟨⟨x,ob⟩,_,e⟩ := Option.map_eq_some_iff.1 hh
    cases e; exact Stp.push _ _ _
  · exact heavyV_stp hc hh

theorem ops1_stp {call : CallF} (hc : CallLog call) {all : List Oper} : ∀ {l : List Oper} {T : Env} {h : H} {lg : List Nat} {T1 : Env} {h1 : H} {lg1 : List Nat},
    ops1 p call all l T h lg = some (T1,h1,lg1) → ∃ l1,lg1 = l1 ++ lg ∧ Stp h h1 l1
  | [],T,h,lg,T1,h1,lg1,hh => by cases hh; exact ⟨[],rfl,Stp.refl _ _⟩
  | o :: l,T,h,lg,T1,h1,lg1,hh => by
    unfold ops1 at hh
    split at hh
    · cases hh
    · exact ops1_stp hc hh
    · split at hh
      · cases hh
      · rename_i hv
        obtain ⟨l2,rfl,hs⟩ := ops1_stp hc hh
        exact ⟨l2 ++ _,by rw [List.append_assoc],(opV_stp hc hv).trans hs⟩

theorem ops2_stp {call : CallF} (hc : CallLog call) {all : List Oper} : ∀ {l : List Oper} {T : Env} {h : H} {ms : List Mk} {T1 : Env} {h1 : H} {ms1 : List Mk},
    ops2 p call all l T h ms = some (T1,h1,ms1) → ∃ m1,ms1 = ms ++ m1 ∧ Stp h h1 (logOf m1)
  | [],T,h,lg,T1,h1,lg1,hh => by cases hh; exact ⟨[],by simp,Stp.refl _ _⟩
  | o :: l,T,h,lg,T1,h1,lg1,hh => by
    unfold ops2 at hh
    split at hh
    · cases hh
    · obtain ⟨l2,rfl,hs⟩ := ops2_stp hc hh
      exact ⟨_ :: l2,by rw [List.append_assoc]; rfl,hs.more fun b _ h => by simpa [logOf] using h⟩
    · split at hh
      · cases hh
      · rename_i hv
        obtain ⟨l2,rfl,hs⟩ := ops2_stp hc hh
        refine ⟨_ :: l2,by rw [List.append_assoc]; rfl,((opV_stp hc hv).trans hs).more fun b _ h => ?_⟩
        simp only [logOf,List.flatMap_cons,List.mem_append] at h ⊢
        exact h.symm

theorem region_stp {call : CallF} (hc : CallLog call) {ops : Array Oper} {draw : Bool} {T : Env} {h : H} {o : Out} (hh : region p call ops draw T h = some o) : Stp h o.h o.lg := by
  unfold region at hh
  cases draw
  · simp only [cond_false] at hh
    split at hh
    · cases hh
    · rename_i he
      cases hh
      obtain ⟨l,hl,hs⟩ := ops1_stp hc he
      rw [List.append_nil] at hl
      subst hl
      exact hs
  · simp only [cond_true] at hh
    split at hh
    · cases hh
    · rename_i he
      split at hh
      · cases hh
        obtain ⟨l,hl,hs⟩ := ops2_stp hc he
        rw [List.nil_append] at hl
        subst hl
        exact hs
      · cases hh

theorem loopN_stp {body : List Value → H → Option LOut} (hb : ∀ vs h o,body vs h = some o → Stp h o.h o.lg) : ∀ {n : Nat} {vs : List Value} {h : H} {o : LOut},loopN body n vs h = some o → Stp h o.h o.lg
  | 0,vs,h,o,hh => by cases hh
  | n + 1,vs,h,o,hh => by
    unfold loopN at hh
    split at hh
    · cases hh
    · rename_i o1 h1
      split at hh
      · split at hh
        · cases hh
        · rename_i o2 h2
          cases hh
          exact (hb _ _ _ h1).trans (loopN_stp hb h2)
      · cases hh; exact hb _ _ _ h1

def LoopLog (lp : LoopF) : Prop := ∀ body,(∀ vs h o,body vs h = some o → Stp h o.h o.lg) → ∀ vs h o,lp body vs h = some o → Stp h o.h o.lg

theorem code_stp {call : CallF} (hc : CallLog call) {lp : LoopF} (hl : LoopLog lp) {fn : Nat} : ∀ (c : Code) {k : Nat} {T : Env} {h : H} {o : Out},code p call lp fn c k T h = some o → Stp h o.h o.lg := by
  intro c
  induction c with
  | skip => intro k T h o hh; cases hh; exact Stp.refl _ _
  | region id ops draw => intro k T h o hh; exact region_stp hc hh
  | seq a b iha ihb =>
    intro k T h o hh
    simp only [code] at hh
    split at hh
    · cases hh
    · rename_i o1 h1
      split at hh
      · split at hh
        · cases hh
        · rename_i o2 h2
          cases hh
          exact (iha h1).trans (ihb h2)
      · cases hh; exact iha h1
  | cond c a b iha ihb =>
    intro k T h o hh
    simp only [code] at hh
    split at hh
    · rename_i t ht
      obtain ⟨o1,h1,rfl⟩ := Option.map_eq_some_iff.1 hh
      have e : (maskN (p.live fn k) o1).h = o1.h ∧ (maskN (p.live fn k) o1).lg = o1.lg := by unfold maskN; split <;> exact ⟨rfl,rfl⟩
      rw [e.1,e.2]
      cases t
      · exact ihb h1
      · exact iha h1
    · cases hh
  | block id b ih =>
    intro k T h o hh
    simp only [code] at hh
    split at hh
    · cases hh
    · rename_i o1 h1
      split at hh
      · split at hh
        · cases hh; have := ih h1; exact this
        · cases hh; exact ih h1
      · cases hh; have := ih h1; exact this
      · cases hh; exact ih h1
  | loop b ih =>
    intro k T h o hh
    simp only [code] at hh
    split at hh
    · cases hh
    · rename_i o1 h1
      cases hh
      refine hl _ (fun vs h o hb => ?_) _ _ _ h1
      split at hb
      · cases hb
      · rename_i o2 h2
        cases hb
        exact ih h2
  | exit id => intro k T h o hh; cases hh; exact Stp.refl _ _
  | ret => intro k T h o hh; cases hh; exact Stp.refl _ _
  | rangeFunc f ps asg body iha ihb =>
    intro k T h o hh
    simp only [code] at hh
    split at hh
    · split at hh
      · cases hh
      · rename_i v h1 lg hv
        split at hh
        · split at hh
          · cases hh
          · split at hh
            · cases hh
            · cases hh
              refine ((Stp.push h _ []).trans ((hc _ _ _ _ _ _ hv).trans (Stp.set h1 h.n .dead (lg := [h.n]) (by simp)))).more fun b hb h => ?_
              simpa using h
        · cases hh
    · cases hh
  | _ => intro k T h o hh; cases hh

theorem settle_stp {h0 h1 : H} {v : Value} {lg : List Nat} (hs : Stp h0 h1 lg) {v' : Value} {h' : H} {lg' : List Nat} (he : settle h0 v h1 lg = (v',h',lg')) : Stp h0 h' lg' := by
  unfold settle at he
  simp only at he
  split at he
  · cases he; exact Stp.refl _ _
  · cases he; exact hs.more fun b hb hm => List.mem_filter.2 ⟨hm,by simpa using hb⟩

theorem funcV_stp {call : CallF} (hsp : SpecLog p) (hc : CallLog call) {lp : LoopF} (hl : LoopLog lp) {f : Nat} {args : List Value} {h : H} {v : Value} {h1 : H} {lg : List Nat}
    (hh : funcV p call lp f args h = some (v,h1,lg)) : Stp h h1 lg := by
  unfold funcV at hh
  split at hh
  · rename_i s hs
    exact hsp _ _ hs _ _ _ _ _ hh
  · split at hh
    · cases hh
    · split at hh
      · unfold ext at hh
        split at hh
        · split at hh
          · cases hh; exact Stp.refl _ _
          · cases hh
        · cases hh
      · split at hh
        · split at hh
          · cases hh
          · rename_i o ho
            split at hh
            · cases hh
            · split at hh
              · cases hh
              · rename_i vs hvs
                exact settle_stp (code_stp hc hl _ ho) (Option.some.inj hh)
        · cases hh

theorem roundV_stp {call : CallF} (hc : CallLog call) {lp : LoopF} (hl : LoopLog lp) {l : Nat} {args : List Value} {h : H} {v : Value} {h1 : H} {lg : List Nat}
    (hh : roundV p call lp l args h = some (v,h1,lg)) : Stp h h1 lg := by
  unfold roundV at hh
  split at hh
  · split at hh
    · split at hh
      · cases hh
      · rename_i o ho
        split at hh
        · split at hh
          · split at hh
            · cases hh
            · rename_i o2 ho2
              split at hh
              · cases hh
                apply Stp.more (l := ([l] ++ o2.lg) ++ ([l] ++ o.lg))
                · exact ((code_stp hc hl _ ho).trans (Stp.set o.h l _ (lg := [l]) (by simp))).trans ((code_stp hc hl _ ho2).trans (Stp.set o2.h l _ (lg := [l]) (by simp)))
                intro b hb hm
                refine List.mem_filter.2 ⟨?_,by simpa using hb⟩
                simp only [List.mem_append,List.mem_cons,List.not_mem_nil,or_false] at hm ⊢
                rcases hm with (h | h) | (h | h)
                · exact .inl h
                · exact .inr (.inl h)
                · exact .inl h
                · exact .inr (.inr h)
              · cases hh
          · cases hh
        · cases hh
    · cases hh
  · cases hh

theorem loopN_log (n : Nat) : LoopLog (fun b => loopN b n) := fun body hb vs h o hh => loopN_stp hb hh
theorem icall_stp (hsp : SpecLog p) : ∀ n,CallLog (icall p n)
  | 0 => fun t args h v h1 lg hh => by cases t <;> cases hh
  | n + 1 => fun t args h v h1 lg hh => by
    cases t with
    | fn f => exact funcV_stp hsp (icall_stp hsp n) (loopN_log n) hh
    | yield l => exact roundV_stp (icall_stp hsp n) (loopN_log n) hh
end
end Go.L1


namespace Go.L1
open Go

def VPL (φ : Emb) (l l' : List Value) : Prop := l.length = l'.length ∧ ∀ (i : Nat) (x y : Value),l[i]? = some x → l'[i]? = some y → VP φ x y
theorem VL.vpl {φ : Emb} {l l' : List Value} (h : VL φ l l') : VPL φ l l' := ⟨h.1,fun i x y a b => (h.2 i x y a b).vp⟩
theorem VPL.append {φ : Emb} {a b a' b' : List Value} (h : VPL φ a a') (h' : VPL φ b b') : VPL φ (a ++ b) (a' ++ b') := by
  refine ⟨by simp [h.1,h'.1],fun i x y hx hy => ?_⟩
  rw [List.getElem?_append] at hx hy
  have hl := h.1
  split at hx
  · rw [if_pos (by omega)] at hy; exact h.2 i x y hx hy
  · rw [if_neg (by omega),← hl] at hy; exact h'.2 _ x y hx hy
theorem VPL.map {φ : Emb} {α : Type} {f g : α → Value} (l : List α) (h : ∀ a ∈ l,VP φ (f a) (g a)) : VPL φ (l.map f) (l.map g) := by
  refine ⟨by simp,fun i x y hx hy => ?_⟩
  rw [List.getElem?_map] at hx hy
  cases ha : l[i]? with
  | none => rw [ha] at hx; cases hx
  | some a =>
    rw [ha] at hx hy
    cases hx; cases hy
    exact h a (List.mem_of_getElem? ha)
theorem VPL.single {φ : Emb} {x y : Value} (h : VP φ x y) : VPL φ [x] [y] :=
  ⟨rfl,fun i a b ha hb => by
    cases i with
    | zero => cases ha; cases hb; exact h
    | succ i => cases ha⟩

def fence (r : Option Nat) : Fence := { Fence.wide with round := r }
theorem fence_none : fence none = Fence.wide := rfl

section
variable {p : Pg} {P : Program}

def NoYield (args : List Value) : Prop := ∀ l,Value.func (.yield l) #[] #[] ∉ args
def FnSim (p : Pg) (P : Program) (call : CallF) : Prop := ∀ f args h v h1 lg,call (.fn f) args h = some (v,h1,lg) →
  ∀ φ w (args' : Array Value),Rel p φ h.get w → Dom φ h.n → VPL φ args args'.toList →
    (∃ v' w',(callFunc f args').run P w = .ok (.value v') w' ∧ Post p φ h w v h1 v' w' ∧ NoYield args) ∨
    ((callFunc f args').run P w = .ok (.enter f args') w ∧ CallsIn Fence.wide 0 P f args' w fun e w' => ∃ v',e = .returned v' ∧ Post p φ h w v h1 v' w')
def YdSim (p : Pg) (P : Program) (call : CallF) : Prop := ∀ l args h v h1 lg,call (.yield l) args h = some (v,h1,lg) →
  ∀ φ w (args' : Array Value) bi,Rel p φ h.get w → Dom φ h.n → VPL φ args args'.toList → φ l = some bi →
    ∃ f tmps asg body,(Instr.yield bi.r args').run P w = .ok (.round bi.r f tmps asg body) w ∧
      RoundIn Fence.wide 0 P bi.r f tmps asg body w fun e w' => ∃ v',e = .returned v' ∧ Post p φ h w v h1 v' w'

structure CallSim (p : Pg) (P : Program) (call : CallF) : Prop where
  fn : FnSim p P call
  yd : YdSim p P call

theorem CallsIn.atFence (r : Option Nat) {f : FuncId} {args : Array Value} {w : World} {R : Ending → World → Prop} (h : CallsIn Fence.wide 0 P f args w R) : CallsIn (fence r) 0 P f args w R := h
theorem RoundIn.atFence (r : Option Nat) {l : Nat} {f : FuncId} {tmps : Array Value} {asg body : Code} {w : World} {R : Ending → World → Prop} (h : RoundIn Fence.wide 0 P l f tmps asg body w R) :
    RoundIn (fence r) 0 P l f tmps asg body w R := h

theorem alloc_post {φ : Emb} {h : H} {w : World} (hR : Rel p φ h.get w) (hd : Dom φ h.n) {v v' : Value} {ob : IObj} {o' : Obj} (hl : Laid p φ w h.n v ob v' o') :
    Post p φ h w v (h.push ob) v' { w with heap := w.heap.push o' } := by
  obtain ⟨bi,hbi,hv,hB,_,_⟩ := hl
  have hget : (h.push ob).get = fun j => if j = h.n then some ob else h.get j := by funext j; rw [H.get_push]
  refine ⟨φ.put h.n bi,?_,?_,?_,hv.vp⟩
  · rw [hget,H.n_push]
    exact Gr.new hd (fun hlt => absurd hlt (by omega)) fun _ _ h _ => h
  · exact ⟨rfl,rfl,rfl,by simp,fun r hr _ => by simp [Array.getElem?_push,Nat.ne_of_lt hr]⟩
  · rw [hget]
    refine hR.new hd (fun c ci oc hc hoc hl => ?_) (fun c ci oc hc hoc hl => ?_) (hB _ ?_)
    · have := hR.lt hc hoc hl; omega
    · have := hR.lt hc hoc hl
      simp [Array.getElem?_push,Nat.ne_of_lt this]
    · rw [hbi]; simp

theorem opV_not_defer {call : CallF} {T : Env} {h : H} {o : Op} {r : Value × H × List Nat} (hv : opV p call T h o = some r) : ∀ c,o ≠ .defer c := by
  rintro c rfl
  simp [opV,kindOf,heavyV] at hv

theorem run_call {a : Act} {f : Operand} {args : Array Operand} {ts : Array TypeId} {type : TypeId} {dst : Option Nat} {pos : String} {after : Array Edge} {guard : Option (Nat × Bool)} {g : Fn} {x y : Array Value} {w : World}
    (hf : a.eval f = .func g x y) :
    (execOp a.eval { dst := dst,op := .call { callee := .value f,args := args,argTypes := ts },type := type,pos := pos,after := after,guard := guard }).run P w = (invoke (.fn g y) (x ++ args.map a.eval)).run P w := by
  simp only [execOp,resolve,hf,Deferred.ofValue,Sem.run_bind,Sem.run_pure,Result.andThen_ok]

theorem oper_sim (hF : Fits p P) {call : CallF} (hcall : CallSim p P call) (r : Option Nat) {T : Env} {a : Act} {h : H} {φ : Emb} {w : World} (hR : Rel p φ h.get w) (hd : Dom φ h.n) (o : Oper)
    {v : Value} {h1 : H} {l1 : List Nat} (hv : opV p call T h o.op = some (v,h1,l1)) (hE : ∀ x ∈ o.op.operands.toList,VP φ (eval T x) (a.eval x))
    {next : Act → World → Prop} {Q : Exit → Act → World → Prop} (K : ∀ v' w',Post p φ h w v h1 v' w' → next (a.put o.dst v') w') : o.wpIn (fence r) 0 P a w next Q := by
  refine ⟨fun _ _ => trivial,?_⟩
  rw [Oper.semAt_eq _ _ _ (opV_not_defer hv)]
  unfold opV at hv
  split at hv
  · rename_i hk
    obtain ⟨x,hx,e⟩ := Option.map_eq_some_iff.1 hv
    cases e
    obtain ⟨v',hrun,hvp⟩ := pure_sim (P := P) hF o hk hx hE (fun b _ bi hb => hR.blk b bi hb)
    rw [hrun]
    exact K v' w ⟨φ,Gr.refl w hd,Fr.refl _ _ _,hR,hvp⟩
  · obtain ⟨⟨x,ob⟩,hx,e⟩ := Option.map_eq_some_iff.1 hv
    cases e
    have hn : φ h.n = none := by
      cases hh : φ h.n with
      | none => rfl
      | some x => exact absurd (hd h.n x hh) (by omega)
    obtain ⟨v',o',hrun,hl⟩ := alloc_sim (P := P) (w := w) hF hn o hx hE
    rw [hrun]
    exact K v' _ (alloc_post hR hd hl)
  · by_cases hnc : ∀ f as ts,o.op ≠ .call { callee := .value f,args := as,argTypes := ts }
    · obtain ⟨v',w',hdid,hpost⟩ := heavy_sim (P := P) hF hR hd o hv hE hnc
      rcases hdid with e | ⟨e,rfl⟩
      · rw [e]; exact K v' w' hpost
      · rw [e]; exact K _ w' hpost
    · obtain ⟨dst,op,type,pos,after,guard⟩ := o
      simp only [Classical.not_forall,ne_eq,Classical.not_not] at hnc
      obtain ⟨f,as,ts,rfl⟩ := hnc
      simp only [heavyV] at hv
      have hvf := hE f (by simp [Op.operands,Call.operands])
      have hva : VPL φ (as.toList.map (eval T)) (as.map a.eval).toList := by
        rw [Array.toList_map]
        exact VPL.map _ fun x hx => hE x (by simpa [Op.operands,Call.operands] using Or.inr (by simpa using hx))
      unfold callV at hv
      split at hv
      · rename_i g first cap he
        rw [he] at hvf
        obtain ⟨x',y',e',hx,hy⟩ := hvf.funcI
        rw [run_call e']
        have hargs : VPL φ (first.toList ++ as.toList.map (eval T) ++ cap.toList) (x' ++ as.map a.eval ++ y').toList := by
          simp only [Array.toList_append]
          exact (hx.vpl.append hva).append hy.vpl
        simp only [invoke]
        rcases hcall.fn _ _ _ _ _ _ hv φ w _ hR hd hargs with ⟨v',w',hrun,hpost,_⟩ | ⟨hrun,hc⟩
        · rw [hrun]; exact K v' w' hpost
        · rw [hrun]
          refine ⟨fun h => by simp [fence,Fence.wide] at h,CallsIn.atFence r (hc.mono fun e w' => ?_)⟩
          rintro ⟨v',rfl,hpost⟩
          exact K v' w' hpost
      · rename_i l first cap he
        split at hv
        · rw [he] at hvf
          obtain ⟨bi,hb,rfl,rfl,e'⟩ := hvf.yieldI
          rw [run_call e']
          obtain ⟨f,tmps,asg,body,hrun,hr⟩ := hcall.yd _ _ _ _ _ _ hv φ w (as.map a.eval) bi hR hd hva hb
          simp only [invoke]
          rw [show (#[] ++ Array.map a.eval as) = Array.map a.eval as by simp,hrun]
          refine ⟨fun h => by simp [fence,Fence.wide] at h,RoundIn.atFence r (hr.mono fun e w' => ?_)⟩
          rintro ⟨v',rfl,hpost⟩
          exact K v' w' hpost
        · cases hv
      · cases hv

theorem put_size (a : Act) (d : Option Nat) (v : Value) : (a.put d v).tmps.size = a.tmps.size := by cases d <;> simp [Act.put]
theorem put_defers (a : Act) (d : Option Nat) (v : Value) : (a.put d v).defers = a.defers := by cases d <;> rfl
theorem er_put {φ : Emb} {T : Env} {a : Act} (hE : ER φ T a.tmps) {d : Option Nat} {v v' : Value} (hv : VP φ v v') (hN : slotOk a.tmps.size d = true) : ER φ (putT T d v) (a.put d v').tmps := by
  cases d with
  | none => exact hE
  | some d =>
    have hlt : d < a.tmps.size := Nat.le_of_ble_eq_true hN
    intro i
    simp only [putT,Act.put,Env.set]
    by_cases e : i = d
    · subst e
      simp [hlt,hv]
    · have : Nat.beq i d = false := by rw [Bool.eq_false_iff]; intro hb; exact e (Nat.eq_of_beq_eq_true hb)
      rw [this]
      simp only [cond_false]
      have h2 := hE i
      rw [Array.getD_eq_getD_getElem?,Array.getElem?_setIfInBounds,if_neg (Ne.symm e),← Array.getD_eq_getD_getElem?]
      exact h2


theorem wanted_sim {φ : Emb} {ops : Array Oper} {T : Env} {tmps : Array Value} {o : Oper} {b : Bool}
    (hE : ∀ j w d,o.guard = some (j,w) → guardSlot ops.toList j = some d → VP φ (T d) (tmps.getD d undef)) (hw : wantedV ops.toList T o.guard = some b) :
    Region.wanted o (yielded ops tmps) = b := by
  unfold wantedV at hw
  unfold Region.wanted
  cases hg : o.guard with
  | none => rw [hg] at hw; cases hw; rfl
  | some jw =>
    obtain ⟨j,want⟩ := jw
    rw [hg] at hw
    simp only at hw ⊢
    split at hw
    · rename_i d hs
      have hv := hE j want d hg hs
      have hys : ((ops[j]?).bind (·.dst)) = some d := by
        unfold guardSlot at hs
        rwa [Array.getElem?_toList] at hs
      unfold yielded
      rw [hys]
      simp only [Option.bind_some]
      rw [Array.getD_eq_getD_getElem?] at hv
      split at hw
      · rename_i b' he
        rw [he] at hv
        cases hw
        have := hv.boolI
        cases hh : tmps[d]? with
        | none => rw [hh] at this; simp [undef] at this
        | some q => rw [hh] at this; simp at this; subst this; simp
      · cases hw
      · cases hw
      · rename_i hnb hnp hnf
        cases hw
        cases hh : tmps[d]? with
        | none => rfl
        | some q =>
          rw [hh] at hv
          simp only [Option.getD_some] at hv
          cases q with
          | bool b' =>
            exfalso
            rcases hv with hp | hv
            · unfold isPoison at hp; split at hp
              · rename_i hpp; exact hnp _ hpp
              · cases hp
            · generalize T d = q at hv hnb hnf
              cases hv with
              | nilIface _ => exact hnf rfl
              | bool _ => exact hnb _ rfl
          | _ => rfl
    · cases hw

def After (p : Pg) (φ : Emb) (h : H) (w : World) (T1 : Env) (h1 : H) (a' : Act) (w' : World) : Prop :=
  ∃ φ',Gr φ h.get h.n w φ' h1.get h1.n ∧ Fr φ h.get w w' ∧ Rel p φ' h1.get w' ∧ ER φ' T1 a'.tmps
theorem Gr.domOf {φ φ' : Emb} {C C' : Cont} {n n' : Nat} {w : World} (g : Gr φ C n w φ' C' n') : Dom φ' n' := g.dom
theorem After.trans {φ φ1 : Emb} {h h1 h2 : H} {w w1 w2 : World} {T2 : Env} {a2 : Act} (g : Gr φ h.get h.n w φ1 h1.get h1.n) (f : Fr φ h.get w w1)
    (h' : After p φ1 h1 w1 T2 h2 a2 w2) : After p φ h w T2 h2 a2 w2 := by
  obtain ⟨φ2,g2,f2,r2,e2⟩ := h'
  exact ⟨φ2,g.trans f.size g2,f.trans g f2,r2,e2⟩
theorem opOk_operands {N : Nat} {o : Oper} (h : opOk N o = true) : ∀ x ∈ o.op.operands.toList,operandOk x = true := by
  simp only [opOk,Bool.and_eq_true,List.all_eq_true] at h
  exact h.1
theorem opOk_slot {N : Nat} {o : Oper} (h : opOk N o = true) : slotOk N o.dst = true := by
  simp only [opOk,Bool.and_eq_true] at h
  exact h.2

theorem ops1_sim (hF : Fits p P) {call : CallF} (hcall : CallSim p P call) (r : Option Nat) {ops : Array Oper} {N : Nat} {Q : Exit → Act → World → Prop} {T1 : Env} {h1 : H} :
    ∀ (l : List Oper) (k : Nat),ops.toList.drop k = l → ∀ {T : Env} {h : H} {lg lg1 : List Nat} {φ : Emb} {w : World} {a : Act},ops1 p call ops.toList l T h lg = some (T1,h1,lg1) → Rel p φ h.get w → Dom φ h.n →
      ER φ T a.tmps → a.tmps.size = N → (∀ o ∈ l,opOk N o = true) → (∀ a' w',a'.tmps.size = N → a'.defers = a.defers → After p φ h w T1 h1 a' w' → Q .normal a' w') →
      wpOpsIn (fence r) 0 P ops Q (List.range' k l.length) a w
  | [],k,_,T,h,lg,lg1,φ,w,a,hh,hR,hd,hE,hN,_,K => by
    cases hh
    simp only [List.length_nil,List.range'_zero,wpOpsIn]
    exact K a w hN rfl ⟨φ,Gr.refl w hd,Fr.refl _ _ _,hR,hE⟩
  | o :: l,k,hl,T,h,lg,lg1,φ,w,a,hh,hR,hd,hE,hN,hok,K => by
    have ho : ops[k]? = some o := by
      rw [← Array.getElem?_toList,← Nat.add_zero k,← List.getElem?_drop,hl]; rfl
    have hl' : ops.toList.drop (k + 1) = l := by rw [← List.drop_drop,hl]; rfl
    have hoo := hok o (by simp)
    simp only [List.length_cons,List.range'_succ,wpOpsIn,ho]
    unfold ops1 at hh
    split at hh
    · cases hh
    · rename_i hw
      rw [wanted_sim (fun j _ d _ _ => hE d) hw]
      refine ⟨fun _ _ => trivial,?_⟩
      refine ops1_sim hF hcall r l (k + 1) hl' hh hR hd (er_put hE vr_ud.vp (by rw [hN]; exact opOk_slot hoo)) (by rw [put_size]; exact hN) (fun o' ho' => hok o' (by simp [ho'])) ?_
      exact fun a' w' h2 h3 h4 => K a' w' h2 (by rw [h3,put_defers]) h4
    · rename_i hw
      rw [wanted_sim (fun j _ d _ _ => hE d) hw]
      split at hh
      · cases hh
      · rename_i v h2 l1 hv
        refine oper_sim hF hcall r hR hd o hv (fun x hx => eval_rel hE (opOk_operands hoo x hx)) ?_
        rintro v' w' ⟨φ',g,f,hR',hvp⟩
        refine ops1_sim hF hcall r l (k + 1) hl' hh hR' g.dom (er_put (hE.mono (g.sub hd)) hvp (by rw [hN]; exact opOk_slot hoo)) (by rw [put_size]; exact hN) (fun o' ho' => hok o' (by simp [ho'])) ?_
        exact fun a' w'' h2 h3 h4 => K a' w'' h2 (by rw [h3,put_defers]) (After.trans g f h4)

end
end Go.L1


namespace Go.L1
open Go

def Bf (ops : List Oper) (i j : Nat) : Bool := ((befores [] ops).getD i 0).testBit j

theorem befores_length : ∀ (l : List Oper) (acc : List Nat),(befores acc l).length = acc.length + l.length
  | [],acc => by simp [befores]
  | o :: l,acc => by rw [befores,befores_length l]; simp; omega
theorem befores_old : ∀ (l : List Oper) (acc : List Nat) (i : Nat),i < acc.length → (befores acc l)[i]? = acc[i]?
  | [],acc,i,_ => rfl
  | o :: l,acc,i,h => by
    rw [befores,befores_old l _ i (by simp; omega),List.getElem?_append_left h]
theorem befores_at : ∀ (l : List Oper) (acc : List Nat) (k : Nat) (o : Oper),l[k]? = some o →
    (befores acc l)[acc.length + k]? = some (o.after.toList.foldl (edgeMask ((befores acc l).take (acc.length + k))) 0)
  | [],acc,k,o,h => by simp at h
  | o :: l,acc,0,o',h => by
    cases h
    have e : (befores acc (o :: l)).take (acc.length + 0) = acc := by
      apply List.ext_getElem?
      intro j
      rw [List.getElem?_take]
      split
      · rename_i hj
        exact befores_old (o :: l) acc j (by omega)
      · rename_i hj
        rw [List.getElem?_eq_none (by omega)]
    rw [e]
    rw [befores,befores_old l _ _ (by simp)]
    simp
  | o :: l,acc,k + 1,o',h => by
    have := befores_at l (acc ++ [o.after.toList.foldl (edgeMask acc) 0]) k o' h
    rw [befores]
    have e : (acc ++ [o.after.toList.foldl (edgeMask acc) 0]).length + k = acc.length + (k + 1) := by simp; omega
    rw [e] at this
    exact this

theorem fold_bit (acc : List Nat) (j : Nat) : ∀ (l : List Edge) (s : Nat),(l.foldl (edgeMask acc) s).testBit j = true ↔
    s.testBit j = true ∨ ∃ e ∈ l,Region.binds .any e = true ∧ (e.on = j ∨ (acc.getD e.on 0).testBit j = true)
  | [],s => by simp
  | e :: l,s => by
    rw [List.foldl_cons,fold_bit acc j l]
    unfold edgeMask
    by_cases hb : Region.binds .any e = true
    · rw [hb]
      simp only [if_true,Nat.testBit_or,Bool.or_eq_true,Nat.testBit_two_pow,decide_eq_true_eq,List.mem_cons,exists_eq_or_imp,hb,true_and]
      constructor
      · rintro (((h | h) | h) | h)
        · exact .inl h
        · exact .inr (.inl (.inl h))
        · exact .inr (.inl (.inr h))
        · exact .inr (.inr h)
      · rintro (h | ((h | h) | h))
        · exact .inl (.inl (.inl h))
        · exact .inl (.inl (.inr h))
        · exact .inl (.inr h)
        · exact .inr h
    · simp only [hb,Bool.false_eq_true,if_false,List.mem_cons,exists_eq_or_imp,false_and,false_or]

section
variable {ops : Array Oper}

structure Drawn (ops : Array Oper) : Prop where
  back : ∀ (i : Nat) o,ops[i]? = some o → ∀ e ∈ o.after.toList,Region.binds .any e = true → e.on < i
  slot : ∀ (i : Nat) o d (j : Nat) u,ops[i]? = some o → o.dst = some d → ops[j]? = some u → i ≠ j → d ∈ namesOf ops.toList u → Bf ops.toList i j = true ∨ Bf ops.toList j i = true
theorem drawn_of (h : drawOk ops.toList = true) : Drawn ops := by
  have key : ∀ (i : Nat) o,ops[i]? = some o → _ := fun i o ho => by
    unfold drawOk at h
    simp only [List.all_eq_true,List.mem_range] at h
    have hi : i < ops.toList.length := by
      have := (Array.getElem?_eq_some_iff.1 ho).1
      simpa using this
    have := h i hi
    rw [Array.getElem?_toList,ho] at this
    exact this
  constructor
  · intro i o ho e he hb
    have := key i o ho
    simp only [Bool.and_eq_true,List.all_eq_true] at this
    have := this.1 e he
    rw [hb] at this
    simpa using this
  · intro i o d j u ho hd hu hij hdu
    have := key i o ho
    simp only [hd,Bool.and_eq_true,List.all_eq_true,List.mem_range] at this
    have hj : j < ops.toList.length := by
      have := (Array.getElem?_eq_some_iff.1 hu).1
      simpa using this
    have := this.2 j hj
    rw [Array.getElem?_toList,hu] at this
    simp only [Bool.or_eq_true,Bool.not_eq_true',List.contains_eq_mem,comparable] at this
    rcases this with (h | h | h) | h
    · exact absurd (Nat.eq_of_beq_eq_true h) hij
    · exact .inl h
    · exact .inr h
    · simp [hdu] at h

theorem bf_iff (hD : Drawn ops) {i : Nat} {o : Oper} (ho : ops[i]? = some o) (j : Nat) :
    Bf ops.toList i j = true ↔ ∃ e ∈ o.after.toList,Region.binds .any e = true ∧ (e.on = j ∨ Bf ops.toList e.on j = true) := by
  have h1 := befores_at ops.toList [] i o (by rw [Array.getElem?_toList]; exact ho)
  simp only [List.length_nil,Nat.zero_add] at h1
  unfold Bf
  rw [List.getD_eq_getElem?_getD,h1,Option.getD_some,fold_bit]
  simp only [Nat.zero_testBit,Bool.false_eq_true,false_or]
  have e1 : ∀ e ∈ o.after.toList,Region.binds .any e = true → ((befores [] ops.toList).take i).getD e.on 0 = (befores [] ops.toList).getD e.on 0 := fun e he hb => by
    have := hD.back i o ho e he hb
    rw [List.getD_eq_getElem?_getD,List.getD_eq_getElem?_getD,List.getElem?_take,if_pos this]
  constructor
  · rintro ⟨e,he,hb,h⟩
    exact ⟨e,he,hb,by rwa [e1 e he hb] at h⟩
  · rintro ⟨e,he,hb,h⟩
    exact ⟨e,he,hb,by rwa [e1 e he hb]⟩
theorem bf_some {i j : Nat} (h : Bf ops.toList i j = true) : ∃ o,ops[i]? = some o := by
  cases ho : ops[i]? with
  | some o => exact ⟨o,rfl⟩
  | none =>
    unfold Bf at h
    have : ops.size ≤ i := Array.getElem?_eq_none_iff.1 ho
    rw [List.getD_eq_getElem?_getD,List.getElem?_eq_none (by rw [befores_length]; simpa using this)] at h
    simp at h
theorem bf_lt (hD : Drawn ops) : ∀ {i j : Nat},Bf ops.toList i j = true → j < i := by
  intro i
  induction i using Nat.strongRecOn with
  | _ i ih =>
    intro j h
    obtain ⟨o,ho⟩ := bf_some h
    obtain ⟨e,he,hb,h⟩ := (bf_iff hD ho j).1 h
    have hlt := hD.back i o ho e he hb
    rcases h with rfl | h
    · exact hlt
    · exact Nat.lt_trans (ih _ hlt h) hlt

abbrev In (S : Array Bool) (j : Nat) : Prop := S.getD j false = true
def Closed (ops : Array Oper) (S : Array Bool) : Prop := ∀ (i : Nat) o,ops[i]? = some o → In S i → ∀ e ∈ o.after.toList,Region.binds .any e = true → In S e.on

theorem closed_bf (hD : Drawn ops) {S : Array Bool} (hc : Closed ops S) : ∀ {i j : Nat},In S i → Bf ops.toList i j = true → In S j := by
  intro i
  induction i using Nat.strongRecOn with
  | _ i ih =>
    intro j hi h
    obtain ⟨o,ho⟩ := bf_some h
    obtain ⟨e,he,hb,h⟩ := (bf_iff hD ho j).1 h
    have hin := hc i o ho hi e he hb
    rcases h with rfl | h
    · exact hin
    · exact ih _ (hD.back i o ho e he hb) hin h

structure Ready (ops : Array Oper) (S : Array Bool) (i : Nat) (o : Oper) : Prop where
  at_ : ops[i]? = some o
  lt : i < ops.size
  out : ¬ In S i
  edges : ∀ e ∈ o.after.toList,Region.binds .any e = true → In S e.on
theorem ready_of {S : Array Bool} (hS : S.size = ops.size) {i : Nat} (h : i ∈ Region.ready .any ops S) : ∃ o,Ready ops S i o := by
  unfold Region.ready at h
  rw [List.mem_filter,List.mem_range] at h
  obtain ⟨hlt,h⟩ := h
  have ho : ops[i]? = some ops[i] := Array.getElem?_eq_getElem hlt
  rw [ho] at h
  simp only [Option.map_some,Option.getD_some,Bool.and_eq_true,Bool.not_eq_true',Array.all_eq_true_iff_forall_mem,Bool.or_eq_true] at h
  refine ⟨ops[i],ho,hlt,fun hin => ?_,fun e he hb => ?_⟩
  · have h1 := h.1
    unfold In at hin
    rw [Array.getD_eq_getD_getElem?,Array.getElem?_eq_getElem (by omega)] at h1 hin
    simp at h1 hin
    rw [h1] at hin
    cases hin
  · have := h.2 e (by simpa using he)
    rcases this with this | this
    · rw [hb] at this; cases this
    · exact this
theorem ready_nil (hD : Drawn ops) {S : Array Bool} (hS : S.size = ops.size) (h : Region.ready .any ops S = []) : ∀ i,i < ops.size → In S i := by
  intro i
  induction i using Nat.strongRecOn with
  | _ i ih =>
    intro hi
    by_cases hin : In S i
    · exact hin
    · exfalso
      have ho : ops[i]? = some ops[i] := Array.getElem?_eq_getElem hi
      have : i ∈ Region.ready .any ops S := by
        unfold Region.ready
        rw [List.mem_filter,List.mem_range]
        refine ⟨hi,?_⟩
        rw [ho]
        simp only [Option.map_some,Option.getD_some,Bool.and_eq_true,Bool.not_eq_true',Array.all_eq_true_iff_forall_mem,Bool.or_eq_true]
        refine ⟨?_,fun e he => ?_⟩
        · unfold In at hin
          rw [Array.getD_eq_getD_getElem?,Array.getElem?_eq_getElem (by omega)] at hin ⊢
          simpa using hin
        · by_cases hb : Region.binds .any e = true
          · right
            have hlt := hD.back i _ ho e (by simpa using he) hb
            exact ih _ hlt (by omega)
          · left; simpa using hb
      rw [h] at this
      cases this

theorem Ready.before (hD : Drawn ops) {S : Array Bool} (hc : Closed ops S) {i : Nat} {o : Oper} (hr : Ready ops S i o) {j : Nat} (h : Bf ops.toList i j = true ∨ Bf ops.toList j i = true) :
    (j < i ↔ In S j) ∧ j ≠ i := by
  have key : Bf ops.toList i j = true → In S j := fun h => by
    obtain ⟨e,he,hb,h⟩ := (bf_iff hD hr.at_ j).1 h
    rcases h with rfl | h
    · exact hr.edges e he hb
    · exact closed_bf hD hc (hr.edges e he hb) h
  rcases h with h | h
  · have := bf_lt hD h
    exact ⟨⟨fun _ => key h,fun _ => this⟩,by omega⟩
  · have := bf_lt hD h
    exact ⟨⟨fun h' => by omega,fun hin => absurd (closed_bf hD hc hin h) hr.out⟩,by omega⟩
theorem in_set {S : Array Bool} {i j : Nat} (hi : i < S.size) : In (S.setIfInBounds i true) j ↔ In S j ∨ j = i := by
  unfold In
  rw [Array.getD_eq_getD_getElem?,Array.getD_eq_getD_getElem?,Array.getElem?_setIfInBounds]
  by_cases e : i = j
  · subst e; simp [hi]
  · simp [e,Ne.symm e]
theorem Ready.closed {S : Array Bool} (hS : S.size = ops.size) (hc : Closed ops S) {i : Nat} {o : Oper} (hr : Ready ops S i o) : Closed ops (S.setIfInBounds i true) := by
  have hi : i < S.size := by rw [hS]; exact hr.lt
  intro j u hu hj e he hb
  rw [in_set hi] at hj ⊢
  rcases hj with hj | rfl
  · exact .inl (hc j u hu hj e he hb)
  · have := hr.at_; rw [hu] at this; cases this
    exact .inl (hr.edges e he hb)
end
end Go.L1
