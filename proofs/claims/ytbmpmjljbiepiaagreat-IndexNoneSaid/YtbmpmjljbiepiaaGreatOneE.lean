/- Texts of a proof: no condition. -/
import Derived.Test.YtbmpmjljbiepiaaGreatOneD
set_option autoImplicit true
set_option relaxedAutoImplicit true
set_option linter.all false
set_option linter.unusedVariables false
set_option linter.unusedSimpArgs false
/-! L1, fifth part: whatever at most reads, all together. -/
namespace Go.L1
open Go

section
variable {p : Pg} {P : Program} {φ : Emb} {w : World}

theorem rFld_sim {off : Nat} {x x' v : Value} (h : rFld off x = some v) (hx : VP φ x x') : ∃ a', x' = .pointer (some a') ∧ VR φ v (.pointer (some (a'.add off))) := by
  unfold rFld at h
  split at h
  · cases h
    cases hx.vr rfl with
    | ptr hb => exact ⟨_, rfl, by rw [addr_add, Nat.add_assoc]; exact .ptr hb⟩
  · cases h
theorem rPart_sim (hF : Fits p P) {t : Nat} {i : TyI} (ht : p.ty t = some i) {off : Nat} {x x' v : Value} (h : rPart i off x = some v) (hx : VP φ x x') (w : World) :
    ∃ cs v', x' = .agg cs ∧ (part t cs off).run P w = .ok v' w ∧ VR φ v v' := by
  unfold rPart at h
  split at h
  · rename_i cs
    cases hx.vr rfl with
    | @agg _ cs' la h1 =>
      simp only [part, Sem.run_bind, run_isAgg (hF.ty _ _ ht), run_size (hF.ty _ _ ht), Result.andThen_ok]
      split at h
      · rename_i hagg
        split at h
        · rename_i hle
          cases h
          refine ⟨_, .agg (cs'.extract off (off + i.size)), rfl, by simp [hagg, run_size (hF.ty _ _ ht)], ?_⟩
          have hv : VL φ ((cs.toList.drop off).take i.size) ((cs'.toList.drop off).take i.size) := (VL.drop off ⟨la, h1⟩).take _
          have e : (cs'.extract off (off + i.size)).toList = (cs'.toList.drop off).take i.size := by simp [Array.toList_extract]
          refine .agg ?_ ?_
          · rw [e]; simpa using hv.1
          · intro j y z hy hz
            rw [e] at hz
            exact hv.2 j y z (by simpa using hy) hz
        · cases h
      · rename_i hagg
        have hf : isAggD i.desc = false := by simpa using hagg
        obtain ⟨y, hy, hxy⟩ := (show VL φ cs.toList cs'.toList from ⟨la, h1⟩).get h
        refine ⟨_, y, rfl, ?_, hxy⟩
        simp only [hf, Bool.false_eq_true, if_false]
        rw [← Array.getElem?_toList, hy]
        rfl
  · cases h
theorem idx_sim {v v' : Value} {n : Nat} (h : idxN v = some n) (hv : VP φ v v') (w : World) : ∃ k m, (asIntOf v').run P w = .ok (k, m) w ∧ 0 ≤ m ∧ m.toNat = n := by
  obtain ⟨k, m, rfl, h0, h1⟩ := idxN_inv h hv
  exact ⟨k, m, rfl, h0, h1⟩
theorem toBytes_run (w : World) : ∀ {cs : List Value} {bs : List UInt8} {cs' : List Value}, toBytes cs = some bs → VL φ cs cs' → ∀ (acc : ByteArray),
    (forIn cs' acc (fun c r => do
      match c with
      | .int .u8 n => pure (ForInStep.yield (r.push (UInt8.ofNat n.toNat)))
      | _ => do
        stuck "bytesToString: byte expected"
        pure (ForInStep.yield r)) : Sem ByteArray).run P w = .ok ⟨acc.data ++ bs.toArray⟩ w
  | [], bs, cs', h, hv, acc => by
    cases h
    rw [hv.nil_inv]
    simp
  | c :: cs, bs, cs', h, hv, acc => by
    obtain ⟨c', r', rfl, hc, hr⟩ := hv.cons_inv
    unfold toBytes at h
    split at h
    · rename_i he; cases he
    · rename_i n r he
      cases he
      obtain ⟨bs', hb, rfl⟩ := Option.map_eq_some_iff.1 h
      cases hc
      simp only [List.forIn_cons, Sem.run_bind, Sem.run_pure, Result.andThen_ok]
      rw [toBytes_run w hb hr]
      simp [ByteArray.push]
    · cases h
theorem foldMM_sim {mx : Bool} : ∀ {l l' : List Value} {x x' v : Value}, foldMM mx x l = some v → VP φ x x' → l.length = l'.length → (∀ (i : Nat) (a b : Value), l[i]? = some a → l'[i]? = some b → VP φ a b) →
    ∀ w : World, ∃ v', ((l'.foldlM (if mx then Builtin.max2 else Builtin.min2) x' : Sem Value)).run P w = .ok v' w ∧ VR φ v v'
  | [], l', x, x', v, h, hx, hl, _, w => by
    cases l' with
    | nil =>
      simp only [foldMM] at h
      split at h
      · cases h; cases hx.vr rfl; exact ⟨_, rfl, .int _ _⟩
      · cases h
    | cons _ _ => simp at hl
  | y :: l, l', x, x', v, h, hx, hl, hr, w => by
    cases l' with
    | nil => simp at hl
    | cons y' l' =>
      simp only [foldMM] at h
      obtain ⟨z, hz, hf⟩ := Option.bind_eq_some_iff.1 h
      have hy := hr 0 y y' rfl rfl
      unfold minmax at hz
      split at hz
      · rename_i k a k' b
        split at hz
        · cases hz
          cases hx.vr rfl
          cases hy.vr rfl
          simp only [List.foldlM_cons, Sem.run_bind]
          have e : ((if mx then Builtin.max2 else Builtin.min2) (Value.int k a) (Value.int k' b)).run P w = .ok (.int k (if mx then (if b > a then b else a) else (if b < a then b else a))) w := by
            cases mx <;> simp [Builtin.max2, Builtin.min2]
          rw [e]
          exact foldMM_sim hf (VR.int _ _).vp (by simpa using hl) (fun i a b ha hb => hr (i + 1) a b (by simpa using ha) (by simpa using hb)) w
        · cases hz
      · cases hz

theorem rConv_sim (hF : Fits p P) {C : Cont} {st dt : Nat} {si di : TyI} (hs : p.ty st = some si) (hd : p.ty dt = some di) {x x' v : Value} (h : rConv C p.ty si di x = some v) (hx : VP φ x x')
    (hR : ∀ ad n c bi, x = .slice (some ad) n c → φ ad.block = some bi → ∃ ob, C ad.block = some ob ∧ BlockRel p φ bi w ob) :
    ∃ v', (convert st dt x').run P w = .ok v' w ∧ VR φ v v' := by
  have us := (hF.ty _ _ hs).und
  have ud' := (hF.ty _ _ hd).und
  unfold rConv at h
  split at h
  · rename_i k k' n hD
    cases h
    cases hx.vr rfl
    refine ⟨_, ?_, .int _ _⟩
    simp only [convert, Sem.run_bind, run_underlying us, run_underlying ud', hD, Result.andThen_ok]
    cases si.desc <;> rfl
  · rename_i s hD
    cases h
    cases hx.vr rfl
    refine ⟨_, ?_, .string _⟩
    simp only [convert, Sem.run_bind, run_underlying us, run_underlying ud', hD, Result.andThen_ok]
    cases si.desc <;> rfl
  · rename_i a n c hD
    split at h
    · rename_i e hE
      split at h
      · rename_i ei hei
        split at h
        · rename_i hu8
          have ue : P.underlying e = some (.int .u8) := by rw [(hF.ty _ _ hei).und, hu8]
          split at h
          · cases h
            cases hx.vr rfl
            refine ⟨_, ?_, .string _⟩
            simp only [convert, Sem.run_bind, run_underlying us, run_underlying ud', hD, hE, Result.andThen_ok, run_underlying ue]
            rfl
          · rename_i ad
            obtain ⟨bs, hbs, rfl⟩ := Option.map_eq_some_iff.1 h
            obtain ⟨cs, hcs, htb⟩ := Option.bind_eq_some_iff.1 hbs
            have hv := hx.vr rfl
            cases hv with
            | @slice b off _ _ c' bi a' hb hn ha hc =>
              have hrun : ∃ cs', VL φ cs cs' ∧ (loadCells a' n).run P w = .ok cs'.toArray w := by
                unfold sliceCells at hcs
                split at hcs
                · rename_i h0
                  cases hcs
                  subst h0
                  exact ⟨[], VL.nil φ, rfl⟩
                · rename_i h0
                  simp only at hcs
                  rw [Nat.mul_one] at hcs
                  obtain ⟨cs', h1, h2, h3, h4, _⟩ := loadCells_sim (P := P) hcs (hR _ _ _ bi rfl hb)
                  rcases ha with ha | ha
                  · omega
                  · exact ⟨cs', h1, by rw [ha]; exact h4⟩
              obtain ⟨cs', hcv, hl⟩ := hrun
              refine ⟨_, ?_, .string _⟩
              simp only [convert, Sem.run_bind, run_underlying us, run_underlying ud', hD, hE, Result.andThen_ok, run_underlying ue]
              simp only [Conv.bytesToString, Sem.run_bind, hl, Result.andThen_ok]
              have := toBytes_run (P := P) w htb hcv .empty
              have e2 : (⟨(ByteArray.empty).data ++ bs.toArray⟩ : ByteArray) = ⟨bs.toArray⟩ := by
                show (⟨#[] ++ bs.toArray⟩ : ByteArray) = _
                simp
              rw [e2] at this
              simp only [List.forIn_toArray]
              exact congrArg (fun r => Result.andThen r fun a w' => Result.ok (Value.string a) w') this
        · cases h
      · cases h
    · cases h
  · cases h

theorem sameNow_str (a b : ByteArray) : Instr.sameNow .string (.string a) (.string b) = some (bl a == bl b) := by
  simp [Instr.sameNow, bl_beq]
theorem findNow_sim {k : ByteArray} : ∀ {es : List (Value × Value)} {es' : List MapEntry} {r : Option Value} (j : Nat), lookK k es = some r → es.length = es'.length →
    (∀ (i : Nat) (k v : Value) (e : MapEntry), es[i]? = some (k, v) → es'[i]? = some e → (∃ s, k = .string s ∧ e.key = .string s) ∧ VR φ v e.val ∧ isCell v = true) →
    ∃ r', Instr.findNow .string (.string k) es' j = some r' ∧ (match r with | none => r' = none | some v => ∃ i v', r' = some (i, v') ∧ VR φ v v' ∧ isCell v = true)
  | [], es', r, j, h, hl, _ => by
    cases h
    cases es' with
    | nil => exact ⟨none, rfl, rfl⟩
    | cons _ _ => simp at hl
  | (k', v) :: es, es', r, j, h, hl, he => by
    cases es' with
    | nil => simp at hl
    | cons e es' =>
      obtain ⟨⟨s, rfl, hs⟩, hv, hc⟩ := he 0 k' v e rfl rfl
      simp only [lookK] at h
      simp only [Instr.findNow, hs, sameNow_str]
      split at h
      · rename_i heq
        cases h
        rw [heq]
        exact ⟨_, rfl, j, _, rfl, hv, hc⟩
      · rename_i heq
        have : (bl k == bl s) = false := by simpa using heq
        rw [this]
        exact findNow_sim (j + 1) h (by simpa using hl) (fun i k v e h1 h2 => he (i + 1) k v e (by simpa using h1) (by simpa using h2))
theorem zeroV_sim (hF : Fits p P) {t : Nat} {i : TyI} (ht : p.ty t = some i) {z : Value} (h : zeroV i = some z) (w : World) : ∃ z', (zeroValue t).run P w = .ok z' w ∧ VR φ z z' := by
  obtain ⟨z', h1, h2, h3, h4⟩ := run_zero (hF.ty _ _ ht) w
  refine ⟨z', h1, ?_⟩
  have hv := VR.pure φ h3
  unfold zeroV at h
  rcases cellsOf_one h2 with ⟨a, rfl, ha, _⟩ | ⟨hc, ha⟩
  · split at h
    · cases h
      rw [ha]
      simpa using hv
    · rename_i hn
      rw [← h4] at hn
      exact absurd rfl hn
  · split at h
    · rename_i hn
      rw [← h4] at hn
      cases z' <;> simp_all [isAggV, isCell]
    · rw [ha] at h
      simp only at h
      cases h
      exact hv

theorem checkKey_str {kt : TypeId} (hk : P.underlying kt = some .string) (e : Bool) (s : ByteArray) (w : World) : (Instr.checkKey e 10000 kt (.string s)).run P w = .ok () w := by
  rw [show (10000 : Nat) = 9999 + 1 from rfl, Instr.checkKey]
  simp [run_underlying hk]
theorem rLook_sim (hF : Fits p P) {C : Cont} {t kt e : Nat} {i ki ei : TyI} (ht : p.ty t = some i) (hD : i.desc = .map kt e) (hk : p.ty kt = some ki) (hks : ki.desc = .string) (he : p.ty e = some ei) {z x x' k k' v : Value} {ok : Bool}
    (hz : zeroV ei = some z) (h : rLook C z x k ok = some v) (hx : VP φ x x') (hkv : VP φ k k') (hR : ∀ b bi, x = .map (some b) → φ b = some bi → ∃ ob, C b = some ob ∧ BlockRel p φ bi w ob) :
    ∃ v', (Instr.lookup t x' k' ok).run P w = .ok v' w ∧ VR φ v v' := by
  have hu : P.underlying t = some (.map kt e) := by rw [(hF.ty _ _ ht).und, hD]
  have huk : P.underlying kt = some .string := by rw [(hF.ty _ _ hk).und, hks]
  obtain ⟨z', hz', vz⟩ := zeroV_sim (φ := φ) hF he hz w
  unfold rLook at h
  split at h
  · rename_i s
    cases hkv.vr rfl
    have main : ∀ {es : List (Value × Value)} {es' : Array MapEntry}, es.length = es'.toList.length →
        (∀ (i : Nat) (k v : Value) (e : MapEntry), es[i]? = some (k, v) → es'.toList[i]? = some e → (∃ s, k = .string s ∧ e.key = .string s) ∧ VR φ v e.val ∧ isCell v = true) →
        lookRes z ok (lookK s es) = some v →
        (∃ i0 v', (Instr.findKey kt (.string s) es'.toList).run P w = .ok (some (i0, v')) w ∧ VR φ v (bif ok then .tuple #[v', .bool true] else v')) ∨
        ((Instr.findKey kt (.string s) es'.toList).run P w = .ok none w ∧ VR φ v (bif ok then .tuple #[z', .bool false] else z')) := by
      intro es es' hl hes hm
      unfold lookRes at hm
      split at hm
      · cases hm
      · rename_i v0 hlk
        cases hm
        obtain ⟨r', hr', i0, v', rfl, hv, hc⟩ := findNow_sim 0 hlk hl hes
        refine .inl ⟨i0, v', ?_, ?_⟩
        · simp only [Instr.findKey, Sem.run_bind, run_underlying huk, Result.andThen_ok, hr']
          rfl
        · cases ok with
          | false => exact hv
          | true => exact hv.tuple2 (.bool true)
      · rename_i hlk
        cases hm
        obtain ⟨r', hr', rfl⟩ := findNow_sim (φ := φ) 0 hlk hl hes
        refine .inr ⟨?_, ?_⟩
        · simp only [Instr.findKey, Sem.run_bind, run_underlying huk, Result.andThen_ok, hr']
          rfl
        · cases ok with
          | false => exact vz
          | true => exact vz.tuple2 (.bool false)
    have fin : ∀ {es' : Array MapEntry}, ((x' = .map none ∧ es' = #[]) ∨ ∃ r clock, x' = .map (some r) ∧ (getObj r).run P w = .ok (.map es' clock) w) →
        ((∃ i0 v', (Instr.findKey kt (.string s) es'.toList).run P w = .ok (some (i0, v')) w ∧ VR φ v (bif ok then .tuple #[v', .bool true] else v')) ∨
        ((Instr.findKey kt (.string s) es'.toList).run P w = .ok none w ∧ VR φ v (bif ok then .tuple #[z', .bool false] else z'))) →
        ∃ v', (Instr.lookup t x' (.string s) ok).run P w = .ok v' w ∧ VR φ v v' := by
      intro es' hes hf
      rcases hes with ⟨rfl, rfl⟩ | ⟨r, clock, rfl, hg⟩
      · rcases hf with ⟨i0, v', hf, hv⟩ | ⟨hf, hv⟩
        · refine ⟨_, ?_, hv⟩
          simp only [Instr.lookup, Sem.run_bind, run_underlying hu, Sem.run_pure, Result.andThen_ok, checkKey_str huk, hf]
          cases ok <;> rfl
        · refine ⟨_, ?_, hv⟩
          simp only [Instr.lookup, Sem.run_bind, run_underlying hu, Sem.run_pure, Result.andThen_ok, checkKey_str huk, hf, hz']
          cases ok <;> rfl
      · rcases hf with ⟨i0, v', hf, hv⟩ | ⟨hf, hv⟩
        · refine ⟨_, ?_, hv⟩
          simp only [Instr.lookup, Sem.run_bind, run_underlying hu, Sem.run_pure, Result.andThen_ok, hg, checkKey_str huk, hf]
          cases ok <;> rfl
        · refine ⟨_, ?_, hv⟩
          simp only [Instr.lookup, Sem.run_bind, run_underlying hu, Sem.run_pure, Result.andThen_ok, hg, checkKey_str huk, hf, hz']
          cases ok <;> rfl
    split at h
    · cases h
    · rename_i es hes
      split at hes
      · cases hes
        cases hx.vr rfl
        exact fin (es' := #[]) (.inl ⟨rfl, rfl⟩) (main (es' := #[]) rfl (by simp) h)
      · rename_i b
        split at hes
        · rename_i es0 hC
          cases hes
          cases hx.vr rfl with
          | @map _ bi hb =>
            obtain ⟨ob, hC', hr⟩ := hR b bi rfl hb
            rw [hC] at hC'
            cases hC'
            cases hr with
            | @map _ es' clock hw hl hk =>
              have hg : (getObj bi.r).run P w = .ok (.map es' clock) w := by simp [getObj, Sem.run, hw]
              exact fin (es' := es') (.inr ⟨_, _, rfl, hg⟩) (main hl hk h)
        · cases hes
      · cases hes
  · cases h
end
end Go.L1
