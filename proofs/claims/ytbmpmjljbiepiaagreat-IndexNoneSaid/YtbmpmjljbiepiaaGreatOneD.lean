/- Texts of a proof: no condition. -/
import Derived.Test.YtbmpmjljbiepiaaGreatOneC
set_option autoImplicit true
set_option relaxedAutoImplicit true
set_option linter.all false
set_option linter.unusedVariables false
set_option linter.unusedSimpArgs false
/-! L1, fourth part: each operation that at most reads. -/
namespace Go.L1
open Go

section
variable {p : Pg} {P : Program} {φ : Emb} {w : World}

theorem stringToList (s : ByteArray) : s.toList = bl s := by rw [ByteArray.toList_eq]; rfl
theorem bytesLess_eq (a b : List UInt8) : bytesLess a b = Op.bytesLess a b := by
  induction a generalizing b with
  | nil => cases b <;> rfl
  | cons x a ih => cases b with
    | nil => rfl
    | cons y b => simp [bytesLess, Op.bytesLess, ih]

theorem binInt_sim {op : BinOp} {k : IntKind} {a b : Int} {v : Value} (h : binInt op k a b = some v) (t : TypeId) (w : World) (hs : op ≠ .shl) (hs' : op ≠ .shr) :
    (binOp op t (.int k a) (.int k b)).run P w = .ok v w ∧ VR φ v v := by
  cases op <;> simp only [binInt] at h
  all_goals first
    | contradiction
    | (cases h; exact ⟨by simp [binOp, Op.intArith, Op.intBits, Op.intCmp], by first | exact .int _ _ | exact .bool _⟩)
    | (split at h
       · cases h
       · cases h; refine ⟨?_, .int _ _⟩; simp [binOp, Op.intDiv, *])
theorem binStr_sim {op : BinOp} {a b : ByteArray} {v : Value} (h : binStr op a b = some v) (t : TypeId) (w : World) :
    (binOp op t (.string a) (.string b)).run P w = .ok v w ∧ VR φ v v := by
  cases op <;> simp only [binStr] at h
  all_goals first
    | contradiction
    | (cases h; exact ⟨by simp [binOp, Op.stringOp, stringToList, bytesLess_eq], .bool _⟩)
    | (split at h
       · rename_i hlt
         cases h
         refine ⟨?_, .string _⟩
         have : ¬ IntKind.i64.max < ((a.size + b.size : Nat) : Int) := by
           have : IntKind.i64.max = 9223372036854775807 := by decide
           omega
         simp only [binOp, Op.stringOp]
         rw [if_neg this]
         rfl
       · cases h)
def viaEq : Value → Value → Bool
  | .int .., .int .. | .string _, .string _ | .float .., .float .. | .complex .., .complex .. => false
  | .nilIface, _ | _, .nilIface => false
  | _, _ => true
theorem binOp_eql {a b : Value} (h : viaEq a b = true) (t : TypeId) : binOp .eql t a b = (do pure (.bool (← Op.equal t a b)) : Sem Value) := by
  cases a <;> cases b <;> first | rfl | (simp [viaEq] at h)
theorem binOp_neq {a b : Value} (h : viaEq a b = true) (t : TypeId) : binOp .neq t a b = (do pure (.bool (!(← Op.equal t a b))) : Sem Value) := by
  cases a <;> cases b <;> first | rfl | (simp [viaEq] at h)
theorem eqT_np {ty : Nat → Option TyI} {i : TyI} {a b : Value} {r : Bool} (h : eqT ty i a b = some r) : isPoison a = false ∧ isPoison b = false := by
  unfold eqT at h
  split at h
  · exact ⟨rfl, rfl⟩
  · exact ⟨rfl, rfl⟩
  · split at h
    · rename_i hc; exact ⟨descEq_np hc.1, descEq_np hc.2⟩
    · cases h
theorem VR.viaEq {a b a' b' : Value} (va : VR φ a a') (vb : VR φ b b') (h : L1.viaEq a b = true) : L1.viaEq a' b' = true := by
  cases va with
  | nilIface h1 => cases b <;> simp [L1.viaEq] at h
  | _ =>
    cases vb with
    | nilIface h2 => simp [L1.viaEq] at h
    | _ => simp_all [L1.viaEq]
theorem binV_sim (hF : Fits p P) {t : Nat} {i : TyI} (hi : p.ty t = some i) {op : BinOp} {a b a' b' v : Value} (h : binV p.ty i op a b = some v) (va : VP φ a a') (vb : VP φ b b') (x y : Operand) (w : World) :
    ∃ v', (eqGuard op t x y a' b').run P w = .ok () w ∧ (binOp op t a' b').run P w = .ok v' w ∧ VR φ v v' := by
  unfold binV at h
  split at h
  · rename_i k n k' m
    cases va.vr rfl
    cases vb.vr rfl
    have hg : (eqGuard op t x y (.int k n) (.int k' m)).run P w = .ok () w := run_eqGuard_plain op t x y rfl w
    split at h
    · split at h
      · cases h
      · rename_i hm
        cases h
        exact ⟨_, hg, by simp [binOp, Op.shift, hm], .int _ _⟩
    · split at h
      · cases h
      · rename_i hm
        cases h
        exact ⟨_, hg, by simp [binOp, Op.shift, hm], .int _ _⟩
    · rename_i hn1 hn2
      split at h
      · rename_i hk
        subst hk
        obtain ⟨h1, h2⟩ := binInt_sim (P := P) (φ := φ) h t w hn1 hn2
        exact ⟨_, hg, h1, h2⟩
      · cases h
  · rename_i s s'
    cases va.vr rfl
    cases vb.vr rfl
    obtain ⟨h1, h2⟩ := binStr_sim (P := P) (φ := φ) h t w
    exact ⟨_, run_eqGuard_plain op t x y rfl w, h1, h2⟩
  · rename_i hn1 hn2
    have hv : L1.viaEq a b = true := by
      have : ∀ r, eqT p.ty i a b = some r → L1.viaEq a b = true := by
        intro r hr
        have hne := eqT_np hr
        cases a <;> cases b <;> first | rfl | (exact (hn1 _ _ _ _ rfl rfl).elim) | (exact (hn2 _ _ rfl rfl).elim) | skip
        all_goals (unfold eqT at hr; generalize i.desc = D at hr; cases D <;> simp [descEq] at hr)
      split at h
      · obtain ⟨r, hr, _⟩ := Option.map_eq_some_iff.1 h; exact this r hr
      · obtain ⟨r, hr, _⟩ := Option.map_eq_some_iff.1 h; exact this r hr
      · cases h
    split at h
    · obtain ⟨r, hr, rfl⟩ := Option.map_eq_some_iff.1 h
      obtain ⟨n1, n2⟩ := eqT_np hr
      obtain ⟨h1, h2⟩ := eqT_sim hF hi hr va vb w x y .eql
      refine ⟨_, h1, ?_, .bool r⟩
      rw [binOp_eql ((va.vr n1).viaEq (vb.vr n2) hv)]
      simp [h2]
    · obtain ⟨r, hr, rfl⟩ := Option.map_eq_some_iff.1 h
      obtain ⟨n1, n2⟩ := eqT_np hr
      obtain ⟨h1, h2⟩ := eqT_sim hF hi hr va vb w x y .neq
      refine ⟨_, h1, ?_, .bool !r⟩
      rw [binOp_neq ((va.vr n1).viaEq (vb.vr n2) hv)]
      simp [h2]
    · cases h

theorem unV_sim {op : UnOp} {a a' v : Value} (h : unV op a = some v) (va : VP φ a a') (w : World) : ∃ v', (Op.unary op a').run P w = .ok v' w ∧ VR φ v v' := by
  unfold unV at h
  split at h <;> first | cases h | skip
  · cases va.vr rfl; exact ⟨_, by simp [Op.unary, Op.intArith], .int _ _⟩
  · cases va.vr rfl; exact ⟨_, by simp [Op.unary], .bool _⟩
  · cases va.vr rfl; exact ⟨_, by simp [Op.unary, Op.intBits], .int _ _⟩

theorem idxN_inv {v v' : Value} {n : Nat} (h : idxN v = some n) (hv : VP φ v v') : ∃ k m, v' = .int k m ∧ 0 ≤ m ∧ m.toNat = n := by
  unfold idxN at h
  split at h
  · split at h
    · cases h; cases hv.vr rfl; exact ⟨_, _, rfl, by assumption, rfl⟩
    · cases h
  · cases h
theorem sliceBound_sim {v v' : Value} {n y : Nat} (h : idxN v = some n) (hv : VP φ v v') (hy : n ≤ y) (code : BoundsCode) (w : World) : (Instr.sliceBound v' y code).run P w = .ok n w := by
  obtain ⟨k, m, rfl, h0, rfl⟩ := idxN_inv h hv
  have : 0 ≤ m ∧ m ≤ (y : Int) := ⟨h0, by omega⟩
  simp [Instr.sliceBound, asIntOf, this]
/-- the three bounds of a slice expression -/
theorem sliceBounds_sim {isSlice : Bool} {len cap hi lo : Nat} {low high low' high' : Option Value} (hl : optIdx 0 low = some lo) (hh : optIdx len high = some hi)
    (rl : ∀ v, low = some v → ∃ v', low' = some v' ∧ VP φ v v') (nl : low = none → low' = none) (rh : ∀ v, high = some v → ∃ v', high' = some v' ∧ VP φ v v') (nh : high = none → high' = none)
    (h1 : lo ≤ hi) (h2 : hi ≤ cap) (w : World) : (Instr.sliceBounds isSlice len cap low' high' none).run P w = .ok (lo, hi, cap) w := by
  have el : ∀ code, low = none ∧ low' = none ∧ lo = 0 ∨ ∃ v', low' = some v' ∧ (Instr.sliceBound v' hi code).run P w = .ok lo w := by
    intro code
    cases low with
    | none => simp [optIdx] at hl; exact .inl ⟨rfl, nl rfl, hl.symm⟩
    | some v => obtain ⟨v', rfl, hv⟩ := rl v rfl; exact .inr ⟨v', rfl, sliceBound_sim hl hv h1 code w⟩
  have eh : ∀ code, high = none ∧ high' = none ∧ hi = len ∨ ∃ v', high' = some v' ∧ (Instr.sliceBound v' cap code).run P w = .ok hi w := by
    intro code
    cases high with
    | none => simp [optIdx] at hh; exact .inl ⟨rfl, nh rfl, hh.symm⟩
    | some v => obtain ⟨v', rfl, hv⟩ := rh v rfl; exact .inr ⟨v', rfl, sliceBound_sim hh hv h2 code w⟩
  unfold Instr.sliceBounds
  rcases eh (if isSlice = true then BoundsCode.sliceAcap else BoundsCode.sliceAlen) with ⟨_, rfl, rfl⟩ | ⟨hv', rfl, hr⟩ <;>
    rcases el BoundsCode.sliceB with ⟨_, rfl, rfl⟩ | ⟨lv', rfl, lr⟩ <;> simp_all
theorem sliceBounds3_sim {len cap hi lo mx : Nat} {low low' : Option Value} {high high' mxv mxv' : Value} (hl : optIdx 0 low = some lo) (hh : idxN high = some hi) (hm : idxN mxv = some mx)
    (rl : ∀ v, low = some v → ∃ v', low' = some v' ∧ VP φ v v') (nl : low = none → low' = none) (rh : VP φ high high') (rm : VP φ mxv mxv')
    (h1 : lo ≤ hi) (h2 : hi ≤ mx) (h3 : mx ≤ cap) (w : World) : (Instr.sliceBounds true len cap low' (some high') (some mxv')).run P w = .ok (lo, hi, mx) w := by
  unfold Instr.sliceBounds
  simp only [Sem.run_bind, if_true]
  rw [sliceBound_sim hm rm h3 _ w]
  simp only [Result.andThen_ok]
  rw [sliceBound_sim hh rh h2 _ w]
  simp only [Result.andThen_ok]
  cases low with
  | none => rw [nl rfl]; simp [optIdx] at hl; subst hl; rfl
  | some v =>
    obtain ⟨v', rfl, hv⟩ := rl v rfl
    simp only [Option.isSome_some, if_true]
    rw [Sem.run_bind, sliceBound_sim hl hv h1 _ w]
    rfl

def OptRel (φ : Emb) (x x' : Option Value) : Prop := (∀ v, x = some v → ∃ v', x' = some v' ∧ VP φ v v') ∧ (x = none → x' = none)
theorem roomOf_le {C : Cont} {e b o n c c' room : Nat} {i : TyI} {bi : BI} (hF : Fits p P) (hi : p.ty e = some i) (h : roomOf C e i.size b o n c = some room) (hb : c = uc → ∃ ob, C b = some ob ∧ BlockRel p φ bi w ob)
    (hn : n ≤ c') (hc : (c = uc ∧ bi.isz ≤ o + c' * bi.es ∧ (c' = 0 ∨ (bi.o + o + c' * bi.es ≤ bi.s ∧ c' < uc))) ∨ (c' = c ∧ c < uc)) : room ≤ c' ∧ (c = uc → bi.es = i.size) := by
  unfold roomOf at h
  split at h
  · rename_i hu
    rcases hc with ⟨_, hc, _⟩ | ⟨_, hc⟩
    · split at h
      · rename_i vs ty ro hC
        split at h
        · rename_i ht
          obtain ⟨rfl, hes⟩ := ht
          cases h
          obtain ⟨ob, hC', hr⟩ := hb hu
          rw [hC] at hC'
          cases hC'
          cases hr with
          | @cells _ _ _ _ _ _ j hj hes' hisz =>
            rw [hi] at hj
            cases hj
            refine ⟨?_, fun _ => hes'⟩
            rw [hisz, hes'] at hc
            refine Nat.max_le.2 ⟨hn, ?_⟩
            have hle : vs.length - o ≤ c' * i.size := by omega
            calc (vs.length - o) / i.size ≤ c' * i.size / i.size := Nat.div_le_div_right hle
              _ = c' := Nat.mul_div_cancel _ (by omega)
        · cases h
      · cases h
    · omega
  · rename_i hu
    cases h
    rcases hc with ⟨e, _⟩ | ⟨rfl, _⟩
    · exact absurd e hu
    · exact ⟨Nat.le_refl _, fun e => absurd e hu⟩

theorem rSlice_sim (hF : Fits p P) {C : Cont} {t e : Nat} {i ei : TyI} (ht : p.ty t = some i) (hD : i.desc = .slice e) (he : p.ty e = some ei) {a : Option Addr} {n c : Nat} {x' v : Value} {lo hi mx lo' hi' mx' : Option Value}
    (h : rSlice C e ei.size a n c lo hi mx = some v) (hx : VP φ (.slice a n c) x') (rl : OptRel φ lo lo') (rh : OptRel φ hi hi') (rm : OptRel φ mx mx')
    (hR : ∀ ad bi, a = some ad → φ ad.block = some bi → ∃ ob, C ad.block = some ob ∧ BlockRel p φ bi w ob) :
    ∃ v', (Instr.sliceAt t x' lo' hi' mx').run P w = .ok v' w ∧ VR φ v v' := by
  have hu : P.underlying t = some (.slice e) := by rw [(hF.ty _ _ ht).und, hD]
  have hsz := run_size (hF.ty _ _ he) w
  have red : ∀ q : Option Addr × Nat × Nat, x' = .slice q.1 q.2.1 q.2.2 → (Instr.sliceAt t x' lo' hi' mx').run P w = (do
      let (l, h, m) ← Instr.sliceBounds true q.2.1 q.2.2 lo' hi' mx'
      let size ← sizeOf e
      pure (.slice (if m = l then q.1 else q.1.map (·.add (l * size))) (h - l) (m - l)) : Sem Value).run P w := by
    rintro ⟨q1, q2, q3⟩ rfl
    simp only [Instr.sliceAt, Instr.slice, Sem.run_bind, run_underlying hu, Result.andThen_ok]
  unfold rSlice at h
  split at h
  · rename_i h2 l2 hh hl
    split at h
    · split at h
      · rename_i hm
        split at h
        · rename_i hc
          obtain ⟨rfl, rfl, rfl, rfl, hmx⟩ := hc
          cases h
          cases hx.vr rfl
          rw [red (none, 0, 0) rfl]
          refine ⟨.slice none 0 0, ?_, .nilslice⟩
          cases mx with
          | none =>
            rw [rm.2 rfl]
            simp only [Sem.run_bind]
            rw [sliceBounds_sim hl hh rl.1 rl.2 rh.1 rh.2 (Nat.le_refl _) (Nat.le_refl _) w]
            simp [hsz]
          | some mv =>
            obtain ⟨mv', rfl, hmv⟩ := rm.1 mv rfl
            simp only [Option.isNone_some, Bool.false_or] at hmx
            obtain ⟨hv, rfl⟩ := Option.isSome_iff_exists.1 hmx
            obtain ⟨hv', rfl, hhv⟩ := rh.1 hv rfl
            simp only [Sem.run_bind]
            rw [sliceBounds3_sim hl hh hm rl.1 rl.2 hhv hmv (Nat.le_refl _) (Nat.le_refl _) (Nat.le_refl _) w]
            simp [hsz]
        · cases h
      · cases h
    · rename_i b o
      split at h
      · cases h
      · rename_i room hroom
        cases hx.vr rfl with
        | @slice _ _ _ _ c' bi a' hb hn ha hc =>
          obtain ⟨hle, hes⟩ := roomOf_le hF he hroom (fun _ => hR _ bi rfl hb) hn hc
          rw [red (some a', n, c') rfl]
          split at h
          · split at h
            · rename_i hlh
              cases h
              rw [rm.2 rfl]
              simp only [Sem.run_bind]
              rw [sliceBounds_sim hl hh rl.1 rl.2 rh.1 rh.2 hlh.1 (Nat.le_trans hlh.2 hle) w]
              simp only [Result.andThen_ok, hsz, Sem.run_pure, Option.map_some, ← apply_ite some]
              refine ⟨_, rfl, .slice hb (by omega) ?_ ?_⟩
              · by_cases e1 : c' = l2
                · left; omega
                · right
                  rw [if_neg e1]
                  rcases ha with ha | ha
                  · omega
                  · rw [ha, addr_add, Nat.add_assoc]
              · rcases hc with ⟨rfl, hc1, hc2⟩ | ⟨rfl, hc1⟩
                · left
                  have hes' := hes rfl
                  have hm : l2 * ei.size + (c' - l2) * bi.es = c' * bi.es := by rw [hes', ← Nat.add_mul]; congr 1; omega
                  refine ⟨by simp, by omega, ?_⟩
                  rcases hc2 with hc2 | hc2
                  · left; omega
                  · right; omega
                · right
                  rw [if_neg (by omega)]
                  exact ⟨rfl, by omega⟩
            · cases h
          · rename_i mv
            obtain ⟨mv', rfl, hmv⟩ := rm.1 mv rfl
            split at h
            · rename_i m hv hm
              split at h
              · rename_i hlh
                cases h
                obtain ⟨hv', rfl, hhv⟩ := rh.1 hv rfl
                simp only [Sem.run_bind]
                rw [sliceBounds3_sim hl hh hm rl.1 rl.2 hhv hmv hlh.1 hlh.2.1 (Nat.le_trans hlh.2.2.1 hle) w]
                simp only [Result.andThen_ok, hsz, Sem.run_pure, Option.map_some, ← apply_ite some]
                refine ⟨_, rfl, .slice hb (by omega) ?_ (.inr ⟨rfl, by omega⟩)⟩
                by_cases e1 : m = l2
                · left; omega
                · right
                  rw [if_neg e1]
                  rcases ha with ha | ha
                  · omega
                  · rw [ha, addr_add, Nat.add_assoc]
              · cases h
            · cases h
    · cases h
  · cases h
end
end Go.L1
