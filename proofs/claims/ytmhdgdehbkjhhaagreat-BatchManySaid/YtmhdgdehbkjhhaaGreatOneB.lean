/- Texts of a proof: no condition. -/
import Derived.Test.YtmhdgdehbkjhhaaGreatOneA
import Derived.IntWalk
import Derived.Laws.Append
set_option autoImplicit true
set_option relaxedAutoImplicit true
set_option linter.all false
set_option linter.unusedVariables false
set_option linter.unusedSimpArgs false
namespace Go.L1
open Go

section
variable {p : Pg} {P : Program} {φ : Emb} {w : World}

theorem stringToList (s : ByteArray) : s.toList = bl s := by rw [ByteArray.toList_eq]; rfl
theorem bytesLess_eq (a b : List UInt8) : bytesLess a b = Op.bytesLess a b := by
  induction a generalizing b with
  | nil => cases b <;> rfl
  | cons x a ih => cases b with
    | nil => rfl
    | cons y b => simp [bytesLess,Op.bytesLess,ih]

theorem binInt_sim {op : BinOp} {k : IntKind} {a b : Int} {v : Value} (h : binInt op k a b = some v) (t : TypeId) (w : World) (hs : op ≠ .shl) (hs' : op ≠ .shr) :
    (binOp op t (.int k a) (.int k b)).run P w = .ok v w ∧ VR φ v v := by
  cases op <;> simp only [binInt] at h
  all_goals first
    | contradiction
    | (cases h; exact ⟨by simp [binOp,Op.intArith,Op.intBits,Op.intCmp],by first | exact .int _ _ | exact .bool _⟩)
    | (split at h
       · cases h
       · cases h; refine ⟨?_,.int _ _⟩; simp [binOp,Op.intDiv, *])
theorem binStr_sim {op : BinOp} {a b : ByteArray} {v : Value} (h : binStr op a b = some v) (t : TypeId) (w : World) :
    (binOp op t (.string a) (.string b)).run P w = .ok v w ∧ VR φ v v := by
  cases op <;> simp only [binStr] at h
  all_goals first
    | contradiction
    | (cases h; exact ⟨by simp [binOp,Op.stringOp,stringToList,bytesLess_eq],.bool _⟩)
    | (split at h
       · rename_i hlt
         cases h
         refine ⟨?_,.string _⟩
         have : ¬ IntKind.i64.max < ((a.size + b.size : Nat) : Int) := by
           have : IntKind.i64.max = 9223372036854775807 := by decide
           omega
         simp only [binOp,Op.stringOp]
         rw [if_neg this]
         rfl
       · cases h)
def viaEq : Value → Value → Bool
  | .int ..,.int .. | .string _,.string _ | .float ..,.float .. | .complex ..,.complex .. => false
  | .nilIface,_ | _,.nilIface => false
  | _,_ => true
theorem binOp_eql {a b : Value} (h : viaEq a b = true) (t : TypeId) : binOp .eql t a b = (do pure (.bool (← Op.equal t a b)) : Sem Value) := by
  cases a <;> cases b <;> first | rfl | (simp [viaEq] at h)
theorem binOp_neq {a b : Value} (h : viaEq a b = true) (t : TypeId) : binOp .neq t a b = (do pure (.bool (!(← Op.equal t a b))) : Sem Value) := by
  cases a <;> cases b <;> first | rfl | (simp [viaEq] at h)
theorem eqT_np {ty : Nat → Option TyI} {i : TyI} {a b : Value} {r : Bool} (h : eqT ty i a b = some r) : isPoison a = false ∧ isPoison b = false := by
  unfold eqT at h
  split at h
  · exact ⟨rfl,rfl⟩
  · exact ⟨rfl,rfl⟩
  · split at h
    · rename_i hc; exact ⟨descEq_np hc.1,descEq_np hc.2⟩
    · cases h
theorem VR.viaEq {a b a' b' : Value} (va : VR φ a a') (vb : VR φ b b') (h : L1.viaEq a b = true) : L1.viaEq a' b' = true := by
  cases va with
  | nilIface h1 => cases b <;> simp [L1.viaEq] at h
  | _ =>
    cases vb with
    | nilIface h2 => simp [L1.viaEq] at h
    | _ => simp_all [L1.viaEq]
theorem binV_sim (hF : Fits p P) {t : Nat} {i : TyI} (hi : p.ty t = some i) {op : BinOp} {a b a' b' v : Value} (h : binV p.ty i op a b = some v) (va : VP φ a a') (vb : VP φ b b') (x y : Operand) (w : World) :
    ∃ v',(eqGuard op t x y a' b').run P w = .ok () w ∧ (binOp op t a' b').run P w = .ok v' w ∧ VR φ v v' := by
  unfold binV at h
  split at h
  · rename_i k n k' m
    cases va.vr rfl
    cases vb.vr rfl
    have hg : (eqGuard op t x y (.int k n) (.int k' m)).run P w = .ok () w := run_eqGuard_plain op t x y rfl w
    split at h
    · split at h
      · cases h
      · rename_i hm
        cases h
        exact ⟨_,hg,by simp [binOp,Op.shift,hm],.int _ _⟩
    · split at h
      · cases h
      · rename_i hm
        cases h
        exact ⟨_,hg,by simp [binOp,Op.shift,hm],.int _ _⟩
    · rename_i hn1 hn2
      split at h
      · rename_i hk
        subst hk
        obtain ⟨h1,h2⟩ := binInt_sim (P := P) (φ := φ) h t w hn1 hn2
        exact ⟨_,hg,h1,h2⟩
      · cases h
  · rename_i s s'
    cases va.vr rfl
    cases vb.vr rfl
    obtain ⟨h1,h2⟩ := binStr_sim (P := P) (φ := φ) h t w
    exact ⟨_,run_eqGuard_plain op t x y rfl w,h1,h2⟩
  · rename_i hn1 hn2
    have hv : L1.viaEq a b = true := by
      have : ∀ r,eqT p.ty i a b = some r → L1.viaEq a b = true := by
        intro r hr
        have hne := eqT_np hr
        cases a <;> cases b <;> first | rfl | (exact (hn1 _ _ _ _ rfl rfl).elim) | (exact (hn2 _ _ rfl rfl).elim) | skip
        all_goals (unfold eqT at hr; generalize i.desc = D at hr; cases D <;> simp [descEq] at hr)
      split at h
      · obtain ⟨r,hr,_⟩ := Option.map_eq_some_iff.1 h; exact this r hr
      · obtain ⟨r,hr,_⟩ := Option.map_eq_some_iff.1 h; exact this r hr
      · cases h
    split at h
    · obtain ⟨r,hr,rfl⟩ := Option.map_eq_some_iff.1 h
      obtain ⟨n1,n2⟩ := eqT_np hr
      obtain ⟨h1,h2⟩ := eqT_sim hF hi hr va vb w x y .eql
      refine ⟨_,h1,?_,.bool r⟩
      rw [binOp_eql ((va.vr n1).viaEq (vb.vr n2) hv)]
      simp [h2]
    · obtain ⟨r,hr,rfl⟩ := Option.map_eq_some_iff.1 h
      obtain ⟨n1,n2⟩ := eqT_np hr
      obtain ⟨h1,h2⟩ := eqT_sim hF hi hr va vb w x y .neq
      refine ⟨_,h1,?_,.bool !r⟩
      rw [binOp_neq ((va.vr n1).viaEq (vb.vr n2) hv)]
      simp [h2]
    · cases h

theorem unV_sim {op : UnOp} {a a' v : Value} (h : unV op a = some v) (va : VP φ a a') (w : World) : ∃ v',(Op.unary op a').run P w = .ok v' w ∧ VR φ v v' := by
  unfold unV at h
  split at h <;> first | cases h | skip
  · cases va.vr rfl; exact ⟨_,by simp [Op.unary,Op.intArith],.int _ _⟩
  · cases va.vr rfl; exact ⟨_,by simp [Op.unary],.bool _⟩
  · cases va.vr rfl; exact ⟨_,by simp [Op.unary,Op.intBits],.int _ _⟩

theorem idxN_inv {v v' : Value} {n : Nat} (h : idxN v = some n) (hv : VP φ v v') : ∃ k m,v' = .int k m ∧ 0 ≤ m ∧ m.toNat = n := by
  unfold idxN at h
  split at h
  · split at h
    · cases h; cases hv.vr rfl; exact ⟨_,_,rfl,by assumption,rfl⟩
    · cases h
  · cases h
theorem sliceBound_sim {v v' : Value} {n y : Nat} (h : idxN v = some n) (hv : VP φ v v') (hy : n ≤ y) (code : BoundsCode) (w : World) : (Instr.sliceBound v' y code).run P w = .ok n w := by
  obtain ⟨k,m,rfl,h0,rfl⟩ := idxN_inv h hv
  have : 0 ≤ m ∧ m ≤ (y : Int) := ⟨h0,by omega⟩
  simp [Instr.sliceBound,asIntOf,this]
theorem sliceBounds_sim {isSlice : Bool} {len cap hi lo : Nat} {low high low' high' : Option Value} (hl : optIdx 0 low = some lo) (hh : optIdx len high = some hi)
    (rl : ∀ v,low = some v → ∃ v',low' = some v' ∧ VP φ v v') (nl : low = none → low' = none) (rh : ∀ v,high = some v → ∃ v',high' = some v' ∧ VP φ v v') (nh : high = none → high' = none)
    (h1 : lo ≤ hi) (h2 : hi ≤ cap) (w : World) : (Instr.sliceBounds isSlice len cap low' high' none).run P w = .ok (lo,hi,cap) w := by
  have el : ∀ code,low = none ∧ low' = none ∧ lo = 0 ∨ ∃ v',low' = some v' ∧ (Instr.sliceBound v' hi code).run P w = .ok lo w := by
    intro code
    cases low with
    | none => simp [optIdx] at hl; exact .inl ⟨rfl,nl rfl,hl.symm⟩
    | some v => obtain ⟨v',rfl,hv⟩ := rl v rfl; exact .inr ⟨v',rfl,sliceBound_sim hl hv h1 code w⟩
  have eh : ∀ code,high = none ∧ high' = none ∧ hi = len ∨ ∃ v',high' = some v' ∧ (Instr.sliceBound v' cap code).run P w = .ok hi w := by
    intro code
    cases high with
    | none => simp [optIdx] at hh; exact .inl ⟨rfl,nh rfl,hh.symm⟩
    | some v => obtain ⟨v',rfl,hv⟩ := rh v rfl; exact .inr ⟨v',rfl,sliceBound_sim hh hv h2 code w⟩
  unfold Instr.sliceBounds
  rcases eh (if isSlice = true then BoundsCode.sliceAcap else BoundsCode.sliceAlen) with ⟨_,rfl,rfl⟩ | ⟨hv',rfl,hr⟩ <;>
    rcases el BoundsCode.sliceB with ⟨_,rfl,rfl⟩ | ⟨lv',rfl,lr⟩ <;> simp_all
theorem sliceBounds3_sim {len cap hi lo mx : Nat} {low low' : Option Value} {high high' mxv mxv' : Value} (hl : optIdx 0 low = some lo) (hh : idxN high = some hi) (hm : idxN mxv = some mx)
    (rl : ∀ v,low = some v → ∃ v',low' = some v' ∧ VP φ v v') (nl : low = none → low' = none) (rh : VP φ high high') (rm : VP φ mxv mxv')
    (h1 : lo ≤ hi) (h2 : hi ≤ mx) (h3 : mx ≤ cap) (w : World) : (Instr.sliceBounds true len cap low' (some high') (some mxv')).run P w = .ok (lo,hi,mx) w := by
  unfold Instr.sliceBounds
  simp only [Sem.run_bind,if_true]
  rw [sliceBound_sim hm rm h3 _ w]
  simp only [Result.andThen_ok]
  rw [sliceBound_sim hh rh h2 _ w]
  simp only [Result.andThen_ok]
  cases low with
  | none => rw [nl rfl]; simp [optIdx] at hl; subst hl; rfl
  | some v =>
    obtain ⟨v',rfl,hv⟩ := rl v rfl
    simp only [Option.isSome_some,if_true]
    rw [Sem.run_bind,sliceBound_sim hl hv h1 _ w]
    rfl

def OptRel (φ : Emb) (x x' : Option Value) : Prop := (∀ v,x = some v → ∃ v',x' = some v' ∧ VP φ v v') ∧ (x = none → x' = none)
theorem roomOf_le {C : Cont} {e b o n c c' room : Nat} {i : TyI} {bi : BI} (hF : Fits p P) (hi : p.ty e = some i) (h : roomOf C e i.size b o n c = some room) (hb : c = uc → ∃ ob,C b = some ob ∧ BlockRel p φ bi w ob)
    (hn : n ≤ c') (hc : (c = uc ∧ bi.isz ≤ o + c' * bi.es ∧ (c' = 0 ∨ (bi.o + o + c' * bi.es ≤ bi.s ∧ c' < uc))) ∨ (c' = c ∧ c < uc)) : room ≤ c' ∧ (c = uc → bi.es = i.size) := by
  unfold roomOf at h
  split at h
  · rename_i hu
    rcases hc with ⟨_,hc,_⟩ | ⟨_,hc⟩
    · split at h
      · rename_i vs ty ro hC
        split at h
        · rename_i ht
          obtain ⟨rfl,hes⟩ := ht
          cases h
          obtain ⟨ob,hC',hr⟩ := hb hu
          rw [hC] at hC'
          cases hC'
          cases hr with
          | @cells _ _ _ _ _ _ j hj hes' hisz =>
            rw [hi] at hj
            cases hj
            refine ⟨?_,fun _ => hes'⟩
            rw [hisz,hes'] at hc
            refine Nat.max_le.2 ⟨hn,?_⟩
            have hle : vs.length - o ≤ c' * i.size := by omega
            calc (vs.length - o) / i.size ≤ c' * i.size / i.size := Nat.div_le_div_right hle
              _ = c' := Nat.mul_div_cancel _ (by omega)
        · cases h
      · cases h
    · omega
  · rename_i hu
    cases h
    rcases hc with ⟨e,_⟩ | ⟨rfl,_⟩
    · exact absurd e hu
    · exact ⟨Nat.le_refl _,fun e => absurd e hu⟩

theorem rSlice_sim (hF : Fits p P) {C : Cont} {t e : Nat} {i ei : TyI} (ht : p.ty t = some i) (hD : i.desc = .slice e) (he : p.ty e = some ei) {a : Option Addr} {n c : Nat} {x' v : Value} {lo hi mx lo' hi' mx' : Option Value}
    (h : rSlice C e ei.size a n c lo hi mx = some v) (hx : VP φ (.slice a n c) x') (rl : OptRel φ lo lo') (rh : OptRel φ hi hi') (rm : OptRel φ mx mx')
    (hR : ∀ ad bi,a = some ad → φ ad.block = some bi → ∃ ob,C ad.block = some ob ∧ BlockRel p φ bi w ob) :
    ∃ v',(Instr.sliceAt t x' lo' hi' mx').run P w = .ok v' w ∧ VR φ v v' := by
  have hu : P.underlying t = some (.slice e) := by rw [(hF.ty _ _ ht).und,hD]
  have hsz := run_size (hF.ty _ _ he) w
  have red : ∀ q : Option Addr × Nat × Nat,x' = .slice q.1 q.2.1 q.2.2 → (Instr.sliceAt t x' lo' hi' mx').run P w = (do
      let (l,h,m) ← Instr.sliceBounds true q.2.1 q.2.2 lo' hi' mx'
      let size ← sizeOf e
      pure (.slice (if m = l then q.1 else q.1.map (·.add (l * size))) (h - l) (m - l)) : Sem Value).run P w := by
    rintro ⟨q1,q2,q3⟩ rfl
    simp only [Instr.sliceAt,Instr.slice,Sem.run_bind,run_underlying hu,Result.andThen_ok]
  unfold rSlice at h
  split at h
  · rename_i h2 l2 hh hl
    split at h
    · split at h
      · rename_i hm
        split at h
        · rename_i hc
          obtain ⟨rfl,rfl,rfl,rfl,hmx⟩ := hc
          cases h
          cases hx.vr rfl
          rw [red (none,0,0) rfl]
          refine ⟨.slice none 0 0,?_,.nilslice⟩
          cases mx with
          | none =>
            rw [rm.2 rfl]
            simp only [Sem.run_bind]
            rw [sliceBounds_sim hl hh rl.1 rl.2 rh.1 rh.2 (Nat.le_refl _) (Nat.le_refl _) w]
            simp [hsz]
          | some mv =>
            obtain ⟨mv',rfl,hmv⟩ := rm.1 mv rfl
            simp only [Option.isNone_some,Bool.false_or] at hmx
            obtain ⟨hv,rfl⟩ := Option.isSome_iff_exists.1 hmx
            obtain ⟨hv',rfl,hhv⟩ := rh.1 hv rfl
            simp only [Sem.run_bind]
            rw [sliceBounds3_sim hl hh hm rl.1 rl.2 hhv hmv (Nat.le_refl _) (Nat.le_refl _) (Nat.le_refl _) w]
            simp [hsz]
        · cases h
      · cases h
    · rename_i b o
      split at h
      · cases h
      · rename_i room hroom
        cases hx.vr rfl with
        | @slice _ _ _ _ c' bi a' hb hn ha hc =>
          obtain ⟨hle,hes⟩ := roomOf_le hF he hroom (fun _ => hR _ bi rfl hb) hn hc
          rw [red (some a',n,c') rfl]
          split at h
          · split at h
            · rename_i hlh
              cases h
              rw [rm.2 rfl]
              simp only [Sem.run_bind]
              rw [sliceBounds_sim hl hh rl.1 rl.2 rh.1 rh.2 hlh.1 (Nat.le_trans hlh.2 hle) w]
              simp only [Result.andThen_ok,hsz,Sem.run_pure,Option.map_some,← apply_ite some]
              refine ⟨_,rfl,.slice hb (by omega) ?_ ?_⟩
              · by_cases e1 : c' = l2
                · left; omega
                · right
                  rw [if_neg e1]
                  rcases ha with ha | ha
                  · omega
                  · rw [ha,addr_add,Nat.add_assoc]
              · rcases hc with ⟨rfl,hc1,hc2⟩ | ⟨rfl,hc1⟩
                · left
                  have hes' := hes rfl
                  have hm : l2 * ei.size + (c' - l2) * bi.es = c' * bi.es := by rw [hes',← Nat.add_mul]; congr 1; omega
                  refine ⟨by simp,by omega,?_⟩
                  rcases hc2 with hc2 | hc2
                  · left; omega
                  · right; omega
                · right
                  rw [if_neg (by omega)]
                  exact ⟨rfl,by omega⟩
            · cases h
          · rename_i mv
            obtain ⟨mv',rfl,hmv⟩ := rm.1 mv rfl
            split at h
            · rename_i m hv hm
              split at h
              · rename_i hlh
                cases h
                obtain ⟨hv',rfl,hhv⟩ := rh.1 hv rfl
                simp only [Sem.run_bind]
                rw [sliceBounds3_sim hl hh hm rl.1 rl.2 hhv hmv hlh.1 hlh.2.1 (Nat.le_trans hlh.2.2.1 hle) w]
                simp only [Result.andThen_ok,hsz,Sem.run_pure,Option.map_some,← apply_ite some]
                refine ⟨_,rfl,.slice hb (by omega) ?_ (.inr ⟨rfl,by omega⟩)⟩
                by_cases e1 : m = l2
                · left; omega
                · right
                  rw [if_neg e1]
                  rcases ha with ha | ha
                  · omega
                  · rw [ha,addr_add,Nat.add_assoc]
              · cases h
            · cases h
    · cases h
  · cases h
end
end Go.L1


namespace Go.L1
open Go

section
variable {p : Pg} {P : Program} {φ : Emb} {w : World}

theorem rFld_sim {off : Nat} {x x' v : Value} (h : rFld off x = some v) (hx : VP φ x x') : ∃ a',x' = .pointer (some a') ∧ VR φ v (.pointer (some (a'.add off))) := by
  unfold rFld at h
  split at h
  · cases h
    cases hx.vr rfl with
    | ptr hb => exact ⟨_,rfl,by rw [addr_add,Nat.add_assoc]; exact .ptr hb⟩
  · cases h
theorem rPart_sim (hF : Fits p P) {t : Nat} {i : TyI} (ht : p.ty t = some i) {off : Nat} {x x' v : Value} (h : rPart i off x = some v) (hx : VP φ x x') (w : World) :
    ∃ cs v',x' = .agg cs ∧ (part t cs off).run P w = .ok v' w ∧ VR φ v v' := by
  unfold rPart at h
  split at h
  · rename_i cs
    cases hx.vr rfl with
    | @agg _ cs' la h1 =>
      simp only [part,Sem.run_bind,run_isAgg (hF.ty _ _ ht),run_size (hF.ty _ _ ht),Result.andThen_ok]
      split at h
      · rename_i hagg
        split at h
        · rename_i hle
          cases h
          refine ⟨_,.agg (cs'.extract off (off + i.size)),rfl,by simp [hagg,run_size (hF.ty _ _ ht)],?_⟩
          have hv : VL φ ((cs.toList.drop off).take i.size) ((cs'.toList.drop off).take i.size) := (VL.drop off ⟨la,h1⟩).take _
          have e : (cs'.extract off (off + i.size)).toList = (cs'.toList.drop off).take i.size := by simp [Array.toList_extract]
          refine .agg ?_ ?_
          · rw [e]; simpa using hv.1
          · intro j y z hy hz
            rw [e] at hz
            exact hv.2 j y z (by simpa using hy) hz
        · cases h
      · rename_i hagg
        have hf : isAggD i.desc = false := by simpa using hagg
        obtain ⟨y,hy,hxy⟩ := (show VL φ cs.toList cs'.toList from ⟨la,h1⟩).get h
        refine ⟨_,y,rfl,?_,hxy⟩
        simp only [hf,Bool.false_eq_true,if_false]
        rw [← Array.getElem?_toList,hy]
        rfl
  · cases h
theorem idx_sim {v v' : Value} {n : Nat} (h : idxN v = some n) (hv : VP φ v v') (w : World) : ∃ k m,(asIntOf v').run P w = .ok (k,m) w ∧ 0 ≤ m ∧ m.toNat = n := by
  obtain ⟨k,m,rfl,h0,h1⟩ := idxN_inv h hv
  exact ⟨k,m,rfl,h0,h1⟩
theorem toBytes_run (w : World) : ∀ {cs : List Value} {bs : List UInt8} {cs' : List Value},toBytes cs = some bs → VL φ cs cs' → ∀ (acc : ByteArray),
    (forIn cs' acc (fun c r => do
      match c with
      | .int .u8 n => pure (ForInStep.yield (r.push (UInt8.ofNat n.toNat)))
      | _ => do
        stuck "bytesToString: byte expected"
        pure (ForInStep.yield r)) : Sem ByteArray).run P w = .ok ⟨acc.data ++ bs.toArray⟩ w
  | [],bs,cs',h,hv,acc => by
    cases h
    rw [hv.nil_inv]
    simp
  | c :: cs,bs,cs',h,hv,acc => by
    obtain ⟨c',r',rfl,hc,hr⟩ := hv.cons_inv
    unfold toBytes at h
    split at h
    · rename_i he; cases he
    · rename_i n r he
      cases he
      obtain ⟨bs',hb,rfl⟩ := Option.map_eq_some_iff.1 h
      cases hc
      simp only [List.forIn_cons,Sem.run_bind,Sem.run_pure,Result.andThen_ok]
      rw [toBytes_run w hb hr]
      simp [ByteArray.push]
    · cases h
theorem foldMM_sim {mx : Bool} : ∀ {l l' : List Value} {x x' v : Value},foldMM mx x l = some v → VP φ x x' → l.length = l'.length → (∀ (i : Nat) (a b : Value),l[i]? = some a → l'[i]? = some b → VP φ a b) →
    ∀ w : World,∃ v',((l'.foldlM (if mx then Builtin.max2 else Builtin.min2) x' : Sem Value)).run P w = .ok v' w ∧ VR φ v v'
  | [],l',x,x',v,h,hx,hl,_,w => by
    cases l' with
    | nil =>
      simp only [foldMM] at h
      split at h
      · cases h; cases hx.vr rfl; exact ⟨_,rfl,.int _ _⟩
      · cases h
    | cons _ _ => simp at hl
  | y :: l,l',x,x',v,h,hx,hl,hr,w => by
    cases l' with
    | nil => simp at hl
    | cons y' l' =>
      simp only [foldMM] at h
      obtain ⟨z,hz,hf⟩ := Option.bind_eq_some_iff.1 h
      have hy := hr 0 y y' rfl rfl
      unfold minmax at hz
      split at hz
      · rename_i k a k' b
        split at hz
        · cases hz
          cases hx.vr rfl
          cases hy.vr rfl
          simp only [List.foldlM_cons,Sem.run_bind]
          have e : ((if mx then Builtin.max2 else Builtin.min2) (Value.int k a) (Value.int k' b)).run P w = .ok (.int k (if mx then (if b > a then b else a) else (if b < a then b else a))) w := by
            cases mx <;> simp [Builtin.max2,Builtin.min2]
          rw [e]
          exact foldMM_sim hf (VR.int _ _).vp (by simpa using hl) (fun i a b ha hb => hr (i + 1) a b (by simpa using ha) (by simpa using hb)) w
        · cases hz
      · cases hz

theorem rConv_sim (hF : Fits p P) {C : Cont} {st dt : Nat} {si di : TyI} (hs : p.ty st = some si) (hd : p.ty dt = some di) {x x' v : Value} (h : rConv C p.ty si di x = some v) (hx : VP φ x x')
    (hR : ∀ ad n c bi,x = .slice (some ad) n c → φ ad.block = some bi → ∃ ob,C ad.block = some ob ∧ BlockRel p φ bi w ob) :
    ∃ v',(convert st dt x').run P w = .ok v' w ∧ VR φ v v' := by
  have us := (hF.ty _ _ hs).und
  have ud' := (hF.ty _ _ hd).und
  unfold rConv at h
  split at h
  · rename_i k k' n hD
    cases h
    cases hx.vr rfl
    refine ⟨_,?_,.int _ _⟩
    simp only [convert,Sem.run_bind,run_underlying us,run_underlying ud',hD,Result.andThen_ok]
    cases si.desc <;> rfl
  · rename_i s hD
    cases h
    cases hx.vr rfl
    refine ⟨_,?_,.string _⟩
    simp only [convert,Sem.run_bind,run_underlying us,run_underlying ud',hD,Result.andThen_ok]
    cases si.desc <;> rfl
  · rename_i a n c hD
    split at h
    · rename_i e hE
      split at h
      · rename_i ei hei
        split at h
        · rename_i hu8
          have ue : P.underlying e = some (.int .u8) := by rw [(hF.ty _ _ hei).und,hu8]
          split at h
          · cases h
            cases hx.vr rfl
            refine ⟨_,?_,.string _⟩
            simp only [convert,Sem.run_bind,run_underlying us,run_underlying ud',hD,hE,Result.andThen_ok,run_underlying ue]
            rfl
          · rename_i ad
            obtain ⟨bs,hbs,rfl⟩ := Option.map_eq_some_iff.1 h
            obtain ⟨cs,hcs,htb⟩ := Option.bind_eq_some_iff.1 hbs
            have hv := hx.vr rfl
            cases hv with
            | @slice b off _ _ c' bi a' hb hn ha hc =>
              have hrun : ∃ cs',VL φ cs cs' ∧ (loadCells a' n).run P w = .ok cs'.toArray w := by
                unfold sliceCells at hcs
                split at hcs
                · rename_i h0
                  cases hcs
                  subst h0
                  exact ⟨[],VL.nil φ,rfl⟩
                · rename_i h0
                  simp only at hcs
                  rw [Nat.mul_one] at hcs
                  obtain ⟨cs',h1,h2,h3,h4,_⟩ := loadCells_sim (P := P) hcs (hR _ _ _ bi rfl hb)
                  rcases ha with ha | ha
                  · omega
                  · exact ⟨cs',h1,by rw [ha]; exact h4⟩
              obtain ⟨cs',hcv,hl⟩ := hrun
              refine ⟨_,?_,.string _⟩
              simp only [convert,Sem.run_bind,run_underlying us,run_underlying ud',hD,hE,Result.andThen_ok,run_underlying ue]
              simp only [Conv.bytesToString,Sem.run_bind,hl,Result.andThen_ok]
              have := toBytes_run (P := P) w htb hcv .empty
              have e2 : (⟨(ByteArray.empty).data ++ bs.toArray⟩ : ByteArray) = ⟨bs.toArray⟩ := by
                show (⟨#[] ++ bs.toArray⟩ : ByteArray) = _
                simp
              rw [e2] at this
              simp only [List.forIn_toArray]
              exact congrArg (fun r => Result.andThen r fun a w' => Result.ok (Value.string a) w') this
        · cases h
      · cases h
    · cases h
  · cases h

theorem sameNow_str (a b : ByteArray) : Instr.sameNow .string (.string a) (.string b) = some (bl a == bl b) := by
  simp [Instr.sameNow,bl_beq]
theorem findNow_sim {k : ByteArray} : ∀ {es : List (Value × Value)} {es' : List MapEntry} {r : Option Value} (j : Nat),lookK k es = some r → es.length = es'.length →
    (∀ (i : Nat) (k v : Value) (e : MapEntry),es[i]? = some (k,v) → es'[i]? = some e → (∃ s,k = .string s ∧ e.key = .string s) ∧ VR φ v e.val ∧ isCell v = true) →
    ∃ r',Instr.findNow .string (.string k) es' j = some r' ∧ (match r with | none => r' = none | some v => ∃ i v',r' = some (i,v') ∧ VR φ v v' ∧ isCell v = true)
  | [],es',r,j,h,hl,_ => by
    cases h
    cases es' with
    | nil => exact ⟨none,rfl,rfl⟩
    | cons _ _ => simp at hl
  | (k',v) :: es,es',r,j,h,hl,he => by
    cases es' with
    | nil => simp at hl
    | cons e es' =>
      obtain ⟨⟨s,rfl,hs⟩,hv,hc⟩ := he 0 k' v e rfl rfl
      simp only [lookK] at h
      simp only [Instr.findNow,hs,sameNow_str]
      split at h
      · rename_i heq
        cases h
        rw [heq]
        exact ⟨_,rfl,j,_,rfl,hv,hc⟩
      · rename_i heq
        have : (bl k == bl s) = false := by simpa using heq
        rw [this]
        exact findNow_sim (j + 1) h (by simpa using hl) (fun i k v e h1 h2 => he (i + 1) k v e (by simpa using h1) (by simpa using h2))
theorem zeroV_sim (hF : Fits p P) {t : Nat} {i : TyI} (ht : p.ty t = some i) {z : Value} (h : zeroV i = some z) (w : World) : ∃ z',(zeroValue t).run P w = .ok z' w ∧ VR φ z z' := by
  obtain ⟨z',h1,h2,h3,h4⟩ := run_zero (hF.ty _ _ ht) w
  refine ⟨z',h1,?_⟩
  have hv := VR.pure φ h3
  unfold zeroV at h
  rcases cellsOf_one h2 with ⟨a,rfl,ha,_⟩ | ⟨hc,ha⟩
  · split at h
    · cases h
      rw [ha]
      simpa using hv
    · rename_i hn
      rw [← h4] at hn
      exact absurd rfl hn
  · split at h
    · rename_i hn
      rw [← h4] at hn
      cases z' <;> simp_all [isAggV,isCell]
    · rw [ha] at h
      simp only at h
      cases h
      exact hv

theorem checkKey_str {kt : TypeId} (hk : P.underlying kt = some .string) (e : Bool) (s : ByteArray) (w : World) : (Instr.checkKey e 10000 kt (.string s)).run P w = .ok () w := by
  rw [show (10000 : Nat) = 9999 + 1 from rfl,Instr.checkKey]
  simp [run_underlying hk]
theorem rLook_sim (hF : Fits p P) {C : Cont} {t kt e : Nat} {i ki ei : TyI} (ht : p.ty t = some i) (hD : i.desc = .map kt e) (hk : p.ty kt = some ki) (hks : ki.desc = .string) (he : p.ty e = some ei) {z x x' k k' v : Value} {ok : Bool}
    (hz : zeroV ei = some z) (h : rLook C z x k ok = some v) (hx : VP φ x x') (hkv : VP φ k k') (hR : ∀ b bi,x = .map (some b) → φ b = some bi → ∃ ob,C b = some ob ∧ BlockRel p φ bi w ob) :
    ∃ v',(Instr.lookup t x' k' ok).run P w = .ok v' w ∧ VR φ v v' := by
  have hu : P.underlying t = some (.map kt e) := by rw [(hF.ty _ _ ht).und,hD]
  have huk : P.underlying kt = some .string := by rw [(hF.ty _ _ hk).und,hks]
  obtain ⟨z',hz',vz⟩ := zeroV_sim (φ := φ) hF he hz w
  unfold rLook at h
  split at h
  · rename_i s
    cases hkv.vr rfl
    have main : ∀ {es : List (Value × Value)} {es' : Array MapEntry},es.length = es'.toList.length →
        (∀ (i : Nat) (k v : Value) (e : MapEntry),es[i]? = some (k,v) → es'.toList[i]? = some e → (∃ s,k = .string s ∧ e.key = .string s) ∧ VR φ v e.val ∧ isCell v = true) →
        lookRes z ok (lookK s es) = some v →
        (∃ i0 v',(Instr.findKey kt (.string s) es'.toList).run P w = .ok (some (i0,v')) w ∧ VR φ v (bif ok then .tuple #[v',.bool true] else v')) ∨
        ((Instr.findKey kt (.string s) es'.toList).run P w = .ok none w ∧ VR φ v (bif ok then .tuple #[z',.bool false] else z')) := by
      intro es es' hl hes hm
      unfold lookRes at hm
      split at hm
      · cases hm
      · rename_i v0 hlk
        cases hm
        obtain ⟨r',hr',i0,v',rfl,hv,hc⟩ := findNow_sim 0 hlk hl hes
        refine .inl ⟨i0,v',?_,?_⟩
        · simp only [Instr.findKey,Sem.run_bind,run_underlying huk,Result.andThen_ok,hr']
          rfl
        · cases ok with
          | false => exact hv
          | true => exact hv.tuple2 (.bool true)
      · rename_i hlk
        cases hm
        obtain ⟨r',hr',rfl⟩ := findNow_sim (φ := φ) 0 hlk hl hes
        refine .inr ⟨?_,?_⟩
        · simp only [Instr.findKey,Sem.run_bind,run_underlying huk,Result.andThen_ok,hr']
          rfl
        · cases ok with
          | false => exact vz
          | true => exact vz.tuple2 (.bool false)
    have fin : ∀ {es' : Array MapEntry},((x' = .map none ∧ es' = #[]) ∨ ∃ r clock,x' = .map (some r) ∧ (getObj r).run P w = .ok (.map es' clock) w) →
        ((∃ i0 v',(Instr.findKey kt (.string s) es'.toList).run P w = .ok (some (i0,v')) w ∧ VR φ v (bif ok then .tuple #[v',.bool true] else v')) ∨
        ((Instr.findKey kt (.string s) es'.toList).run P w = .ok none w ∧ VR φ v (bif ok then .tuple #[z',.bool false] else z'))) →
        ∃ v',(Instr.lookup t x' (.string s) ok).run P w = .ok v' w ∧ VR φ v v' := by
      intro es' hes hf
      rcases hes with ⟨rfl,rfl⟩ | ⟨r,clock,rfl,hg⟩
      · rcases hf with ⟨i0,v',hf,hv⟩ | ⟨hf,hv⟩
        · refine ⟨_,?_,hv⟩
          simp only [Instr.lookup,Sem.run_bind,run_underlying hu,Sem.run_pure,Result.andThen_ok,checkKey_str huk,hf]
          cases ok <;> rfl
        · refine ⟨_,?_,hv⟩
          simp only [Instr.lookup,Sem.run_bind,run_underlying hu,Sem.run_pure,Result.andThen_ok,checkKey_str huk,hf,hz']
          cases ok <;> rfl
      · rcases hf with ⟨i0,v',hf,hv⟩ | ⟨hf,hv⟩
        · refine ⟨_,?_,hv⟩
          simp only [Instr.lookup,Sem.run_bind,run_underlying hu,Sem.run_pure,Result.andThen_ok,hg,checkKey_str huk,hf]
          cases ok <;> rfl
        · refine ⟨_,?_,hv⟩
          simp only [Instr.lookup,Sem.run_bind,run_underlying hu,Sem.run_pure,Result.andThen_ok,hg,checkKey_str huk,hf,hz']
          cases ok <;> rfl
    split at h
    · cases h
    · rename_i es hes
      split at hes
      · cases hes
        cases hx.vr rfl
        exact fin (es' := #[]) (.inl ⟨rfl,rfl⟩) (main (es' := #[]) rfl (by simp) h)
      · rename_i b
        split at hes
        · rename_i es0 hC
          cases hes
          cases hx.vr rfl with
          | @map _ bi hb =>
            obtain ⟨ob,hC',hr⟩ := hR b bi rfl hb
            rw [hC] at hC'
            cases hC'
            cases hr with
            | @map _ es' clock hw hl hk =>
              have hg : (getObj bi.r).run P w = .ok (.map es' clock) w := by simp [getObj,Sem.run,hw]
              exact fin (es' := es') (.inr ⟨_,_,rfl,hg⟩) (main hl hk h)
        · cases hes
      · cases hes
  · cases h
end
end Go.L1


namespace Go.L1
open Go

section
variable {p : Pg} {P : Program} {φ : Emb} {w : World}

theorem mapM_run {α β : Type} (f : α → Sem β) (g : α → β) (w : World) (xs : Array α) (h : ∀ x ∈ xs.toList,(f x).run P w = .ok (g x) w) : (xs.mapM f).run P w = .ok (xs.map g) w := by
  rw [Array.mapM_eq_mapM_toList]
  have : ∀ l : List α,(∀ x ∈ l,(f x).run P w = .ok (g x) w) → (l.mapM f).run P w = .ok (l.map g) w := by
    intro l
    induction l with
    | nil => intro _; rfl
    | cons x l ih =>
      intro hl
      simp only [List.mapM_cons,Sem.run_bind,hl x (by simp),Result.andThen_ok,ih fun y hy => hl y (by simp [hy])]
      rfl
  simp only [Sem.run_map,this _ h,Result.andThen_ok]
  congr 1
  exact Array.ext' (by simp)

theorem build_sim (hF : Fits p P) {t : Nat} {i : TyI} (ht : p.ty t = some i) {ps : List (Nat × Operand)} {T : Env} {ρ : Operand → Value} {cs : List Value} {pa : Array (Nat × Operand)} (hpa : pa.toList = ps)
    (hE : ∀ x ∈ ps,VP φ (eval T x.2) (ρ x.2)) (h : fillAt (placeOf p.ty i) i.zero (ps.map fun (j,x) => (j,eval T x)) = some cs) (hagg : isAggD i.desc = true) :
    ∃ v',(Instr.build t (pa.map fun (i,x) => (i,ρ x))).run P w = .ok v' w ∧ VR φ (.agg cs.toArray) v' := by
  have hT := hF.ty _ _ ht
  obtain ⟨z,hz,hzc,hzp,hza⟩ := run_zero hT w
  have hzv : VL φ i.zero z.cells.toList := ((VR.pure φ hzp).cells hzc).1
  have hparts : ∀ (j : Nat) (x y : Nat × Value),(ps.map fun (j,x) => (j,eval T x))[j]? = some x → (pa.map fun (i,x) => (i,ρ x)).toList[j]? = some y → x.1 = y.1 ∧ VP φ x.2 y.2 := by
    intro j x y hx hy
    rw [Array.toList_map,hpa] at hy
    simp only [List.getElem?_map] at hx hy
    obtain ⟨q,hq,rfl⟩ := Option.map_eq_some_iff.1 hx
    rw [hq] at hy
    simp only [Option.map_some,Option.some.injEq] at hy
    subst hy
    exact ⟨rfl,hE _ (List.mem_of_getElem? hq)⟩
  have hlen : (ps.map fun (j,x) => (j,eval T x)).length = (pa.map fun (i,x) => (i,ρ x)).toList.length := by rw [Array.toList_map,hpa]; simp
  have fin : ∀ {place' : Nat → Option (Nat × Nat)},(∀ j os,placeOf p.ty i j = some os → place' j = some os) → ∃ out',Instr.fill place' z.cells (pa.map fun (i,x) => (i,ρ x)).toList = some out' ∧ VR φ (.agg cs.toArray) (.agg out') := by
    intro place' hpp
    obtain ⟨out',h1,h2⟩ := fill_sim hpp h hzv hlen hparts
    exact ⟨out',h1,.agg (by simpa using h2.1) (fun j x y hx hy => h2.2 j x y (by simpa using hx) hy)⟩
  cases hD : i.desc <;> rw [hD] at hagg <;> simp [isAggD] at hagg
  · rename_i n e
    obtain ⟨x,hx⟩ := hT.elem n e hD
    obtain ⟨out',h1,h2⟩ := fin (place' := fun j => some (j * P.cellsOf e,P.cellsOf e)) (fun j os hj => by
      simp only [placeOf,hD] at hj
      obtain ⟨ei,hei,rfl⟩ := Option.map_eq_some_iff.1 hj
      obtain ⟨⟨x',hx',hs,_⟩,_⟩ := hF.ty _ _ hei
      simp [Program.cellsOf,hx',hs])
    refine ⟨_,?_,h2⟩
    have hu : P.underlying t = some (.array n e) := by rw [hT.und,hD]
    simp only [Instr.build,Sem.run_bind,hz,Result.andThen_ok,run_underlying hu,run_sizeOf w hx,h1]
    rfl
  · rename_i fs
    have hu : P.underlying t = some (.struct fs) := by rw [hT.und,hD]
    let g : Field → Nat × Nat := fun f => (f.offset,P.cellsOf f.type)
    have hm : (fs.mapM fun f => do pure (f.offset,← sizeOf f.type) : Sem (Array (Nat × Nat))).run P w = .ok (fs.map g) w := by
      refine mapM_run _ g w fs fun f hf => ?_
      obtain ⟨x,hx⟩ := hT.flds fs hD f hf
      simp [run_sizeOf w hx,g]
    obtain ⟨out',h1,h2⟩ := fin (place' := fun j => (fs.map g)[j]?) (fun j os hj => by
      simp only [placeOf,hD] at hj
      obtain ⟨f,hf,hj⟩ := Option.bind_eq_some_iff.1 hj
      obtain ⟨fi,hfi,rfl⟩ := Option.map_eq_some_iff.1 hj
      obtain ⟨⟨x,hx,hs,_⟩,_⟩ := hF.ty _ _ hfi
      rw [Array.getElem?_map,← Array.getElem?_toList,hf]
      simp [g,Program.cellsOf,hx,hs])
    refine ⟨_,?_,h2⟩
    simp only [Instr.build,Sem.run_bind,hz,Result.andThen_ok,run_underlying hu,hm,h1]
    rfl

theorem optRel_map {T : Env} {a : Act} {x : Option Operand} (h : ∀ y,x = some y → VP φ (eval T y) (a.eval y)) : OptRel φ (x.map (eval T)) (x.map a.eval) := by
  cases x with
  | none => exact ⟨fun v hv => by simp at hv,fun _ => rfl⟩
  | some y => exact ⟨fun v hv => by simp at hv; subst hv; exact ⟨_,rfl,h y rfl⟩,fun hv => by simp at hv⟩

theorem builtinP_sim (hF : Fits p P) {C : Cont} {b : Builtin} {args : List Value} {args' : Array Value} {v : Value} {ts : Array TypeId} {ty : TypeId} {cn : Array Bool} (h : builtinP p C b ts.toList args = some v) (hl : args.length = args'.toList.length)
    (ha : ∀ (i : Nat) (x y : Value),args[i]? = some x → args'.toList[i]? = some y → VP φ x y) (hR : ∀ r bi,.map (some r) ∈ args → φ r = some bi → ∃ ob,C r = some ob ∧ BlockRel p φ bi w ob) :
    ∃ v',(builtin b ts ty cn args').run P w = .ok (.value v') w ∧ VR φ v v' := by
  obtain ⟨l⟩ := args'
  simp only at hl ha
  unfold builtinP at h
  split at h
  · rename_i y
    match l,hl with
    | [x'],_ =>
      have hx := ha 0 y x' rfl rfl
      obtain ⟨i,hi,hr⟩ := Option.bind_eq_some_iff.1 h
      obtain ⟨t,ht,hti⟩ := Option.bind_eq_some_iff.1 hi
      have hu := (hF.ty _ _ hti).und
      rw [Array.getElem?_toList] at ht
      generalize i.desc = d at *
      unfold rLen at hr
      split at hr
      · cases hr
        cases hx.vr rfl
        exact ⟨_,by simp [builtin,Builtin.len_,ht,run_underlying hu,goInt],.int _ _⟩
      · cases hr
        cases hx.vr rfl
        · exact ⟨_,by simp [builtin,Builtin.len_,ht,run_underlying hu,goInt],.int _ _⟩
        · exact ⟨_,by simp [builtin,Builtin.len_,ht,run_underlying hu,goInt],.int _ _⟩
      · cases hr
        cases hx.vr rfl
        exact ⟨_,by simp [builtin,Builtin.len_,ht,run_underlying hu,goInt],.int _ _⟩
      · rename_i q
        split at hr
        · rename_i es hC
          cases hr
          cases hx.vr rfl with
          | @map _ bi hb =>
            obtain ⟨ob,hC',hr⟩ := hR _ bi (by simp) hb
            rw [hC] at hC'
            cases hC'
            cases hr with
            | @map _ es' clock hw hl2 hk =>
              have hg : (getObj bi.r).run P w = .ok (.map es' clock) w := by simp [getObj,Sem.run,hw]
              exact ⟨_,by simp [builtin,Builtin.len_,ht,run_underlying hu,goInt,hg,hl2],.int _ _⟩
        · cases hr
      · cases hr
  · rename_i y
    match l,hl with
    | [x'],_ =>
      have hx := ha 0 y x' rfl rfl
      obtain ⟨i,hi,hr⟩ := Option.bind_eq_some_iff.1 h
      obtain ⟨t,ht,hti⟩ := Option.bind_eq_some_iff.1 hi
      have hu := (hF.ty _ _ hti).und
      rw [Array.getElem?_toList] at ht
      generalize i.desc = d at *
      unfold rCap at hr
      split at hr
      · split at hr
        · cases hr
        · rename_i hu'
          cases hr
          cases hx.vr rfl with
          | nilslice => exact ⟨_,by simp [builtin,Builtin.cap_,ht,run_underlying hu,goInt],.int _ _⟩
          | slice h hn ha hc =>
            rcases hc with ⟨e,_⟩ | ⟨rfl,_⟩
            · exact absurd e hu'
            · exact ⟨_,by simp [builtin,Builtin.cap_,ht,run_underlying hu,goInt],.int _ _⟩
      · cases hr
  · rename_i y r
    match l,hl with
    | x' :: r',hl =>
      obtain ⟨v',h1,h2⟩ := foldMM_sim (P := P) h (ha 0 y x' rfl rfl) (by simpa using hl) (fun i a b h1 h2 => ha (i + 1) a b (by simpa using h1) (by simpa using h2)) w
      exact ⟨v',by simp [builtin,Builtin.min_] at h1 ⊢; simp [h1],h2⟩
  · rename_i y r
    match l,hl with
    | x' :: r',hl =>
      obtain ⟨v',h1,h2⟩ := foldMM_sim (P := P) h (ha 0 y x' rfl rfl) (by simpa using hl) (fun i a b h1 h2 => ha (i + 1) a b (by simpa using h1) (by simpa using h2)) w
      exact ⟨v',by simp [builtin,Builtin.max_] at h1 ⊢; simp [h1],h2⟩
  · cases h

theorem rPick_sim {c x y c' x' y' v : Value} (h : rPick c x y = some v) (hc : VP φ c c') (hx : VP φ x x') (hy : VP φ y y') : ∃ t,c' = .bool t ∧ VP φ v (if t then x' else y') := by
  cases c <;> simp only [rPick] at h <;> try contradiction
  rename_i t
  cases h
  refine ⟨t,hc.boolI,?_⟩
  cases t
  · exact hy
  · exact hx
theorem rIdxS_sim {es : Nat} {x x' ix ix' v : Value} (h : rIdxS es x ix = some v) (hx : VP φ x x') (hix : VP φ ix ix') (w : World) :
    ∃ a' n c' k m,x' = .slice (some a') n c' ∧ (asIntOf ix').run P w = .ok (k,m) w ∧ 0 ≤ m ∧ m < (n : Int) ∧ VR φ v (.pointer (some (a'.add (m.toNat * es)))) := by
  unfold rIdxS at h
  split at h
  · rename_i hj
    split at h
    · cases h
      obtain ⟨k,m,hm,h0,rfl⟩ := idx_sim (P := P) hj hix w
      obtain ⟨bi,a',c',hb,hvx,hn,ha,hc⟩ := hx.sliceI
      refine ⟨a',_,c',k,m,hvx,hm,h0,by omega,?_⟩
      rcases ha with ha | ha
      · omega
      · rw [ha,addr_add,Nat.add_assoc]
        exact .ptr hb
    · cases h
  · cases h
theorem rIdxA_sim {n es : Nat} {x x' ix ix' v : Value} (h : rIdxA n es x ix = some v) (hx : VP φ x x') (hix : VP φ ix ix') (w : World) :
    ∃ a' k m,x' = .pointer (some a') ∧ (asIntOf ix').run P w = .ok (k,m) w ∧ 0 ≤ m ∧ m < (n : Int) ∧ VR φ v (.pointer (some (a'.add (m.toNat * es)))) := by
  unfold rIdxA at h
  split at h
  · rename_i hj
    split at h
    · cases h
      obtain ⟨k,m,hm,h0,rfl⟩ := idx_sim (P := P) hj hix w
      obtain ⟨bi,hb,hvx⟩ := hx.ptrI
      refine ⟨_,k,m,hvx,hm,h0,by omega,?_⟩
      rw [addr_add,Nat.add_assoc]
      exact .ptr hb
    · cases h
  · cases h
theorem rIdxStr_sim {s : ByteArray} {ix ix' v : Value} (h : rIdxStr s ix = some v) (hix : VP φ ix ix') (w : World) :
    ∃ k m b,(asIntOf ix').run P w = .ok (k,m) w ∧ 0 ≤ m ∧ s[m.toNat]? = some b ∧ v = .int .u8 b.toNat := by
  unfold rIdxStr at h
  split at h
  · rename_i j hj
    obtain ⟨b,hb,rfl⟩ := Option.map_eq_some_iff.1 h
    obtain ⟨k,m,hm,h0,rfl⟩ := idx_sim (P := P) hj hix w
    refine ⟨k,m,b,hm,h0,?_,rfl⟩
    obtain ⟨hlt,he⟩ := List.getElem?_eq_some_iff.1 hb
    have hlt' : m.toNat < s.size := by rw [Array.length_toList] at hlt; exact hlt
    rw [getElem?_pos s m.toNat hlt']
    congr 1
  · cases h

theorem pure_sim (hF : Fits p P) {T : Env} {a : Act} {C : Cont} (o : Oper) {v : Value} (hk : kindOf o.op = .pure) (h : pureV p T C o.op = some v)
    (hE : ∀ x ∈ o.op.operands.toList,VP φ (eval T x) (a.eval x)) (hR : ∀ b ∈ readsOf T o.op,∀ bi,φ b = some bi → ∃ ob,C b = some ob ∧ BlockRel p φ bi w ob) :
    ∃ v',(execOp a.eval o).run P w = .ok (.value v') w ∧ VP φ v v' := by
  obtain ⟨dst,op,type,pos,after,guard⟩ := o
  simp only at hk h hE hR
  cases op <;> simp [kindOf] at hk <;> simp only [pureV] at h
  case move x => cases h; exact ⟨_,rfl,hE x (by simp [Op.operands])⟩
  case assign x => cases h; exact ⟨_,rfl,hE x (by simp [Op.operands])⟩
  case pick c x y =>
    have hc := hE c (by simp [Op.operands])
    have hx := hE x (by simp [Op.operands])
    have hy := hE y (by simp [Op.operands])
    obtain ⟨t,he,hv⟩ := rPick_sim h hc hx hy
    exact ⟨_,by simp only [execOp,Sem.run_bind,he,asBool,Sem.run_pure,Result.andThen_ok],hv⟩
  case build t ps =>
    obtain ⟨i,hi,h⟩ := Option.bind_eq_some_iff.1 h
    obtain ⟨cs,hcs,h⟩ := Option.bind_eq_some_iff.1 h
    split at h
    · rename_i hagg
      cases h
      obtain ⟨v',h1,h2⟩ := build_sim (P := P) (φ := φ) hF hi (pa := ps) rfl (ρ := a.eval) (fun x hx => hE x.2 (by simp [Op.operands]; exact ⟨x.1,by simpa using hx⟩)) hcs hagg
      exact ⟨v',by simp only [execOp,Sem.run_bind]; exact congrArg (fun r => Result.andThen r fun a w' => (Pure.pure (Next.value a) : Sem Next).run P w') h1,h2.vp⟩
    · cases h
  case nilCheck x =>
    have hx := hE x (by simp [Op.operands])
    generalize eval T x = vx at *
    unfold rNil at h
    split at h
    · cases h
      obtain ⟨a',he,hv⟩ := hx.ptrI'
      exact ⟨_,by simp [execOp,he],hv.vp⟩
    · cases h
      obtain ⟨x',y',he,⟨l1,h1⟩,⟨l2,h2⟩⟩ := hx.funcI
      exact ⟨_,by simp [execOp,he],(VR.func _ l1 l2 h1 h2).vp⟩
    · cases h
      obtain ⟨bi,hb,rfl,rfl,he⟩ := hx.yieldI
      exact ⟨_,by simp [execOp,he],(VR.yield hb).vp⟩
    · cases h
  case binOp op t x y yt =>
    obtain ⟨i,hi,h⟩ := Option.bind_eq_some_iff.1 h
    obtain ⟨v',h1,h2,h3⟩ := binV_sim (P := P) hF hi h (hE x (by simp [Op.operands])) (hE y (by simp [Op.operands])) x y w
    exact ⟨v',by simp [execOp,h1,h2],h3.vp⟩
  case unOp op t x =>
    obtain ⟨v',h1,h2⟩ := unV_sim (P := P) h (hE x (by simp [Op.operands])) w
    exact ⟨v',by simp [execOp,h1],h2.vp⟩
  case makeFunc fn first captured =>
    cases fn <;> simp only [pureV] at h <;> try contradiction
    rename_i f
    split at h
    · rename_i hc
      cases h
      simp only [Bool.and_eq_true,List.all_eq_true] at hc
      have one : ∀ (l : Array Operand),(∀ x ∈ l.toList,VP φ (eval T x) (a.eval x)) → (∀ x ∈ (l.map (eval T)).toList,isCell x = true) → (l.map (eval T)).toList.length = (l.map a.eval).toList.length ∧ ∀ (i : Nat) (x y : Value),(l.map (eval T)).toList[i]? = some x → (l.map a.eval).toList[i]? = some y → VR φ x y := by
        intro l hl hcl
        refine ⟨by simp,fun i x y hx hy => ?_⟩
        have hcx := hcl x (List.mem_of_getElem? hx)
        simp only [Array.toList_map,List.getElem?_map] at hx hy
        obtain ⟨q,hq,rfl⟩ := Option.map_eq_some_iff.1 hx
        rw [hq] at hy
        cases hy
        exact (hl q (List.mem_of_getElem? hq)).vr (by generalize eval T q = z at hcx; cases z <;> simp_all [isCell,isPoison])
      obtain ⟨l1,h1⟩ := one first (fun x hx => hE x (by simp [Op.operands]; exact .inl (by simpa using hx))) hc.1
      obtain ⟨l2,h2⟩ := one captured (fun x hx => hE x (by simp [Op.operands]; exact .inr (by simpa using hx))) hc.2
      exact ⟨_,rfl,(VR.func f l1 l2 h1 h2).vp⟩
    · cases h
  case fieldAddr s x f =>
    obtain ⟨i,hi,h⟩ := Option.bind_eq_some_iff.1 h
    obtain ⟨fd,hfd,h⟩ := Option.bind_eq_some_iff.1 h
    obtain ⟨fi,hfi,h⟩ := Option.bind_eq_some_iff.1 h
    split at h
    · cases h
    · rename_i hne
      obtain ⟨a',ha,hv⟩ := rFld_sim h (hE x (by simp [Op.operands]))
      unfold fieldOf at hfd
      split at hfd
      · rename_i fs hD
        have hu : P.underlying s = some (.struct fs) := by rw [(hF.ty _ _ hi).und,hD]
        rw [Array.getElem?_toList] at hfd
        refine ⟨_,?_,hv.vp⟩
        simp only [execOp,Sem.run_bind,ha,Instr.fieldAt,run_underlying hu,Result.andThen_ok,hfd,Instr.sureAddr,Sem.run_pure,fieldPlace,run_size (hF.ty _ _ hfi),if_neg hne]
      · cases hfd
  case field t x f =>
    obtain ⟨i,hi,h⟩ := Option.bind_eq_some_iff.1 h
    obtain ⟨fd,hfd,h⟩ := Option.bind_eq_some_iff.1 h
    obtain ⟨fi,hfi,h⟩ := Option.bind_eq_some_iff.1 h
    obtain ⟨cs,v',ha,hv,hr⟩ := rPart_sim (P := P) hF hfi h (hE x (by simp [Op.operands])) w
    unfold fieldOf at hfd
    split at hfd
    · rename_i fs hD
      have hu : P.underlying t = some (.struct fs) := by rw [(hF.ty _ _ hi).und,hD]
      rw [Array.getElem?_toList] at hfd
      refine ⟨v',?_,hr.vp⟩
      simp only [execOp,Sem.run_bind,ha,Instr.field,run_underlying hu,Result.andThen_ok,hfd,asAgg,Sem.run_pure,hv]
    · cases hfd
  case indexAddr t x ix =>
    obtain ⟨i,hi,h⟩ := Option.bind_eq_some_iff.1 h
    have hx := hE x (by simp [Op.operands])
    have hix := hE ix (by simp [Op.operands])
    have hT := hF.ty _ _ hi
    split at h
    · rename_i n e hD
      obtain ⟨ei,hei,h⟩ := Option.bind_eq_some_iff.1 h
      have hu : P.underlying t = some (.array n e) := by rw [hT.und,hD]
      obtain ⟨a',k,m,hvx,hm,h0,hlt,hv⟩ := rIdxA_sim (P := P) h hx hix w
      refine ⟨_,?_,hv.vp⟩
      simp only [execOp,Sem.run_bind,Instr.indexAt,hm,Result.andThen_ok,run_underlying hu,hvx,Instr.sureAddr,Sem.run_pure,if_pos (show 0 ≤ m ∧ m < (n : Int) from ⟨h0,hlt⟩),run_size (hF.ty _ _ hei)]
    · rename_i e hD
      obtain ⟨ei,hei,h⟩ := Option.bind_eq_some_iff.1 h
      have hu : P.underlying t = some (.slice e) := by rw [hT.und,hD]
      obtain ⟨a',n,c',k,m,hvx,hm,h0,hlt,hv⟩ := rIdxS_sim (P := P) h hx hix w
      refine ⟨_,?_,hv.vp⟩
      simp only [execOp,Sem.run_bind,Instr.indexAt,hm,Result.andThen_ok,run_underlying hu,hvx,Sem.run_pure,if_pos (show 0 ≤ m ∧ m < (n : Int) from ⟨h0,hlt⟩),run_size (hF.ty _ _ hei)]
    · cases h
  case index t x ix =>
    obtain ⟨i,hi,h⟩ := Option.bind_eq_some_iff.1 h
    have hx := hE x (by simp [Op.operands])
    have hix := hE ix (by simp [Op.operands])
    have hT := hF.ty _ _ hi
    split at h
    · rename_i n e hD
      obtain ⟨ei,hei,h⟩ := Option.bind_eq_some_iff.1 h
      obtain ⟨j,hj,h⟩ := Option.bind_eq_some_iff.1 h
      have hu : P.underlying t = some (.array n e) := by rw [hT.und,hD]
      split at h
      · rename_i hjn
        obtain ⟨k,m,hm,h0,rfl⟩ := idx_sim (P := P) hj hix w
        obtain ⟨cs,v',hvx,hp,hv⟩ := rPart_sim (P := P) hF hei h hx w
        refine ⟨v',?_,hv.vp⟩
        simp only [execOp,Sem.run_bind,Instr.index,hm,Result.andThen_ok,run_underlying hu,hvx,if_pos (show 0 ≤ m ∧ m < (n : Int) from ⟨h0,by omega⟩),run_size (hF.ty _ _ hei),hp,Sem.run_pure]
      · cases h
    · rename_i hD
      have hu : P.underlying t = some .string := by rw [hT.und,hD]
      split at h
      · rename_i s hs
        rw [hs] at hx
        obtain ⟨k,m,b,hm,h0,hb,rfl⟩ := rIdxStr_sim (P := P) h hix w
        refine ⟨_,?_,(VR.int _ _).vp⟩
        simp only [execOp,Sem.run_bind,Instr.index,hm,Result.andThen_ok,run_underlying hu,hx.strI,if_pos h0,hb,Sem.run_pure]
      · cases h
    · cases h
  case extract t j =>
    have hx := hE t (by simp [Op.operands])
    generalize eval T t = vx at *
    unfold rExtract at h
    split at h
    · obtain ⟨cs',he,hl⟩ := hx.tupleI
      obtain ⟨y,hy,hv⟩ := hl.get h
      rw [Array.getElem?_toList] at hy
      refine ⟨y,?_,hv.vp⟩
      simp only [execOp,he,Instr.extract,hy,Sem.run_bind,Sem.run_pure,Result.andThen_ok]
    · cases h
  case load t x =>
    obtain ⟨i,hi,h⟩ := Option.bind_eq_some_iff.1 h
    obtain ⟨a',v',he,hr,hv⟩ := rLoad_sim (P := P) (hF.ty _ _ hi) h (hE x (by simp [Op.operands])) (fun b off bi hx hb => hR b (by simp [readsOf,hx]) bi hb)
    refine ⟨v',?_,hv.vp⟩
    simp only [execOp,he,Instr.loadAt,Instr.sureAddr,Sem.run_bind,Sem.run_pure,Result.andThen_ok,hr]
  case convert s d x =>
    obtain ⟨si,hsi,h⟩ := Option.bind_eq_some_iff.1 h
    obtain ⟨di,hdi,h⟩ := Option.bind_eq_some_iff.1 h
    obtain ⟨v',h1,h2⟩ := rConv_sim (P := P) hF hsi hdi h (hE x (by simp [Op.operands])) (fun ad n c bi hx hb => hR _ (by simp [readsOf,hx]) bi hb)
    exact ⟨v',by simp [execOp,h1],h2.vp⟩
  case slice t x lo hi mx =>
    obtain ⟨i,hi',h⟩ := Option.bind_eq_some_iff.1 h
    have hx := hE x (by simp [Op.operands])
    have rl : OptRel φ (lo.map (eval T)) (lo.map a.eval) := optRel_map fun y hy => hE y (by simp [Op.operands,hy])
    have rh : OptRel φ (hi.map (eval T)) (hi.map a.eval) := optRel_map fun y hy => hE y (by simp [Op.operands,hy])
    have rm : OptRel φ (mx.map (eval T)) (mx.map a.eval) := optRel_map fun y hy => hE y (by simp [Op.operands,hy])
    split at h
    · rename_i s hD hs
      rw [hs] at hx
      have hu : P.underlying t = some .string := by rw [(hF.ty _ _ hi').und,hD]
      unfold rSliceStr at h
      split at h
      · rename_i hi2 lo2 hm hh hl
        split at h
        · rename_i hle
          cases h
          have hmn := rm.2 hm
          refine ⟨_,?_,(VR.string _).vp⟩
          simp only [execOp,Sem.run_bind,Instr.sliceAt,run_underlying hu,Result.andThen_ok,hx.strI,Instr.slice,hmn,Option.isSome_none,Bool.false_eq_true,if_false]
          rw [sliceBounds_sim hl hh rl.1 rl.2 rh.1 rh.2 hle.1 hle.2 w]
          rfl
        · cases h
      · cases h
    · rename_i e sa n c hD hs
      obtain ⟨ei,hei,h⟩ := Option.bind_eq_some_iff.1 h
      rw [hs] at hx
      obtain ⟨v',h1,h2⟩ := rSlice_sim (P := P) hF hi' hD hei h hx rl rh rm (fun ad bi ha hb => hR _ (by simp [readsOf,hs,ha]) bi hb)
      exact ⟨v',by simp [execOp,h1],h2.vp⟩
    · cases h
  case lookup t x k ok =>
    obtain ⟨i,hi,h⟩ := Option.bind_eq_some_iff.1 h
    split at h
    · rename_i kt e hD
      obtain ⟨ki,hki,h⟩ := Option.bind_eq_some_iff.1 h
      split at h
      · rename_i hks
        obtain ⟨ei,hei,h⟩ := Option.bind_eq_some_iff.1 h
        obtain ⟨z,hz,h⟩ := Option.bind_eq_some_iff.1 h
        obtain ⟨v',h1,h2⟩ := rLook_sim (P := P) hF hi hD hki hks hei hz h (hE x (by simp [Op.operands])) (hE k (by simp [Op.operands])) (fun b bi hx hb => hR b (by simp [readsOf,hx]) bi hb)
        exact ⟨v',by simp [execOp,h1],h2.vp⟩
      · cases h
    · cases h
  case call c =>
    obtain ⟨callee,args,ts⟩ := c
    cases callee <;> simp only [kindOf,pureV] at hk h <;> try contradiction
    rename_i b
    obtain ⟨v',h1,h2⟩ := builtinP_sim (P := P) (φ := φ) (w := w) hF (args' := args.map a.eval) (ty := type) (cn := args.map fun | .const _ => true | _ => false) h (by simp) (fun i x y hx hy => by
      simp only [Array.toList_map,List.getElem?_map] at hx hy
      obtain ⟨q,hq,rfl⟩ := Option.map_eq_some_iff.1 hx
      rw [hq] at hy
      cases hy
      exact hE q (by simp [Op.operands,Call.operands]; simpa using List.mem_of_getElem? hq)) (fun r bi hr hb => hR r (by
        simp only [readsOf,List.mem_flatMap]
        obtain ⟨q,hq,he⟩ := List.mem_map.1 hr
        exact ⟨q,hq,by simp [he]⟩) bi hb)
    exact ⟨v',by simp only [execOp,resolve,Sem.run_bind,Sem.run_pure,Result.andThen_ok,invoke]; exact h1,h2.vp⟩
end
end Go.L1


namespace Go.L1
open Go

def Emb.put (φ : Emb) (n : Nat) (bi : BI) : Emb := fun j => if j = n then some bi else φ j
theorem Emb.put_self (φ : Emb) (n : Nat) (bi : BI) : φ.put n bi n = some bi := by simp [Emb.put]
theorem Emb.put_ne {φ : Emb} {n b : Nat} {bi : BI} (h : b ≠ n) : φ.put n bi b = φ b := by simp [Emb.put,h]
theorem Emb.sub_put {φ : Emb} {n : Nat} {bi : BI} (h : φ n = none) : Sub φ (φ.put n bi) := by
  intro b c hb
  rw [Emb.put_ne]
  · exact hb
  · rintro rfl; rw [h] at hb; cases hb

section
variable {p : Pg} {P : Program} {φ : Emb} {w : World}

def Laid (p : Pg) (φ : Emb) (w : World) (n : Nat) (v : Value) (ob : IObj) (v' : Value) (o' : Obj) : Prop :=
  ∃ bi : BI,bi.r = w.heap.size ∧ VR (φ.put n bi) v v' ∧ (∀ w' : World,w'.heap[bi.r]? = some o' → BlockRel p (φ.put n bi) bi w' ob) ∧ liveO ob = true ∧ rwO ob = true

theorem laid_cells (hn : φ n = none) {e : Nat} {ei : TyI} (he : p.ty e = some ei) {cs : List Value} {cs' : Array Value} (hv : VL φ cs cs'.toList) (hc : ∀ x ∈ cs,isCell x = true) {v v' : Value}
    (hval : VR (φ.put n ⟨w.heap.size,0,cs'.size,ei.size,cs.length⟩) v v') : Laid p φ w n v (.cells cs e false) v' (.cells cs' e) := by
  refine ⟨⟨w.heap.size,0,cs'.size,ei.size,cs.length⟩,rfl,hval,fun w' hw' => ?_,rfl,rfl⟩
  have hl : cs.length = cs'.toList.length := hv.1
  refine .cells he rfl rfl hw' rfl (by simp [hl]) ?_ hc (fun _ => rfl) (fun _ x hx => hv.cellR hc x (List.mem_of_mem_drop hx))
  simp only [List.drop_zero]
  rw [List.take_of_length_le (by omega)]
  exact hv.mono (Emb.sub_put hn)

theorem rep_length (z : List Value) : ∀ n,(rep z n).length = n * z.length
  | 0 => by simp [rep]
  | n + 1 => by simp [rep,rep_length z n,Nat.add_mul]; omega
theorem rep_get (z : List Value) (hz : 0 < z.length) : ∀ (n i : Nat),i < n * z.length → (rep z n)[i]? = z[i % z.length]?
  | 0,i,h => by simp at h
  | n + 1,i,h => by
    simp only [rep]
    rw [List.getElem?_append]
    split
    · rename_i hlt; rw [Nat.mod_eq_of_lt hlt]
    · rename_i hlt
      rw [rep_get z hz n (i - z.length) (by rw [Nat.succ_mul] at h; omega)]
      rw [← Nat.mod_eq_sub_mod (by omega)]
theorem rep_isCell {z : List Value} (hz : ∀ x ∈ z,isCell x = true) : ∀ n,∀ x ∈ rep z n,isCell x = true
  | 0,x,h => by simp [rep] at h
  | n + 1,x,h => by
    simp only [rep,List.mem_append] at h
    rcases h with h | h
    · exact hz x h
    · exact rep_isCell hz n x h
theorem rep_VL {z : List Value} {zc : Array Value} (hz : VL φ z zc.toList) (n m : Nat) (hm : m = n * z.length) :
    VL φ (rep z n) ((Array.range m).map fun i => zc[i % zc.size]!).toList := by
  subst hm
  have hl : zc.size = z.length := by rw [hz.1]; simp
  refine ⟨by simp [rep_length],fun i x y hx hy => ?_⟩
  have hi : i < n * z.length := by rw [← rep_length]; exact (List.getElem?_eq_some_iff.1 hx).1
  have hz0 : 0 < z.length := by
    rcases Nat.eq_zero_or_pos z.length with h | h
    · rw [h] at hi; simp at hi
    · exact h
  rw [rep_get z hz0 n i hi] at hx
  simp only [Array.toList_map,Array.toList_range,List.getElem?_map,List.getElem?_range hi,Option.map_some,Option.some.injEq] at hy
  subst hy
  have hmod : i % zc.size < zc.size := Nat.mod_lt _ (by omega)
  refine hz.2 (i % z.length) x _ hx ?_
  rw [← hl,Array.getElem?_toList]
  simp [hmod]
theorem cellsOf_isCell {z : Value} {l : List Value} (h : cellsOf z = some l) : ∀ x ∈ l,isCell x = true := by
  rcases cellsOf_one h with ⟨a,rfl,rfl,hall⟩ | ⟨hc,rfl⟩
  · exact hall
  · intro x hx; simp at hx; subst hx; exact hc
theorem putAt_isCell {cs new : List Value} {off : Nat} (h : ∀ x ∈ cs,isCell x = true) (h' : ∀ x ∈ new,isCell x = true) : ∀ x ∈ putAt cs off new,isCell x = true := by
  intro x hx
  simp only [putAt,List.mem_append] at hx
  rcases hx with (hx | hx) | hx
  · exact h x (List.mem_of_mem_take hx)
  · exact h' x hx
  · exact h x (List.mem_of_mem_drop hx)
theorem fillAt_isCell {place : Nat → Option (Nat × Nat)} : ∀ {parts : List (Nat × Value)} {cells out : List Value},fillAt place cells parts = some out → (∀ x ∈ cells,isCell x = true) → ∀ x ∈ out,isCell x = true
  | [],cells,out,h,hc => by cases h; exact hc
  | (i,v) :: rest,cells,out,h,hc => by
    simp only [fillAt] at h
    split at h
    · cases h
    · split at h
      · cases h
      · rename_i cs hcs
        split at h
        · exact fillAt_isCell h (putAt_isCell hc (cellsOf_isCell hcs))
        · cases h
theorem fillAt_length {place : Nat → Option (Nat × Nat)} : ∀ {parts : List (Nat × Value)} {cells out : List Value},fillAt place cells parts = some out → out.length = cells.length
  | [],cells,out,h => by cases h; rfl
  | (i,v) :: rest,cells,out,h => by
    simp only [fillAt] at h
    split at h
    · cases h
    · split at h
      · cases h
      · split at h
        · rename_i hle
          rw [fillAt_length h,putAt_length (by omega)]
        · cases h

theorem alloc_sim (hF : Fits p P) {T : Env} {a : Act} {n : Nat} (hn : φ n = none) (o : Oper) {v : Value} {ob : IObj} (h : allocV p T n o.op = some (v,ob))
    (hE : ∀ x ∈ o.op.operands.toList,VP φ (eval T x) (a.eval x)) :
    ∃ v' o',(execOp a.eval o).run P w = .ok (.value v') { w with heap := w.heap.push o' } ∧ Laid p φ w n v ob v' o' := by
  obtain ⟨dst,op,type,pos,after,guard⟩ := o
  simp only at h hE
  have ptr : ∀ {sz es isz : Nat},VR (φ.put n ⟨w.heap.size,0,sz,es,isz⟩) (.pointer (some ⟨n,0,none⟩)) (.pointer (some ⟨w.heap.size,0,none⟩)) := fun {sz es isz} =>
    VR.ptr (bi := ⟨w.heap.size,0,sz,es,isz⟩) (Emb.put_self _ _ _)
  cases op <;> simp only [allocV] at h <;> try contradiction
  case alloc e =>
    obtain ⟨i,hi,h⟩ := Option.bind_eq_some_iff.1 h
    cases h
    obtain ⟨z,hz,hzc,hzp,hza⟩ := run_zero (hF.ty _ _ hi) w
    refine ⟨.pointer (some ⟨w.heap.size,0,none⟩),.cells z.cells e,?_,laid_cells hn hi (cs' := z.cells) (((VR.pure φ hzp).cells hzc).1) (cellsOf_isCell hzc) ptr⟩
    simp [execOp,Instr.alloc,hz,newVar,newRow]
  case box e x =>
    obtain ⟨i,hi,h⟩ := Option.bind_eq_some_iff.1 h
    obtain ⟨cs,hcs,h⟩ := Option.bind_eq_some_iff.1 h
    split at h
    · cases h
      have hx := hE x (by simp [Op.operands])
      have hnp : isPoison (eval T x) = false := by generalize eval T x = q at hcs; cases q <;> simp_all [isPoison,cellsOf,isCell]
      obtain ⟨h1,_,_⟩ := (hx.vr hnp).cells hcs
      refine ⟨.pointer (some ⟨w.heap.size,0,none⟩),.cells (a.eval x).cells e,?_,laid_cells hn hi (cs' := (a.eval x).cells) h1 (cellsOf_isCell hcs) ptr⟩
      simp [execOp,Instr.box,newVar,newRow]
    · cases h
  case buildSlice t len ps =>
    obtain ⟨i,hi,h⟩ := Option.bind_eq_some_iff.1 h
    split at h
    · rename_i e hD
      obtain ⟨ei,hei,h⟩ := Option.bind_eq_some_iff.1 h
      split at h
      · rename_i hle
        obtain ⟨cs,hcs,h⟩ := Option.bind_eq_some_iff.1 h
        cases h
        have hu : P.underlying t = some (.slice e) := by rw [(hF.ty _ _ hi).und,hD]
        obtain ⟨z,hz,hzc,hzp,hza⟩ := run_zero (hF.ty _ _ hei) w
        have hzv : VL φ ei.zero z.cells.toList := ((VR.pure φ hzp).cells hzc).1
        have hzl : ei.zero.length = ei.size := (hF.ty _ _ hei).info.elim fun _ h => h.2.2.2.2
        obtain ⟨out',h1,h2⟩ := fill_sim (φ := φ) (place := fun j => some (j * ei.size,ei.size)) (place' := fun j => some (j * ei.size,ei.size)) (fun _ _ h => h)
          (cells' := (Array.range (len * ei.size)).map fun i => z.cells[i % z.cells.size]!) (parts' := (ps.map fun (i,x) => (i,a.eval x)).toList) hcs (rep_VL hzv len _ (by rw [hzl])) (by simp) (fun j x y hx hy => by
            rw [Array.toList_map] at hy
            simp only [List.getElem?_map] at hx hy
            obtain ⟨q,hq,rfl⟩ := Option.map_eq_some_iff.1 hx
            rw [hq] at hy
            simp only [Option.map_some,Option.some.injEq] at hy
            subst hy
            exact ⟨rfl,hE q.2 (by simp [Op.operands]; exact ⟨q.1,by simpa using List.mem_of_getElem? hq⟩)⟩)
        have hcc := fillAt_isCell hcs (rep_isCell (cellsOf_isCell hzc) len)
        refine ⟨.slice (some ⟨w.heap.size,0,none⟩) len len,.cells out' e,?_,laid_cells hn hei (cs' := out') h2 hcc ?_⟩
        · simp only [execOp,Instr.buildSlice,Sem.run_bind,run_underlying hu,Result.andThen_ok,run_size (hF.ty _ _ hei),if_neg (show ¬ len * ei.size > 2 ^ 24 by rw [Nat.mul_add] at hle; omega)]
          by_cases h0 : len * ei.size = 0
          · have h1' := h1
            rw [h0] at h1'
            simp only [h0,if_true]
            rw [Sem.run_bind,Sem.run_pure]
            simp only [Result.andThen_ok]
            have e0 : ∀ f : Nat → Value,Array.map f (Array.range 0) = #[] := fun f => by simp
            rw [e0] at h1' ⊢
            rw [h1']
            rfl
          · simp only [h0,if_false,Sem.run_bind,hz,Sem.run_pure,Result.andThen_ok]
            rw [h1]
            rfl
        · refine VR.slice (bi := ⟨w.heap.size,0,_,_,_⟩) (Emb.put_self _ _ _) (Nat.le_refl _) (.inr rfl) (.inr ⟨rfl,?_⟩)
          rw [Nat.mul_add] at hle
          unfold uc
          omega
      · cases h
    · cases h
  case makeMap t r =>
    cases r <;> simp only [allocV] at h <;> try contradiction
    cases h
    refine ⟨.map (some w.heap.size),.map #[] 0,by simp [execOp,Instr.makeMap],⟨w.heap.size,0,0,0,0⟩,rfl,VR.map (bi := ⟨w.heap.size,0,0,0,0⟩) (Emb.put_self _ _ _),fun w' hw' => .map hw' rfl (fun i k v e h => by simp at h),rfl,rfl⟩
  case makeSlice t l c =>
    obtain ⟨i,hi,h⟩ := Option.bind_eq_some_iff.1 h
    have hl := hE l (by simp [Op.operands])
    have hc := hE c (by simp [Op.operands])
    split at h
    · rename_i e hD
      obtain ⟨ei,hei,h⟩ := Option.bind_eq_some_iff.1 h
      split at h
      · rename_i lv cv hlv hcv
        split at h
        · rename_i hcond
          obtain ⟨h0,hlc,hbig⟩ := hcond
          cases h
          rw [hlv] at hl
          rw [hcv] at hc
          have hu : P.underlying t = some (.slice e) := by rw [(hF.ty _ _ hi).und,hD]
          obtain ⟨z,hz,hzc,hzp,hza⟩ := run_zero (hF.ty _ _ hei) w
          obtain ⟨ti,hti,hbytes⟩ := run_bytes (hF.ty _ _ hei) w
          have hzv : VL φ ei.zero z.cells.toList := ((VR.pure φ hzp).cells hzc).1
          have hzl : ei.zero.length = ei.size := (hF.ty _ _ hei).info.elim fun _ h => h.2.2.2.2
          have hc0 : 0 ≤ cv := by omega
          have hcs : cv ≤ 1099511627776 := by
            have h2 : cv * 1 ≤ cv * ((ei.bytes : Int) + ei.size + 1) := Int.mul_le_mul_of_nonneg_left (by omega) hc0
            omega
          have hwl : IntKind.i64.wrap lv = lv := IntWalk.i64_in _ (by omega)
          have hwc : IntKind.i64.wrap cv = cv := IntWalk.i64_in _ (by omega)
          have hby : (ei.bytes : Int) * cv ≤ 2 ^ 48 := by
            have h2 : cv * (ei.bytes : Int) ≤ cv * ((ei.bytes : Int) + ei.size + 1) := Int.mul_le_mul_of_nonneg_left (by omega) hc0
            rw [Int.mul_comm]
            omega
          have hnb : ¬ (cv < 0 ∨ (2 : Int) ^ 48 < (ei.bytes : Int) * cv) := by omega
          refine ⟨.slice (some ⟨w.heap.size,0,none⟩) lv.toNat cv.toNat,.cells ((Array.range (cv.toNat * ei.size)).map fun i => z.cells[i % z.cells.size]!) e,?_,
            laid_cells hn hei (rep_VL hzv cv.toNat _ (by rw [hzl])) (rep_isCell (cellsOf_isCell hzc) _) ?_⟩
          · simp only [execOp,Instr.makeSlice,Sem.run_bind,run_underlying hu,Result.andThen_ok,hl.intI,hc.intI,asInt,asIntOf,Sem.run_pure,hti,hbytes,hwl,hwc]
            rw [if_neg (by
              simp only [Bool.or_eq_true,decide_eq_true_eq]
              omega)]
            simp only [Sem.run_bind,run_askRoom,Result.andThen_ok,run_size (hF.ty _ _ hei)]
            by_cases hz0 : cv.toNat * ei.size = 0
            · rw [if_pos hz0,Sem.run_bind,Sem.run_pure]
              simp only [Result.andThen_ok,hz0]
              have e0 : ∀ f : Nat → Value,Array.map f (Array.range 0) = #[] := fun f => by simp
              rw [e0,e0]
              rfl
            · rw [if_neg hz0,Sem.run_bind,hz]
              rfl
          · exact VR.slice (bi := ⟨w.heap.size,0,_,_,_⟩) (Emb.put_self _ _ _) (by omega) (.inr rfl) (.inr ⟨rfl,by unfold uc; omega⟩)
        · cases h
      · cases h
    · cases h
end
end Go.L1


namespace Go.L1
open Go

section real
variable {P : Program} {w : World}

inductive AppX (P : Program) (w : World) (size e : Nat) (tx : TypeId) : Value → Nat → Array Value → Prop
  | slice {e2 xn xc : Nat} {xa : Option Addr} {new : Array Value} (hx : P.underlying tx = some (.slice e2))
      (hnew : ∀ w' : World,w'.heap = w.heap → (Builtin.firstCells size xn (.slice xa xn xc)).run P w' = .ok new w') : AppX P w size e tx (.slice xa xn xc) xn new
  | zeros {k : IntKind} {m : Nat} {z : Value} (hx : P.underlying tx = some (.int k)) (hz : ∀ w',(zeroValue e).run P w' = .ok z w') (hm : m ≤ 1048576)
      (hb : ∀ w',∃ ti,(typeInfo e).run P w' = .ok ti w' ∧ (m : Int) * ti.bytes ≤ 2 ^ 48) (hm0 : m * size = 0 → Builtin.zeroCells z.cells m = #[]) : AppX P w size e tx (.int .i64 m) m (Builtin.zeroCells z.cells m)

theorem le_grownCap (w : World) (need old : Nat) (e : TypeId) : need ≤ grownCap w need old e := by
  show need ≤ need + _
  exact Nat.le_add_right _ _
theorem zc_i64 {m : Nat} (h : m ≤ 1048576) : IntKind.i64.wrap (m : Int) = m := IntWalk.i64_in _ (by omega)

theorem app_in {t tx e : Nat} {ts : Array TypeId} {size : Nat} (h0 : ts[0]? = some t) (h1 : ts[1]? = some tx) (ht : P.underlying t = some (.slice e)) (hs : ∀ w',(sizeOf e).run P w' = .ok size w')
    {x : Value} {m : Nat} {new : Array Value} (hx : AppX P w size e tx x m new) {n c : Nat} {base : Option Addr} (hle : n + m ≤ c) {w' : World}
    (hst : (match base with | some a => storeCells (a.add (n * size)) new.toList | none => pure ()).run P w = .ok () w') (ty : TypeId) :
    (Builtin.append_ ts ty #[.slice base n c,x]).run P w = .ok (.slice base (n + m) c) w' := by
  cases hx with
  | slice hxt hnew =>
    have hn := hnew w rfl
    simp only [Builtin.append_,h0,h1,List.getElem?_toArray,List.getElem?_cons_zero,List.getElem?_cons_succ,Sem.run_bind,run_underlying ht,Result.andThen_ok,hs,run_underlying hxt,Sem.run_pure,Bool.false_eq_true,if_false,Builtin.lenOf,if_pos hle,Bool.not_false,if_true,hn]
    cases base with
    | none => cases hst; rfl
    | some a => simp only [Sem.run_bind,hst,Result.andThen_ok,Sem.run_pure]
  | @zeros k m z hxt hz hm hb hm0 =>
    obtain ⟨ti,hti,hbb⟩ := hb w
    have hw : IntKind.i64.wrap (m : Int) = m := zc_i64 hm
    have hng : ¬ ((m : Int) < 0) := by omega
    have hnb : ¬ ((m : Int) * ti.bytes > 2 ^ 48) := by omega
    simp only [Builtin.append_,h0,h1,List.getElem?_toArray,List.getElem?_cons_zero,List.getElem?_cons_succ,Sem.run_bind,run_underlying ht,Result.andThen_ok,hs,run_underlying hxt,Sem.run_pure,if_true,asInt,asIntOf,hw,hti,if_neg hng,if_neg hnb,Int.toNat_natCast,if_pos hle,Bool.not_true,Bool.false_eq_true,if_false]
    by_cases hz0 : m * size = 0
    · have e := hm0 hz0
      rw [e] at hst
      rw [if_pos hz0,Sem.run_pure]
      simp only [Result.andThen_ok]
      cases base with
      | none => cases hst; rfl
      | some a => simp only [Sem.run_bind,hst,Result.andThen_ok,Sem.run_pure]
    · rw [if_neg hz0]
      simp only [Sem.run_bind,hz,Result.andThen_ok,Sem.run_pure]
      cases base with
      | none => cases hst; rfl
      | some a => simp only [Sem.run_bind,hst,Result.andThen_ok,Sem.run_pure]

theorem app_grow {t tx e : Nat} {ts : Array TypeId} {size : Nat} (h0 : ts[0]? = some t) (h1 : ts[1]? = some tx) (ht : P.underlying t = some (.slice e)) (hs : ∀ w',(sizeOf e).run P w' = .ok size w')
    {ti : TypeInfo} (hti : P.info? e = some ti) {z : Value} (hz : ∀ w',(zeroValue e).run P w' = .ok z w')
    {x : Value} {m : Nat} {new old : Array Value} (hx : AppX P w size e tx x m new) {n c : Nat} {base : Option Addr} (hgt : c < n + m)
    (hold : ∀ w' : World,w'.heap = w.heap → (Builtin.firstCells size n (.slice base n c)).run P w' = .ok old w') (hb : (n + m) * ti.bytes ≤ 140737488355328) (hn : n + m ≤ 9223372036854775807) (ty : TypeId) :
    (Builtin.append_ ts ty #[.slice base n c,x]).run P w = .ok (.slice (some ⟨w.heap.size,0,none⟩) (n + m) (grownCap w (n + m) c e))
      { w with drawn := w.drawn + 1,heap := w.heap.push (.cells (old ++ new ++ Builtin.zeroCells z.cells (grownCap w (n + m) c e - (n + m))) e) } := by
  have hnle : ¬ n + m ≤ c := by omega
  have hfit := growslice_fits hgt hb
  have hnf : ¬ (Builtin.nextslicecap (n + m) c * ti.bytes > 2 ^ 48) := by omega
  have hni : ¬ (((n + m : Nat) : Int) > IntKind.i64.max) := by
    have : IntKind.i64.max = 9223372036854775807 := by decide
    omega
  have htr : ∀ w' : World,(typeInfo e).run P w' = .ok ti w' := fun w' => by simp [typeInfo,hti]
  have hq : (Question.appendCap (n + m) c e).forced = false := rfl
  cases hx with
  | slice hxt hnew =>
    simp only [Builtin.append_,h0,h1,List.getElem?_toArray,List.getElem?_cons_zero,List.getElem?_cons_succ,Sem.run_bind,run_underlying ht,Result.andThen_ok,hs,run_underlying hxt,Sem.run_pure,Bool.false_eq_true,if_false,Builtin.lenOf,if_neg hnle,Bool.not_false,if_true,htr,
      false_or,if_neg hnf]
    rw [if_neg (by intro h; exact hni h.1),Sem.run_bind,htr]
    simp only [Result.andThen_ok]
    rw [if_neg hnf]
    simp only [Sem.run_bind,run_choose,hq,Bool.false_eq_true,if_false,Result.andThen_ok,htr,run_askRoom]
    rw [hold { w with drawn := w.drawn + 1 } rfl]
    simp only [Result.andThen_ok]
    rw [hnew { w with drawn := w.drawn + 1 } rfl]
    simp only [Result.andThen_ok,hz,newRow,Sem.run_bind,run_newObj,Sem.run_pure]
    rfl
  | @zeros k m z' hxt hz' hm hb' hm0 =>
    have hzz : z' = z := by
      have := (hz' w).symm.trans (hz w)
      cases this; rfl
    subst hzz
    have hbb : (m : Int) * ti.bytes ≤ 2 ^ 48 := by
      obtain ⟨ti',h1,h2⟩ := hb' w
      rw [htr] at h1
      cases h1
      exact h2
    have hw : IntKind.i64.wrap (m : Int) = m := zc_i64 hm
    have hng : ¬ ((m : Int) < 0) := by omega
    have hnb : ¬ ((m : Int) * ti.bytes > 2 ^ 48) := by omega
    simp only [Builtin.append_,h0,h1,List.getElem?_toArray,List.getElem?_cons_zero,List.getElem?_cons_succ,Sem.run_bind,run_underlying ht,Result.andThen_ok,hs,run_underlying hxt,Sem.run_pure,if_true,asInt,asIntOf,hw,htr,if_neg hng,if_neg hnb,Int.toNat_natCast,if_neg hnle,Bool.not_true,Bool.false_eq_true,if_false,
      true_or,and_true,if_neg hni,if_neg hnf]
    simp only [Sem.run_bind,run_choose,hq,Bool.false_eq_true,if_false,Result.andThen_ok,htr,run_askRoom]
    rw [hold { w with drawn := w.drawn + 1 } rfl]
    simp only [Result.andThen_ok]
    by_cases hz0 : m * size = 0
    · have e0 := hm0 hz0
      rw [if_pos hz0,Sem.run_pure,e0]
      simp only [Result.andThen_ok,hz,newRow,Sem.run_bind,run_newObj,Sem.run_pure]
      rfl
    · rw [if_neg hz0]
      simp only [Sem.run_bind,hz,Result.andThen_ok,Sem.run_pure,newRow,run_newObj]
      rfl
end real

section
variable {p : Pg} {P : Program} {φ : Emb} {w : World}

theorem beq_ne {a b : Nat} (h : a ≠ b) : Nat.beq a b = false := by rw [Bool.eq_false_iff]; intro hb; exact h (Nat.eq_of_beq_eq_true hb)
theorem Hp.get_e (j : Nat) : Hp.get .e j = none := rfl
theorem Hp.get_n (v : Option IObj) (l r : Hp) (j : Nat) : Hp.get (.n v l r) j = if j = 0 then v else if j % 2 = 1 then l.get (j / 2) else r.get (j / 2 - 1) := by
  show (bif Nat.beq j 0 then v else bif Nat.beq (j % 2) 1 then l.get (j / 2) else r.get (j / 2 - 1)) = _
  by_cases h0 : j = 0
  · subst h0; simp
  · rw [beq_ne h0,cond_false,if_neg h0]
    by_cases h1 : j % 2 = 1
    · rw [h1]; simp
    · rw [beq_ne h1,cond_false,if_neg h1]
theorem Hp.setF_n (f : Nat) (v : Option IObj) (l r : Hp) (i : Nat) (o : IObj) : Hp.setF (f + 1) (.n v l r) i o = if i = 0 then .n (some o) l r else if i % 2 = 1 then .n v (Hp.setF f l (i / 2) o) r else .n v l (Hp.setF f r (i / 2 - 1) o) := by
  show (bif Nat.beq i 0 then Hp.n (some o) l r else bif Nat.beq (i % 2) 1 then Hp.n v (Hp.setF f l (i / 2) o) r else Hp.n v l (Hp.setF f r (i / 2 - 1) o)) = _
  by_cases h0 : i = 0
  · subst h0; simp
  · rw [beq_ne h0,cond_false,if_neg h0]
    by_cases h1 : i % 2 = 1
    · rw [h1]; simp
    · rw [beq_ne h1,cond_false,if_neg h1]
theorem Hp.setF_e (f : Nat) (i : Nat) (o : IObj) : Hp.setF (f + 1) .e i o = Hp.setF (f + 1) (.n none .e .e) i o := rfl
theorem Hp.get_setF : ∀ (f : Nat) (t : Hp) (i j : Nat) (o : IObj),i < f → (Hp.setF f t i o).get j = if j = i then some o else t.get j
  | 0,_,_,_,_,h => by omega
  | f + 1,.n v l r,i,j,o,h => by
    rw [Hp.setF_n]
    by_cases hi : i = 0
    · subst hi
      rw [if_pos rfl,Hp.get_n,Hp.get_n]
      by_cases hj : j = 0
      · simp [hj]
      · simp [hj]
    · rw [if_neg hi]
      by_cases h1 : i % 2 = 1
      · rw [if_pos h1,Hp.get_n,Hp.get_n,Hp.get_setF f l _ _ o (by omega)]
        by_cases hj : j = 0
        · subst hj; rw [if_pos rfl,if_neg (fun e => hi e.symm),if_pos rfl]
        · rw [if_neg hj,if_neg hj]
          by_cases hj1 : j % 2 = 1
          · rw [if_pos hj1,if_pos hj1]
            by_cases e : j = i
            · subst e; simp
            · rw [if_neg e,if_neg (by omega)]
          · rw [if_neg hj1,if_neg hj1,if_neg (by omega)]
      · rw [if_neg h1,Hp.get_n,Hp.get_n,Hp.get_setF f r _ _ o (by omega)]
        by_cases hj : j = 0
        · subst hj; rw [if_pos rfl,if_neg (fun e => hi e.symm),if_pos rfl]
        · rw [if_neg hj,if_neg hj]
          by_cases hj1 : j % 2 = 1
          · rw [if_pos hj1,if_pos hj1,if_neg (by omega)]
          · rw [if_neg hj1,if_neg hj1]
            by_cases e : j = i
            · subst e; simp
            · rw [if_neg e,if_neg (by omega)]
  | f + 1,.e,i,j,o,h => by
    rw [Hp.setF_e,Hp.get_setF (f + 1) (.n none .e .e) i j o h]
    congr 1
    rw [Hp.get_n]
    split
    · rfl
    · split <;> rfl
termination_by f t => (f,match t with | .e => 1 | _ => 0)
theorem H.get_set (h : H) (i : Nat) (o : IObj) (j : Nat) : (h.set i o).get j = if j = i then some o else h.get j := Hp.get_setF _ _ _ _ _ (Nat.lt_succ_self _)
theorem H.get_push (h : H) (o : IObj) (j : Nat) : (h.push o).get j = if j = h.n then some o else h.get j := Hp.get_setF _ _ _ _ _ (Nat.lt_succ_self _)
theorem H.n_set (h : H) (i : Nat) (o : IObj) : (h.set i o).n = h.n := rfl
theorem H.n_push (h : H) (o : IObj) : (h.push o).n = h.n + 1 := rfl

def Dom (φ : Emb) (n : Nat) : Prop := ∀ b bi,φ b = some bi → b < n

theorem Rel.upd {C : Cont} (hR : Rel p φ C w) {b : Nat} {bi : BI} {ob ob' : IObj} (hb : φ b = some bi) (hC : C b = some ob) (hrw : rwO ob = true) (hl : liveO ob = true) {w' : World}
    (hw : ∀ k,k ≠ bi.r → w'.heap[k]? = w.heap[k]?) (hB : BlockRel p φ bi w' ob') : Rel p φ (fun j => if j = b then some ob' else C j) w' := by
  constructor
  · intro c ci hc
    by_cases e : c = b
    · subst e
      rw [hb] at hc
      cases hc
      exact ⟨ob',by simp,hB⟩
    · obtain ⟨oc,hoc,hr⟩ := hR.blk c ci hc
      refine ⟨oc,by simp [e,hoc],?_⟩
      by_cases hlc : liveO oc = true
      · exact hr.same (hw _ (Ne.symm (hR.inj b c bi ci ob oc hb hc hC hoc (Ne.symm e) hrw hlc)))
      · cases oc <;> simp [liveO] at hlc
        exact .dead
  · intro c d ci di oc od hc hd hoc hod hne hrwc hld
    by_cases e1 : c = b
    · subst e1
      rw [hb] at hc
      cases hc
      have e2 : d ≠ c := Ne.symm hne
      simp only [e2,if_false] at hod
      exact hR.inj c d bi di ob od hb hd hC hod hne hrw hld
    · simp only [e1,if_false] at hoc
      by_cases e2 : d = b
      · subst e2
        rw [hb] at hd
        cases hd
        exact hR.inj c d ci bi oc ob hc hb hoc hC hne hrwc hl
      · simp only [e2,if_false] at hod
        exact hR.inj c d ci di oc od hc hd hoc hod hne hrwc hld
theorem owned_upd {C : Cont} {b : Nat} {ob ob' : IObj} (hC : C b = some ob) (hrw : rwO ob = true) {r : Nat} (h : Owned φ (fun j => if j = b then some ob' else C j) r) : Owned φ C r := by
  obtain ⟨c,ci,oc,hc,hoc,hrwc,rfl⟩ := h
  by_cases e : c = b
  · subst e; exact ⟨c,ci,ob,hc,hC,hrw,rfl⟩
  · exact ⟨c,ci,oc,hc,by simpa [e] using hoc,hrwc,rfl⟩

theorem rw_live : ∀ {o : IObj},rwO o = true → liveO o = true := by intro o; cases o <;> simp [rwO,liveO]
theorem uses_upd {C : Cont} {b : Nat} {ob ob' : IObj} (hC : C b = some ob) (hl : liveO ob = true) {r : Nat} (h : Uses φ (fun j => if j = b then some ob' else C j) r) : Uses φ C r := by
  obtain ⟨c,ci,oc,hc,hoc,hrwc,rfl⟩ := h
  by_cases e : c = b
  · subst e; exact ⟨c,ci,ob,hc,hC,hl,rfl⟩
  · exact ⟨c,ci,oc,hc,by simpa [e] using hoc,hrwc,rfl⟩
theorem Owned.uses {C : Cont} {r : Nat} (h : Owned φ C r) : Uses φ C r := by
  obtain ⟨c,ci,oc,hc,hoc,hrwc,rfl⟩ := h
  exact ⟨c,ci,oc,hc,hoc,rw_live hrwc,rfl⟩

theorem Rel.new {C : Cont} {n : Nat} (hR : Rel p φ C w) (hd : Dom φ n) {bi : BI} {ob : IObj} (hfr : ∀ c ci oc,φ c = some ci → C c = some oc → liveO oc = true → ci.r ≠ bi.r) {w' : World}
    (hw : ∀ c ci oc,φ c = some ci → C c = some oc → liveO oc = true → w'.heap[ci.r]? = w.heap[ci.r]?)
    (hB : BlockRel p (φ.put n bi) bi w' ob) : Rel p (φ.put n bi) (fun j => if j = n then some ob else C j) w' := by
  have hn : φ n = none := by
    cases h : φ n with
    | none => rfl
    | some x => exact absurd (hd n x h) (by omega)
  have old : ∀ c ci,φ.put n bi c = some ci → c ≠ n → φ c = some ci := fun c ci h e => by rwa [Emb.put_ne e] at h
  have rwlive : ∀ o : IObj,rwO o = true → liveO o = true := by intro o; cases o <;> simp [rwO,liveO]
  constructor
  · intro c ci hc
    by_cases e : c = n
    · subst e
      rw [Emb.put_self] at hc
      cases hc
      exact ⟨ob,by simp,hB⟩
    · have hc' := old c ci hc e
      obtain ⟨oc,hoc,hrc⟩ := hR.blk c ci hc'
      refine ⟨oc,by simp [e,hoc],?_⟩
      by_cases hlc : liveO oc = true
      · exact (hrc.same (hw c ci oc hc' hoc hlc)).mono (Emb.sub_put hn)
      · cases oc <;> simp [liveO] at hlc
        exact .dead
  · intro c d ci di oc od hc hd' hoc hod hne hrwc hld
    by_cases e1 : c = n
    · subst e1
      rw [Emb.put_self] at hc
      cases hc
      have e2 : d ≠ c := Ne.symm hne
      simp only [e2,if_false] at hod
      exact Ne.symm (hfr d di od (old d di hd' e2) hod hld)
    · simp only [e1,if_false] at hoc
      have hc' := old c ci hc e1
      by_cases e2 : d = n
      · subst e2
        rw [Emb.put_self] at hd'
        cases hd'
        exact hfr c ci oc hc' hoc (rwlive _ hrwc)
      · simp only [e2,if_false] at hod
        exact hR.inj c d ci di oc od hc' (old d di hd' e2) hoc hod hne hrwc hld
theorem Rel.lt {C : Cont} (hR : Rel p φ C w) {c : Nat} {ci : BI} {oc : IObj} (hc : φ c = some ci) (hoc : C c = some oc) (hl : liveO oc = true) : ci.r < w.heap.size := by
  obtain ⟨o2,ho2,hr2⟩ := hR.blk c ci hc
  rw [hoc] at ho2
  cases ho2
  exact hr2.lt hl
theorem Gr.new {C C0 : Cont} {n : Nat} (hd : Dom φ n) {bi : BI} {ob : IObj} (hown : bi.r < w.heap.size → Owned φ C0 bi.r) (hC : ∀ c oc,C c = some oc → liveO oc = true → C0 c = some oc) :
    Gr φ C0 n w (φ.put n bi) (fun j => if j = n then some ob else C j) (n + 1) := by
  refine ⟨fun b hb => Emb.put_ne (by omega),fun b ci hb => ?_,by omega,fun r hr' ho => ?_,fun r hr' ho => ?_⟩
  · by_cases e : b = n
    · omega
    · rw [Emb.put_ne e] at hb; have := hd b ci hb; omega
  · obtain ⟨c,ci,oc,hc,hoc,hrwc,rfl⟩ := ho
    by_cases e : c = n
    · subst e; rw [Emb.put_self] at hc; cases hc; exact hown hr'
    · rw [Emb.put_ne e] at hc
      exact ⟨c,ci,oc,hc,hC c oc (by simpa [e] using hoc) (rw_live hrwc),hrwc,rfl⟩
  · obtain ⟨c,ci,oc,hc,hoc,hrwc,rfl⟩ := ho
    by_cases e : c = n
    · subst e; rw [Emb.put_self] at hc; cases hc; exact (hown hr').uses
    · rw [Emb.put_ne e] at hc
      exact ⟨c,ci,oc,hc,hC c oc (by simpa [e] using hoc) hrwc,hrwc,rfl⟩
theorem Rel.kill {h : H} (hR : Rel p φ h.get w) {b : Nat} {bi : BI} {ob : IObj} (hb : φ b = some bi) (hC : h.get b = some ob) (hrw : rwO ob = true) (hl : liveO ob = true) {w' : World}
    (hw : ∀ k,k ≠ bi.r → w'.heap[k]? = w.heap[k]?) : Rel p φ (h.kill b).get w' := by
  have : (h.kill b).get = fun j => if j = b then some .dead else h.get j := by funext j; exact H.get_set ..
  rw [this]
  exact hR.upd hb hC hrw hl hw .dead

def Post (p : Pg) (φ : Emb) (h : H) (w : World) (v : Value) (h1 : H) (v' : Value) (w' : World) : Prop :=
  ∃ φ',Gr φ h.get h.n w φ' h1.get h1.n ∧ Fr φ h.get w w' ∧ Rel p φ' h1.get w' ∧ VP φ' v v'

theorem oneCell_of_isCell {v : Value} (h : isCell v = true) : v.oneCell' = true := by cases v <;> simp_all [isCell,Value.oneCell']
theorem VL.isCell_right {l l' : List Value} (h : VL φ l l') (hc : ∀ x ∈ l,isCell x = true) : ∀ y ∈ l',isCell y = true := by
  intro y hy
  obtain ⟨i,hi⟩ := List.getElem?_of_mem hy
  have hil : i < l.length := h.1 ▸ (List.getElem?_eq_some_iff.1 hi).1
  exact ((h.2 i _ y (List.getElem?_eq_getElem hil) hi).isCell (hc _ (List.getElem_mem hil))).1

theorem writeAt_inv {h h1 : H} {b off : Nat} {new : List Value} (hw : writeAt h b off new = some h1) :
    ∃ vs ty,h.get b = some (.cells vs ty false) ∧ off + new.length ≤ vs.length ∧ h1 = h.set b (.cells (putAt vs off new) ty false) := by
  unfold writeAt at hw
  split at hw
  · rename_i vs ty he
    split at hw
    · cases hw; exact ⟨vs,ty,he,by assumption,rfl⟩
    · cases hw
  · cases hw

theorem write_sim {h h1 : H} {b off : Nat} {bi : BI} {new new' : List Value} (hw : writeAt h b off new = some h1) (hb : φ b = some bi) (hR : Rel p φ h.get w) (hd : Dom φ h.n) (hv : VL φ new new')
    (hc : ∀ x ∈ new,isCell x = true) :
    ∃ w',(storeCells ⟨bi.r,bi.o + off,none⟩ new').run P w = .ok () w' ∧ Rel p φ h1.get w' ∧ Fr φ h.get w w' ∧ Gr φ h.get h.n w φ h1.get h1.n := by
  obtain ⟨vs,ty,hC,hle,rfl⟩ := writeAt_inv hw
  obtain ⟨ob,hC',hr⟩ := hR.blk b bi hb
  rw [hC] at hC'
  cases hC'
  cases hr with
  | @cells _ _ _ cs ty' fr i hi hes hisz hww hs hsz hvv hcell hfr hj =>
    have hfr0 := hfr rfl
    subst hfr0
    have hnl : new'.length = new.length := hv.1.symm
    have hfit : bi.o + off + 0 + new'.length ≤ cs.size := by omega
    have hst := run_storeCells_at P bi.r (bi.o + off) ty' new' 0 cs w hww hfit (fun x hx => oneCell_of_isCell (hv.isCell_right hc x hx))
    simp only [Nat.add_zero] at hst
    have hsz' : (cs.toList.take (bi.o + off) ++ new' ++ cs.toList.drop (bi.o + off + new'.length)).toArray.size = bi.s := by
      simp
      omega
    refine ⟨_,hst,?_,?_,?_⟩
    · have hset : (h.set b (.cells (putAt vs off new) ty false)).get = fun j => if j = b then some (.cells (putAt vs off new) ty false) else h.get j := by
        funext j; exact H.get_set ..
      rw [hset]
      refine hR.upd hb hC rfl rfl (fun k hk => setRow_other w bi.r k _ hk) ?_
      refine .cells hi hes (by rw [putAt_length hle]; exact hisz) (setRow_heap w bi.r cs _ ty' (0,0) hww) hsz' (by rw [putAt_length hle]; exact hsz) ?_ (putAt_isCell hcell hc) (fun _ => rfl) (fun _ x hx => (mem_row (by omega) (by omega) (by simp; omega) hx).elim (hj rfl x) (hv.cellR hc x))
      rw [putAt_length hle]
      have e : ((cs.toList.take (bi.o + off) ++ new' ++ cs.toList.drop (bi.o + off + new'.length)).drop bi.o).take vs.length = putAt ((cs.toList.drop bi.o).take vs.length) off new' := by
        unfold putAt
        have hcl : cs.toList.length = bi.s := by simpa using hs
        apply List.ext_getElem?
        intro j
        simp only [List.getElem?_take,List.getElem?_drop,List.getElem?_append,List.length_take,List.length_append,List.length_drop,hcl]
        repeat' split
        all_goals first
          | rfl
          | (exfalso; omega)
          | (congr 1; omega)
      rw [show (cs.toList.take (bi.o + off) ++ new' ++ cs.toList.drop (bi.o + off + new'.length)).toArray.toList = cs.toList.take (bi.o + off) ++ new' ++ cs.toList.drop (bi.o + off + new'.length) from rfl,e]
      exact hvv.putAt hv off
    · exact ⟨rfl,rfl,rfl,by simp [World.setRow],fun r hr ho => setRow_other w bi.r r _ (fun e => ho ⟨b,bi,_,hb,hC,rfl,e.symm⟩)⟩
    · have hset : (h.set b (.cells (putAt vs off new) ty false)).get = fun j => if j = b then some (.cells (putAt vs off new) ty false) else h.get j := by
        funext j; exact H.get_set ..
      refine ⟨fun _ _ => rfl,hd,Nat.le_refl _,fun r hr ho => ?_,fun r hr ho => ?_⟩
      · rw [hset] at ho
        exact owned_upd hC rfl ho
      · rw [hset] at ho
        exact uses_upd hC rfl ho
end
end Go.L1
