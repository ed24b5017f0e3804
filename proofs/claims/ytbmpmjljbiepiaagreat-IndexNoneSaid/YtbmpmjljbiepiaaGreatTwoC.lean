/- Texts of a proof: no condition. -/
import Derived.Test.YtbmpmjljbiepiaaGreatTwoB
import Derived.Lib.Overlaps
set_option autoImplicit true
set_option relaxedAutoImplicit true
set_option linter.all false
set_option linter.unusedVariables false
set_option linter.unusedSimpArgs false
/-! L2, third part: how the named operations answer; tables that differ in their specs alone. -/
namespace Go.L1
open Go
theorem wrapI {n : Int} (h0 : -9223372036854775808 ≤ n) (h1 : n ≤ 9223372036854775807) : IntKind.i64.wrap n = n := by
  rw [IntKind.wrap_i64]; omega
theorem idxN_nat (k : IntKind) (n : Nat) : idxN (.int k (n : Int)) = some n := by simp [idxN]
section
variable {ty : Nat → Option TyI}
theorem bI_eql (a b : Int) : binV ty (tyD (.int .i64)) .eql (.int .i64 a) (.int .i64 b) = some (.bool (a == b)) := rfl
theorem bI_neq (a b : Int) : binV ty (tyD (.int .i64)) .neq (.int .i64 a) (.int .i64 b) = some (.bool (a != b)) := rfl
theorem bI_lss (a b : Int) : binV ty (tyD (.int .i64)) .lss (.int .i64 a) (.int .i64 b) = some (.bool (decide (a < b))) := rfl
theorem bI_leq (a b : Int) : binV ty (tyD (.int .i64)) .leq (.int .i64 a) (.int .i64 b) = some (.bool (decide (a ≤ b))) := rfl
theorem bI_gtr (a b : Int) : binV ty (tyD (.int .i64)) .gtr (.int .i64 a) (.int .i64 b) = some (.bool (decide (a > b))) := rfl
theorem bI_geq (a b : Int) : binV ty (tyD (.int .i64)) .geq (.int .i64 a) (.int .i64 b) = some (.bool (decide (a ≥ b))) := rfl
theorem bI_add (a b : Int) : binV ty (tyD (.int .i64)) .add (.int .i64 a) (.int .i64 b) = some (.int .i64 (IntKind.i64.wrap (a + b))) := rfl
theorem bI_sub (a b : Int) : binV ty (tyD (.int .i64)) .sub (.int .i64 a) (.int .i64 b) = some (.int .i64 (IntKind.i64.wrap (a - b))) := rfl
end
section
variable {C : Cont} {e es b o n c : Nat}
theorem rSl_lo (lo : Nat) (hc : c ≠ uc) (h : lo ≤ n) (hnc : n ≤ c) : rSl C e es (.slice (some ⟨b, o, none⟩) n c) (some (.int .i64 (lo : Int))) none none = some (.slice (some ⟨b, o + lo * es, none⟩) (n - lo) (c - lo)) := by
  simp [rSl, rSlice, optIdx, idxN_nat, roomOf, hc, h, hnc]
theorem rSl_hi (hi : Nat) (hc : c ≠ uc) (h : hi ≤ c) : rSl C e es (.slice (some ⟨b, o, none⟩) n c) none (some (.int .i64 (hi : Int))) none = some (.slice (some ⟨b, o, none⟩) hi c) := by
  simp [rSl, rSlice, optIdx, idxN_nat, roomOf, hc, h]
theorem rSl_lo_uc (lo : Nat) {vs : List Value} {ro : Bool} (hC : C b = some (.cells vs e ro)) (hes : es ≠ 0) (h : lo ≤ n) : rSl C e es (.slice (some ⟨b, o, none⟩) n uc) (some (.int .i64 (lo : Int))) none none = some (.slice (some ⟨b, o + lo * es, none⟩) (n - lo) uc) := by
  simp [rSl, rSlice, optIdx, idxN_nat, roomOf, hC, hes, h]
  omega
end
theorem nt_0 (v : Value) (l : List Value) : nt (v :: l) 0 = v := rfl
theorem nt_s (v : Value) (l : List Value) (n : Nat) : nt (v :: l) (n + 1) = nt l n := rfl

section
variable {p q : Pg} {φ : Emb}
theorem BlockRel.swap (hty : p.ty = q.ty) (hfn : p.fn = q.fn) {bi : BI} {w : World} {ob : IObj} (h : BlockRel p φ bi w ob) : BlockRel q φ bi w ob := by
  cases h with
  | cells hi hes hisz hw hss hsz hv hcell hfr hj => exact .cells (by rw [← hty]; exact hi) hes hisz hw hss hsz hv hcell hfr hj
  | map hw hl hk => exact .map hw hl hk
  | loop hw hf hps hpl hasg hbody hN hT => exact .loop hw (by rw [← hfn]; exact hf) hps hpl hasg hbody hN hT
  | dead => exact .dead
theorem Rel.swap (hty : p.ty = q.ty) (hfn : p.fn = q.fn) {C : Cont} {w : World} (h : Rel p φ C w) : Rel q φ C w :=
  ⟨fun b bi hb => (h.blk b bi hb).imp fun _ h => ⟨h.1, h.2.swap hty hfn⟩, h.inj⟩
theorem Fits.swap {P : Program} (hty : p.ty = q.ty) (hfn : p.fn = q.fn) (h : Fits p P) : Fits q P :=
  ⟨fun t i hi => h.ty t i (by rw [hty]; exact hi), fun f fn hf => h.fn f fn (by rw [hfn]; exact hf), fun f fn hf => h.ext f fn (by rw [hfn]; exact hf), h.mixed⟩
end

/-- Two heaps that read alike. -/
theorem Rel.get {p : Pg} {φ : Emb} {C C' : Cont} {w : World} (h : Rel p φ C w) (e : ∀ b, C b = C' b) : Rel p φ C' w := by
  have : C = C' := funext e
  rw [← this]; exact h

/-- A step of another start: the same real worlds, what is alike said anew. -/
theorem post_conv {p p0 : Pg} {φ φ2 : Emb} {h h2 hr h1 : H} {w w' : World} {v v2 v' : Value} (g : Gr φ h.get h.n w φ2 h2.get h2.n) (hn : hr.n = h1.n) (hg : ∀ c oc, h1.get c = some oc → liveO oc = true → hr.get c = some oc)
    (hR : ∀ φ3, Gr φ2 h2.get h2.n w φ3 hr.get hr.n → Rel p0 φ3 hr.get w' → Rel p φ3 h1.get w') (hv : ∀ φ3, Gr φ2 h2.get h2.n w φ3 hr.get hr.n → VP φ3 v2 v' → VP φ3 v v') (hP : Post p0 φ2 h2 w v2 hr v' w') : Post p φ h w v h1 v' w' := by
  obtain ⟨φ3, g3, f3, R3, hv3⟩ := hP
  refine ⟨φ3, Gr.trans g (Nat.le_refl _) ⟨g3.old, fun b bi hb => by rw [← hn]; exact g3.dom b bi hb, by rw [← hn]; exact g3.le, fun r hr' ho => g3.own r hr' ?_, fun r hr' ho => g3.use r hr' ?_⟩, ?_, hR φ3 g3 R3, hv φ3 g3 hv3⟩
  · obtain ⟨c, ci, oc, hc, hoc, hrw, e⟩ := ho
    exact ⟨c, ci, oc, hc, hg c oc hoc (rw_live hrw), hrw, e⟩
  · obtain ⟨c, ci, oc, hc, hoc, hl, e⟩ := ho
    exact ⟨c, ci, oc, hc, hg c oc hoc hl, hl, e⟩
  · exact ⟨f3.os, f3.tape, f3.output, f3.size, fun r hr' ho => f3.keep r hr' fun ho2 => ho (g.own r hr' ho2)⟩
theorem junk_VL {φ : Emb} : ∀ {k : Nat} {l : List Value}, l.length = k → (∀ x ∈ l, isCell x = true) → VL φ (List.replicate k .nilIface) l
  | 0, [], _, _ => VL.nil φ
  | k + 1, x :: l, hl, hc => VL.cons (.nilIface (hc x (by simp))) (junk_VL (by simpa using hl) fun y hy => hc y (by simp [hy]))
  | 0, _ :: _, hl, _ => by simp at hl
  | k + 1, [], hl, _ => by simp at hl

/-- slices.overlaps of two slices in two blocks. -/
def ovS (args : List Value) (h : H) : Option (Value × H × List Nat) :=
  match args with
  | [.slice (some ⟨a, _, none⟩) n _, .slice (some ⟨b, _, none⟩) m _] =>
    if n ≠ 0 ∧ m ≠ 0 ∧ a ≠ b then
      match h.get a, h.get b with
      | some (.cells _ _ false), some (.cells vs _ _) => if vs.length = 0 then none else some (.bool false, h, [])
      | _, _ => none
    else none
  | _ => none

theorem ov_sim {p : Pg} {P : Program} (hF : Fits p P) {f tS tR e : Nat} {ei : TyI} {fn : Func} (hf : P.funcs[f]? = some fn) (hname : (fn.name == "runtime.NumGoroutine") = false) (hb : fn.body.isNone = true) (hn : Extern.findNext fn = none)
    (he : Extern.find fn = some (Extern.SlicesOverlaps.overlaps #[tS, tS] #[tR])) (hu : P.underlying tS = some (.slice e)) (hei : p.ty e = some ei) :
    ∀ args h v h1 lg, ovS args h = some (v, h1, lg) → ∀ φ w (args' : Array Value), Rel p φ h.get w → Dom φ h.n → VPL φ args args'.toList →
      ∃ v' w', (callFunc f args').run P w = .ok (.value v') w' ∧ Post p φ h w v h1 v' w' ∧ NoYield args := by
  intro args h v h1 lg hh φ w args' hR hd ha
  unfold ovS at hh
  split at hh
  case h_2 => cases hh
  rename_i a oa n ca b ob m cb
  split at hh
  case isFalse => cases hh
  rename_i hc
  obtain ⟨hn0, hm0, hab⟩ := hc
  split at hh
  case h_2 => cases hh
  rename_i vsa tya vsb tyb rob hCa hCb
  split at hh
  · cases hh
  rename_i hvl
  cases hh
  obtain ⟨l⟩ := args'
  match l, ha with
  | [y1, y2], ha =>
    obtain ⟨bia, a', ca', hba, rfl, hna, haa, _⟩ := (ha.2 0 _ _ rfl rfl).sliceI
    obtain ⟨bib, b', cb', hbb, rfl, hnb, hab', _⟩ := (ha.2 1 _ _ rfl rfl).sliceI
    have haa' : a' = ⟨bia.r, bia.o + oa, none⟩ := haa.resolve_left (by omega)
    have hbb' : b' = ⟨bib.r, bib.o + ob, none⟩ := hab'.resolve_left (by omega)
    subst haa' hbb'
    obtain ⟨o1, ho1, hr1⟩ := hR.blk a bia hba
    obtain ⟨o2, ho2, hr2⟩ := hR.blk b bib hbb
    rw [hCa] at ho1; cases ho1
    rw [hCb] at ho2; cases ho2
    have hne := hR.inj a b bia bib _ _ hba hbb hCa hCb hab rfl rfl
    cases hr1 with
    | @cells _ _ _ csa tya' fra ia hia hesa hisza hwa hsa hsza hva hcella hfra hja =>
      cases hr2 with
      | @cells _ _ _ csb tyb' frb ib hib hesb hiszb hwb hsb hszb hvb hcellb hfrb hjb =>
        have hf0 := hfra rfl
        subst hf0
        refine ⟨.bool false, w, ?_, ⟨φ, Gr.refl w hd, Fr.refl _ _ _, hR, (VR.bool _).vp⟩, fun l hl => by simp at hl⟩
        rw [run_callFunc_extern hf hname hb hn he]
        have := Lib.run_overlaps_apart (P := P) w tS tR e hu ei.size (fun w' => run_size (hF.ty _ _ hei) w') ⟨bia.r, bia.o + oa, none⟩ ⟨bib.r, bib.o + ob, none⟩ n ca' m cb' hne tya' tyb' csa.size csb.size
          (by simp [World.shape?, hwa]) (by simp [World.shape?, hwb]) (by omega) (by simp [World.frozen?, hwa]) (by simp [World.frozen?, hwa])
        rw [this]
        rfl
  | [], ha => have := ha.1; simp at this
  | [_], ha => have := ha.1; simp at this
  | _ :: _ :: _ :: _, ha => have := ha.1; simp at this
end Go.L1
