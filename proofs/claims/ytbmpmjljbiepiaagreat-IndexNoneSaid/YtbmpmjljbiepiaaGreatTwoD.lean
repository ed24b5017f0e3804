/- Texts of a proof: no condition. -/
import Derived.Test.YtbmpmjljbiepiaaGreatTwoC
set_option autoImplicit true
set_option relaxedAutoImplicit true
set_option linter.all false
set_option linter.unusedVariables false
set_option linter.unusedSimpArgs false
/-! L2, fourth part: that the tables fit the program: by facts that the kernel can look up. -/
namespace Go.L1
open Go
def fldsB (P : Program) : TypeDesc → Bool
  | .struct fs => fs.toList.all fun f => (P.info? f.type).isSome
  | .array _ e => (P.info? e).isSome
  | _ => true
theorem tyFits_mk {P : Program} {t : Nat} {i : TyI} (x : TypeInfo) (z : Value) (h1 : P.info? t = some x) (h2 : Nat.beq x.size i.size = true) (h3 : Nat.beq x.bytes i.bytes = true) (h4 : x.zero = some z) (h5 : cellsOf z = some i.zero) (h6 : pureC 6 z = true)
    (h7 : isAggV z = isAggD i.desc) (h8 : Nat.beq i.zero.length i.size = true) (h9 : P.underlying t = some i.desc) (h10 : fldsB P i.desc = true) (h11 : (!i.eqok || (!(P.eqGuardType P.depth t) && !(P.stoodInHeld t))) = true) : TyFits P t i := by
  refine ⟨⟨x, h1, Nat.eq_of_beq_eq_true h2, Nat.eq_of_beq_eq_true h3, ⟨z, h4, h5, h6, h7⟩, Nat.eq_of_beq_eq_true h8⟩, h9, fun fs hd f hf => ?_, fun n e hd => ?_, fun he => ?_⟩
  · rw [hd] at h10
    exact Option.isSome_iff_exists.1 (List.all_eq_true.1 h10 f hf)
  · rw [hd] at h10
    exact Option.isSome_iff_exists.1 h10
  · rw [he] at h11
    simpa using h11
/-- what is asked of a function of the table -/
structure FnFit (P : Program) (f : Nat) (fn : Func) : Prop where
  at_ : P.funcs[f]? = some fn
  ok : funcOk fn = true
  ext : fn.body = none → fn.name = "internal/bytealg.abigen_runtime_cmpstring" → Extern.findNext fn = none ∧ Extern.find fn = some Extern.BytealgCompare.compare
theorem fnFit_body {P : Program} {f : Nat} {fn : Func} (h1 : P.funcs[f]? = some fn) (h2 : funcOk fn = true) (h3 : fn.body.isSome = true) : FnFit P f fn := ⟨h1, h2, fun h => by rw [h] at h3; cases h3⟩
theorem fnFit_other {P : Program} {f : Nat} {fn : Func} (h1 : P.funcs[f]? = some fn) (h2 : funcOk fn = true) (h3 : (fn.name == "internal/bytealg.abigen_runtime_cmpstring") = false) : FnFit P f fn :=
  ⟨h1, h2, fun _ h => by rw [h] at h3; simp at h3⟩
theorem fits_mk {p : Pg} {P : Program} {tt : Tr TyI} {ft : Tr Func} (h1 : ∀ t, p.ty t = tt.get 40 t) (h2 : ∀ f, p.fn f = ft.get 40 f) (ht : tt.All (TyFits P)) (hf : ft.All (FnFit P)) (hm : P.follows .mixedOrders = true) : Fits p P :=
  ⟨fun t i h => by rw [h1] at h; exact ht.get h, fun f fn h => by rw [h2] at h; exact ⟨(hf.get h).at_, (hf.get h).ok⟩, fun f fn h => by rw [h2] at h; exact (hf.get h).ext, hm⟩
end Go.L1
