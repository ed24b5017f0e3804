/- Texts of a proof: no condition. -/
import Derived.Test.YtbmpmjljbiepiaaGreatTwoD
import Derived.Test.YtbmpmjljbiepiaaGreatSeatPg
import Derived.KernelRfl
set_option autoImplicit true
set_option relaxedAutoImplicit true
set_option linter.all false
set_option linter.unusedVariables false
set_option linter.unusedSimpArgs false
set_option maxRecDepth 100000
set_option linter.unusedVariables false
namespace Go.L1
open Go Go.Proofs
theorem tf_255 : TyFits Tryz.prog 255 ⟨Tryz.t255.desc, Tryz.t255.size, Tryz.t255.bytes, [(.int .u64 0)], false⟩ :=
  tyFits_mk Tryz.t255 ((Tryz.t255.zero).getD ud) (by kernel_rfl) (by kernel_rfl) (by kernel_rfl) (by kernel_rfl) (by kernel_rfl) (by kernel_rfl) (by kernel_rfl) (by kernel_rfl) (by kernel_rfl) (by kernel_rfl) (by kernel_rfl)
theorem tf_127 : TyFits Tryz.prog 127 ⟨Tryz.t127.desc, Tryz.t127.size, Tryz.t127.bytes, [.nilFunc], false⟩ :=
  tyFits_mk Tryz.t127 ((Tryz.t127.zero).getD ud) (by kernel_rfl) (by kernel_rfl) (by kernel_rfl) (by kernel_rfl) (by kernel_rfl) (by kernel_rfl) (by kernel_rfl) (by kernel_rfl) (by kernel_rfl) (by kernel_rfl) (by kernel_rfl)
theorem tf_191 : TyFits Tryz.prog 191 ⟨Tryz.t191.desc, Tryz.t191.size, Tryz.t191.bytes, [.nilFunc], false⟩ :=
  tyFits_mk Tryz.t191 ((Tryz.t191.zero).getD ud) (by kernel_rfl) (by kernel_rfl) (by kernel_rfl) (by kernel_rfl) (by kernel_rfl) (by kernel_rfl) (by kernel_rfl) (by kernel_rfl) (by kernel_rfl) (by kernel_rfl) (by kernel_rfl)
theorem tf_63 : TyFits Tryz.prog 63 ⟨Tryz.t62.desc, Tryz.t63.size, Tryz.t63.bytes, [(.slice none 0 0)], true⟩ :=
  tyFits_mk Tryz.t63 ((Tryz.t63.zero).getD ud) (by kernel_rfl) (by kernel_rfl) (by kernel_rfl) (by kernel_rfl) (by kernel_rfl) (by kernel_rfl) (by kernel_rfl) (by kernel_rfl) (by kernel_rfl) (by kernel_rfl) (by kernel_rfl)
theorem tf_287 : TyFits Tryz.prog 287 ⟨Tryz.t287.desc, Tryz.t287.size, Tryz.t287.bytes, [.nilFunc], false⟩ :=
  tyFits_mk Tryz.t287 ((Tryz.t287.zero).getD ud) (by kernel_rfl) (by kernel_rfl) (by kernel_rfl) (by kernel_rfl) (by kernel_rfl) (by kernel_rfl) (by kernel_rfl) (by kernel_rfl) (by kernel_rfl) (by kernel_rfl) (by kernel_rfl)
theorem tf_159 : TyFits Tryz.prog 159 ⟨Tryz.t159.desc, Tryz.t159.size, Tryz.t159.bytes, [.nilFunc], false⟩ :=
  tyFits_mk Tryz.t159 ((Tryz.t159.zero).getD ud) (by kernel_rfl) (by kernel_rfl) (by kernel_rfl) (by kernel_rfl) (by kernel_rfl) (by kernel_rfl) (by kernel_rfl) (by kernel_rfl) (by kernel_rfl) (by kernel_rfl) (by kernel_rfl)
theorem tf_223 : TyFits Tryz.prog 223 ⟨Tryz.t223.desc, Tryz.t223.size, Tryz.t223.bytes, [.nilFunc], false⟩ :=
  tyFits_mk Tryz.t223 ((Tryz.t223.zero).getD ud) (by kernel_rfl) (by kernel_rfl) (by kernel_rfl) (by kernel_rfl) (by kernel_rfl) (by kernel_rfl) (by kernel_rfl) (by kernel_rfl) (by kernel_rfl) (by kernel_rfl) (by kernel_rfl)
theorem tf_95 : TyFits Tryz.prog 95 ⟨Tryz.t95.desc, Tryz.t95.size, Tryz.t95.bytes, [.nilFunc], false⟩ :=
  tyFits_mk Tryz.t95 ((Tryz.t95.zero).getD ud) (by kernel_rfl) (by kernel_rfl) (by kernel_rfl) (by kernel_rfl) (by kernel_rfl) (by kernel_rfl) (by kernel_rfl) (by kernel_rfl) (by kernel_rfl) (by kernel_rfl) (by kernel_rfl)
theorem tf_31 : TyFits Tryz.prog 31 ⟨Tryz.t31.desc, Tryz.t31.size, Tryz.t31.bytes, [.nilFunc], false⟩ :=
  tyFits_mk Tryz.t31 ((Tryz.t31.zero).getD ud) (by kernel_rfl) (by kernel_rfl) (by kernel_rfl) (by kernel_rfl) (by kernel_rfl) (by kernel_rfl) (by kernel_rfl) (by kernel_rfl) (by kernel_rfl) (by kernel_rfl) (by kernel_rfl)
theorem tf_271 : TyFits Tryz.prog 271 ⟨Tryz.t255.desc, Tryz.t271.size, Tryz.t271.bytes, [(.int .u64 0)], false⟩ :=
  tyFits_mk Tryz.t271 ((Tryz.t271.zero).getD ud) (by kernel_rfl) (by kernel_rfl) (by kernel_rfl) (by kernel_rfl) (by kernel_rfl) (by kernel_rfl) (by kernel_rfl) (by kernel_rfl) (by kernel_rfl) (by kernel_rfl) (by kernel_rfl)
theorem tf_143 : TyFits Tryz.prog 143 ⟨Tryz.t143.desc, Tryz.t143.size, Tryz.t143.bytes, [.nilFunc], false⟩ :=
  tyFits_mk Tryz.t143 ((Tryz.t143.zero).getD ud) (by kernel_rfl) (by kernel_rfl) (by kernel_rfl) (by kernel_rfl) (by kernel_rfl) (by kernel_rfl) (by kernel_rfl) (by kernel_rfl) (by kernel_rfl) (by kernel_rfl) (by kernel_rfl)
theorem tf_207 : TyFits Tryz.prog 207 ⟨Tryz.t207.desc, Tryz.t207.size, Tryz.t207.bytes, [.nilFunc], false⟩ :=
  tyFits_mk Tryz.t207 ((Tryz.t207.zero).getD ud) (by kernel_rfl) (by kernel_rfl) (by kernel_rfl) (by kernel_rfl) (by kernel_rfl) (by kernel_rfl) (by kernel_rfl) (by kernel_rfl) (by kernel_rfl) (by kernel_rfl) (by kernel_rfl)
theorem tf_79 : TyFits Tryz.prog 79 ⟨Tryz.t79.desc, Tryz.t79.size, Tryz.t79.bytes, [.nilFunc], false⟩ :=
  tyFits_mk Tryz.t79 ((Tryz.t79.zero).getD ud) (by kernel_rfl) (by kernel_rfl) (by kernel_rfl) (by kernel_rfl) (by kernel_rfl) (by kernel_rfl) (by kernel_rfl) (by kernel_rfl) (by kernel_rfl) (by kernel_rfl) (by kernel_rfl)
theorem tf_303 : TyFits Tryz.prog 303 ⟨Tryz.t303.desc, Tryz.t303.size, Tryz.t303.bytes, [], false⟩ :=
  tyFits_mk Tryz.t303 ((Tryz.t303.zero).getD ud) (by kernel_rfl) (by kernel_rfl) (by kernel_rfl) (by kernel_rfl) (by kernel_rfl) (by kernel_rfl) (by kernel_rfl) (by kernel_rfl) (by kernel_rfl) (by kernel_rfl) (by kernel_rfl)
theorem tf_175 : TyFits Tryz.prog 175 ⟨Tryz.t175.desc, Tryz.t175.size, Tryz.t175.bytes, [.nilFunc], false⟩ :=
  tyFits_mk Tryz.t175 ((Tryz.t175.zero).getD ud) (by kernel_rfl) (by kernel_rfl) (by kernel_rfl) (by kernel_rfl) (by kernel_rfl) (by kernel_rfl) (by kernel_rfl) (by kernel_rfl) (by kernel_rfl) (by kernel_rfl) (by kernel_rfl)
theorem tf_239 : TyFits Tryz.prog 239 ⟨Tryz.t239.desc, Tryz.t239.size, Tryz.t239.bytes, [.nilFunc], false⟩ :=
  tyFits_mk Tryz.t239 ((Tryz.t239.zero).getD ud) (by kernel_rfl) (by kernel_rfl) (by kernel_rfl) (by kernel_rfl) (by kernel_rfl) (by kernel_rfl) (by kernel_rfl) (by kernel_rfl) (by kernel_rfl) (by kernel_rfl) (by kernel_rfl)
theorem tf_111 : TyFits Tryz.prog 111 ⟨Tryz.t111.desc, Tryz.t111.size, Tryz.t111.bytes, [.nilFunc], false⟩ :=
  tyFits_mk Tryz.t111 ((Tryz.t111.zero).getD ud) (by kernel_rfl) (by kernel_rfl) (by kernel_rfl) (by kernel_rfl) (by kernel_rfl) (by kernel_rfl) (by kernel_rfl) (by kernel_rfl) (by kernel_rfl) (by kernel_rfl) (by kernel_rfl)
theorem tf_47 : TyFits Tryz.prog 47 ⟨Tryz.t47.desc, Tryz.t47.size, Tryz.t47.bytes, [.nilFunc], false⟩ :=
  tyFits_mk Tryz.t47 ((Tryz.t47.zero).getD ud) (by kernel_rfl) (by kernel_rfl) (by kernel_rfl) (by kernel_rfl) (by kernel_rfl) (by kernel_rfl) (by kernel_rfl) (by kernel_rfl) (by kernel_rfl) (by kernel_rfl) (by kernel_rfl)
theorem tf_15 : TyFits Tryz.prog 15 ⟨Tryz.t15.desc, Tryz.t15.size, Tryz.t15.bytes, [(.pointer none)], false⟩ :=
  tyFits_mk Tryz.t15 ((Tryz.t15.zero).getD ud) (by kernel_rfl) (by kernel_rfl) (by kernel_rfl) (by kernel_rfl) (by kernel_rfl) (by kernel_rfl) (by kernel_rfl) (by kernel_rfl) (by kernel_rfl) (by kernel_rfl) (by kernel_rfl)
theorem tf_263 : TyFits Tryz.prog 263 ⟨Tryz.t263.desc, Tryz.t263.size, Tryz.t263.bytes, [.nilFunc], false⟩ :=
  tyFits_mk Tryz.t263 ((Tryz.t263.zero).getD ud) (by kernel_rfl) (by kernel_rfl) (by kernel_rfl) (by kernel_rfl) (by kernel_rfl) (by kernel_rfl) (by kernel_rfl) (by kernel_rfl) (by kernel_rfl) (by kernel_rfl) (by kernel_rfl)
theorem tf_135 : TyFits Tryz.prog 135 ⟨Tryz.t135.desc, Tryz.t135.size, Tryz.t135.bytes, [.nilFunc], false⟩ :=
  tyFits_mk Tryz.t135 ((Tryz.t135.zero).getD ud) (by kernel_rfl) (by kernel_rfl) (by kernel_rfl) (by kernel_rfl) (by kernel_rfl) (by kernel_rfl) (by kernel_rfl) (by kernel_rfl) (by kernel_rfl) (by kernel_rfl) (by kernel_rfl)
theorem tf_199 : TyFits Tryz.prog 199 ⟨Tryz.t199.desc, Tryz.t199.size, Tryz.t199.bytes, [.nilFunc], false⟩ :=
  tyFits_mk Tryz.t199 ((Tryz.t199.zero).getD ud) (by kernel_rfl) (by kernel_rfl) (by kernel_rfl) (by kernel_rfl) (by kernel_rfl) (by kernel_rfl) (by kernel_rfl) (by kernel_rfl) (by kernel_rfl) (by kernel_rfl) (by kernel_rfl)
theorem tf_71 : TyFits Tryz.prog 71 ⟨Tryz.t71.desc, Tryz.t71.size, Tryz.t71.bytes, [.nilFunc], false⟩ :=
  tyFits_mk Tryz.t71 ((Tryz.t71.zero).getD ud) (by kernel_rfl) (by kernel_rfl) (by kernel_rfl) (by kernel_rfl) (by kernel_rfl) (by kernel_rfl) (by kernel_rfl) (by kernel_rfl) (by kernel_rfl) (by kernel_rfl) (by kernel_rfl)
theorem tf_295 : TyFits Tryz.prog 295 ⟨Tryz.t295.desc, Tryz.t295.size, Tryz.t295.bytes, [.nilFunc], false⟩ :=
  tyFits_mk Tryz.t295 ((Tryz.t295.zero).getD ud) (by kernel_rfl) (by kernel_rfl) (by kernel_rfl) (by kernel_rfl) (by kernel_rfl) (by kernel_rfl) (by kernel_rfl) (by kernel_rfl) (by kernel_rfl) (by kernel_rfl) (by kernel_rfl)
theorem tf_167 : TyFits Tryz.prog 167 ⟨Tryz.t166.desc, Tryz.t167.size, Tryz.t167.bytes, [.nilFunc, (.slice none 0 0)], true⟩ :=
  tyFits_mk Tryz.t167 ((Tryz.t167.zero).getD ud) (by kernel_rfl) (by kernel_rfl) (by kernel_rfl) (by kernel_rfl) (by kernel_rfl) (by kernel_rfl) (by kernel_rfl) (by kernel_rfl) (by kernel_rfl) (by kernel_rfl) (by kernel_rfl)
theorem tf_231 : TyFits Tryz.prog 231 ⟨Tryz.t231.desc, Tryz.t231.size, Tryz.t231.bytes, [(.pointer none)], true⟩ :=
  tyFits_mk Tryz.t231 ((Tryz.t231.zero).getD ud) (by kernel_rfl) (by kernel_rfl) (by kernel_rfl) (by kernel_rfl) (by kernel_rfl) (by kernel_rfl) (by kernel_rfl) (by kernel_rfl) (by kernel_rfl) (by kernel_rfl) (by kernel_rfl)
theorem tf_103 : TyFits Tryz.prog 103 ⟨Tryz.t103.desc, Tryz.t103.size, Tryz.t103.bytes, [(.pointer none)], false⟩ :=
  tyFits_mk Tryz.t103 ((Tryz.t103.zero).getD ud) (by kernel_rfl) (by kernel_rfl) (by kernel_rfl) (by kernel_rfl) (by kernel_rfl) (by kernel_rfl) (by kernel_rfl) (by kernel_rfl) (by kernel_rfl) (by kernel_rfl) (by kernel_rfl)
theorem tf_39 : TyFits Tryz.prog 39 ⟨Tryz.t39.desc, Tryz.t39.size, Tryz.t39.bytes, [.nilFunc], false⟩ :=
  tyFits_mk Tryz.t39 ((Tryz.t39.zero).getD ud) (by kernel_rfl) (by kernel_rfl) (by kernel_rfl) (by kernel_rfl) (by kernel_rfl) (by kernel_rfl) (by kernel_rfl) (by kernel_rfl) (by kernel_rfl) (by kernel_rfl) (by kernel_rfl)
theorem tf_279 : TyFits Tryz.prog 279 ⟨Tryz.t278.desc, Tryz.t279.size, Tryz.t279.bytes, [(.string ⟨#[]⟩), (.int .i64 0)], true⟩ :=
  tyFits_mk Tryz.t279 ((Tryz.t279.zero).getD ud) (by kernel_rfl) (by kernel_rfl) (by kernel_rfl) (by kernel_rfl) (by kernel_rfl) (by kernel_rfl) (by kernel_rfl) (by kernel_rfl) (by kernel_rfl) (by kernel_rfl) (by kernel_rfl)
theorem tf_215 : TyFits Tryz.prog 215 ⟨Tryz.t215.desc, Tryz.t215.size, Tryz.t215.bytes, [.nilFunc], false⟩ :=
  tyFits_mk Tryz.t215 ((Tryz.t215.zero).getD ud) (by kernel_rfl) (by kernel_rfl) (by kernel_rfl) (by kernel_rfl) (by kernel_rfl) (by kernel_rfl) (by kernel_rfl) (by kernel_rfl) (by kernel_rfl) (by kernel_rfl) (by kernel_rfl)
theorem tf_87 : TyFits Tryz.prog 87 ⟨Tryz.t87.desc, Tryz.t87.size, Tryz.t87.bytes, [.nilFunc], false⟩ :=
  tyFits_mk Tryz.t87 ((Tryz.t87.zero).getD ud) (by kernel_rfl) (by kernel_rfl) (by kernel_rfl) (by kernel_rfl) (by kernel_rfl) (by kernel_rfl) (by kernel_rfl) (by kernel_rfl) (by kernel_rfl) (by kernel_rfl) (by kernel_rfl)
theorem tf_311 : TyFits Tryz.prog 311 ⟨Tryz.t311.desc, Tryz.t311.size, Tryz.t311.bytes, [(.int .u64 0), (.int .u64 0), (.int .u32 0), (.int .u8 0), (.int .u8 0), (.int .u8 0), (.int .u8 0), .nilFunc, (.pointer none), (.int .i32 0), (.int .i32 0)], false⟩ :=
  tyFits_mk Tryz.t311 ((Tryz.t311.zero).getD ud) (by kernel_rfl) (by kernel_rfl) (by kernel_rfl) (by kernel_rfl) (by kernel_rfl) (by kernel_rfl) (by kernel_rfl) (by kernel_rfl) (by kernel_rfl) (by kernel_rfl) (by kernel_rfl)
theorem tf_183 : TyFits Tryz.prog 183 ⟨Tryz.t182.desc, Tryz.t183.size, Tryz.t183.bytes, [(.int .i64 0), (.int .i64 0), (.string ⟨#[]⟩), (.slice none 0 0)], true⟩ :=
  tyFits_mk Tryz.t183 ((Tryz.t183.zero).getD ud) (by kernel_rfl) (by kernel_rfl) (by kernel_rfl) (by kernel_rfl) (by kernel_rfl) (by kernel_rfl) (by kernel_rfl) (by kernel_rfl) (by kernel_rfl) (by kernel_rfl) (by kernel_rfl)
theorem tf_119 : TyFits Tryz.prog 119 ⟨Tryz.t119.desc, Tryz.t119.size, Tryz.t119.bytes, [.nilFunc], false⟩ :=
  tyFits_mk Tryz.t119 ((Tryz.t119.zero).getD ud) (by kernel_rfl) (by kernel_rfl) (by kernel_rfl) (by kernel_rfl) (by kernel_rfl) (by kernel_rfl) (by kernel_rfl) (by kernel_rfl) (by kernel_rfl) (by kernel_rfl) (by kernel_rfl)
theorem tf_55 : TyFits Tryz.prog 55 ⟨Tryz.t55.desc, Tryz.t55.size, Tryz.t55.bytes, [.nilFunc], false⟩ :=
  tyFits_mk Tryz.t55 ((Tryz.t55.zero).getD ud) (by kernel_rfl) (by kernel_rfl) (by kernel_rfl) (by kernel_rfl) (by kernel_rfl) (by kernel_rfl) (by kernel_rfl) (by kernel_rfl) (by kernel_rfl) (by kernel_rfl) (by kernel_rfl)
theorem tf_23 : TyFits Tryz.prog 23 ⟨Tryz.t23.desc, Tryz.t23.size, Tryz.t23.bytes, [.nilFunc], false⟩ :=
  tyFits_mk Tryz.t23 ((Tryz.t23.zero).getD ud) (by kernel_rfl) (by kernel_rfl) (by kernel_rfl) (by kernel_rfl) (by kernel_rfl) (by kernel_rfl) (by kernel_rfl) (by kernel_rfl) (by kernel_rfl) (by kernel_rfl) (by kernel_rfl)
theorem tf_7 : TyFits Tryz.prog 7 ⟨Tryz.t7.desc, Tryz.t7.size, Tryz.t7.bytes, [(.int .i64 0), (.int .i64 0), (.bool false), (.int .u8 0)], true⟩ :=
  tyFits_mk Tryz.t7 ((Tryz.t7.zero).getD ud) (by kernel_rfl) (by kernel_rfl) (by kernel_rfl) (by kernel_rfl) (by kernel_rfl) (by kernel_rfl) (by kernel_rfl) (by kernel_rfl) (by kernel_rfl) (by kernel_rfl) (by kernel_rfl)
theorem tf_259 : TyFits Tryz.prog 259 ⟨Tryz.t259.desc, Tryz.t259.size, Tryz.t259.bytes, [.nilFunc], false⟩ :=
  tyFits_mk Tryz.t259 ((Tryz.t259.zero).getD ud) (by kernel_rfl) (by kernel_rfl) (by kernel_rfl) (by kernel_rfl) (by kernel_rfl) (by kernel_rfl) (by kernel_rfl) (by kernel_rfl) (by kernel_rfl) (by kernel_rfl) (by kernel_rfl)
theorem tf_131 : TyFits Tryz.prog 131 ⟨Tryz.t131.desc, Tryz.t131.size, Tryz.t131.bytes, [.nilFunc], false⟩ :=
  tyFits_mk Tryz.t131 ((Tryz.t131.zero).getD ud) (by kernel_rfl) (by kernel_rfl) (by kernel_rfl) (by kernel_rfl) (by kernel_rfl) (by kernel_rfl) (by kernel_rfl) (by kernel_rfl) (by kernel_rfl) (by kernel_rfl) (by kernel_rfl)
theorem tf_195 : TyFits Tryz.prog 195 ⟨Tryz.t195.desc, Tryz.t195.size, Tryz.t195.bytes, [.nilFunc], false⟩ :=
  tyFits_mk Tryz.t195 ((Tryz.t195.zero).getD ud) (by kernel_rfl) (by kernel_rfl) (by kernel_rfl) (by kernel_rfl) (by kernel_rfl) (by kernel_rfl) (by kernel_rfl) (by kernel_rfl) (by kernel_rfl) (by kernel_rfl) (by kernel_rfl)
theorem tf_67 : TyFits Tryz.prog 67 ⟨Tryz.t67.desc, Tryz.t67.size, Tryz.t67.bytes, [.nilFunc], false⟩ :=
  tyFits_mk Tryz.t67 ((Tryz.t67.zero).getD ud) (by kernel_rfl) (by kernel_rfl) (by kernel_rfl) (by kernel_rfl) (by kernel_rfl) (by kernel_rfl) (by kernel_rfl) (by kernel_rfl) (by kernel_rfl) (by kernel_rfl) (by kernel_rfl)
theorem tf_291 : TyFits Tryz.prog 291 ⟨Tryz.t291.desc, Tryz.t291.size, Tryz.t291.bytes, [.nilFunc], false⟩ :=
  tyFits_mk Tryz.t291 ((Tryz.t291.zero).getD ud) (by kernel_rfl) (by kernel_rfl) (by kernel_rfl) (by kernel_rfl) (by kernel_rfl) (by kernel_rfl) (by kernel_rfl) (by kernel_rfl) (by kernel_rfl) (by kernel_rfl) (by kernel_rfl)
theorem tf_163 : TyFits Tryz.prog 163 ⟨Tryz.t163.desc, Tryz.t163.size, Tryz.t163.bytes, [.nilFunc], false⟩ :=
  tyFits_mk Tryz.t163 ((Tryz.t163.zero).getD ud) (by kernel_rfl) (by kernel_rfl) (by kernel_rfl) (by kernel_rfl) (by kernel_rfl) (by kernel_rfl) (by kernel_rfl) (by kernel_rfl) (by kernel_rfl) (by kernel_rfl) (by kernel_rfl)
theorem tf_227 : TyFits Tryz.prog 227 ⟨Tryz.t227.desc, Tryz.t227.size, Tryz.t227.bytes, [(.pointer none)], false⟩ :=
  tyFits_mk Tryz.t227 ((Tryz.t227.zero).getD ud) (by kernel_rfl) (by kernel_rfl) (by kernel_rfl) (by kernel_rfl) (by kernel_rfl) (by kernel_rfl) (by kernel_rfl) (by kernel_rfl) (by kernel_rfl) (by kernel_rfl) (by kernel_rfl)
theorem tf_99 : TyFits Tryz.prog 99 ⟨Tryz.t98.desc, Tryz.t99.size, Tryz.t99.bytes, [(.pointer none), (.map none)], true⟩ :=
  tyFits_mk Tryz.t99 ((Tryz.t99.zero).getD ud) (by kernel_rfl) (by kernel_rfl) (by kernel_rfl) (by kernel_rfl) (by kernel_rfl) (by kernel_rfl) (by kernel_rfl) (by kernel_rfl) (by kernel_rfl) (by kernel_rfl) (by kernel_rfl)
theorem tf_35 : TyFits Tryz.prog 35 ⟨Tryz.t35.desc, Tryz.t35.size, Tryz.t35.bytes, [(.slice none 0 0)], false⟩ :=
  tyFits_mk Tryz.t35 ((Tryz.t35.zero).getD ud) (by kernel_rfl) (by kernel_rfl) (by kernel_rfl) (by kernel_rfl) (by kernel_rfl) (by kernel_rfl) (by kernel_rfl) (by kernel_rfl) (by kernel_rfl) (by kernel_rfl) (by kernel_rfl)
theorem tf_275 : TyFits Tryz.prog 275 ⟨Tryz.t275.desc, Tryz.t275.size, Tryz.t275.bytes, [(.pointer none)], false⟩ :=
  tyFits_mk Tryz.t275 ((Tryz.t275.zero).getD ud) (by kernel_rfl) (by kernel_rfl) (by kernel_rfl) (by kernel_rfl) (by kernel_rfl) (by kernel_rfl) (by kernel_rfl) (by kernel_rfl) (by kernel_rfl) (by kernel_rfl) (by kernel_rfl)
theorem tf_147 : TyFits Tryz.prog 147 ⟨Tryz.t147.desc, Tryz.t147.size, Tryz.t147.bytes, [.nilFunc], false⟩ :=
  tyFits_mk Tryz.t147 ((Tryz.t147.zero).getD ud) (by kernel_rfl) (by kernel_rfl) (by kernel_rfl) (by kernel_rfl) (by kernel_rfl) (by kernel_rfl) (by kernel_rfl) (by kernel_rfl) (by kernel_rfl) (by kernel_rfl) (by kernel_rfl)
theorem tf_211 : TyFits Tryz.prog 211 ⟨Tryz.t211.desc, Tryz.t211.size, Tryz.t211.bytes, [.nilFunc], false⟩ :=
  tyFits_mk Tryz.t211 ((Tryz.t211.zero).getD ud) (by kernel_rfl) (by kernel_rfl) (by kernel_rfl) (by kernel_rfl) (by kernel_rfl) (by kernel_rfl) (by kernel_rfl) (by kernel_rfl) (by kernel_rfl) (by kernel_rfl) (by kernel_rfl)
theorem tf_83 : TyFits Tryz.prog 83 ⟨Tryz.t82.desc, Tryz.t83.size, Tryz.t83.bytes, [(.slice none 0 0)], false⟩ :=
  tyFits_mk Tryz.t83 ((Tryz.t83.zero).getD ud) (by kernel_rfl) (by kernel_rfl) (by kernel_rfl) (by kernel_rfl) (by kernel_rfl) (by kernel_rfl) (by kernel_rfl) (by kernel_rfl) (by kernel_rfl) (by kernel_rfl) (by kernel_rfl)
theorem tf_307 : TyFits Tryz.prog 307 ⟨Tryz.t307.desc, Tryz.t307.size, Tryz.t307.bytes, [.nilFunc], false⟩ :=
  tyFits_mk Tryz.t307 ((Tryz.t307.zero).getD ud) (by kernel_rfl) (by kernel_rfl) (by kernel_rfl) (by kernel_rfl) (by kernel_rfl) (by kernel_rfl) (by kernel_rfl) (by kernel_rfl) (by kernel_rfl) (by kernel_rfl) (by kernel_rfl)
theorem tf_179 : TyFits Tryz.prog 179 ⟨Tryz.t179.desc, Tryz.t179.size, Tryz.t179.bytes, [(.slice none 0 0)], false⟩ :=
  tyFits_mk Tryz.t179 ((Tryz.t179.zero).getD ud) (by kernel_rfl) (by kernel_rfl) (by kernel_rfl) (by kernel_rfl) (by kernel_rfl) (by kernel_rfl) (by kernel_rfl) (by kernel_rfl) (by kernel_rfl) (by kernel_rfl) (by kernel_rfl)
theorem tf_243 : TyFits Tryz.prog 243 ⟨Tryz.t243.desc, Tryz.t243.size, Tryz.t243.bytes, [.nilFunc], false⟩ :=
  tyFits_mk Tryz.t243 ((Tryz.t243.zero).getD ud) (by kernel_rfl) (by kernel_rfl) (by kernel_rfl) (by kernel_rfl) (by kernel_rfl) (by kernel_rfl) (by kernel_rfl) (by kernel_rfl) (by kernel_rfl) (by kernel_rfl) (by kernel_rfl)
theorem tf_115 : TyFits Tryz.prog 115 ⟨Tryz.t115.desc, Tryz.t115.size, Tryz.t115.bytes, [.nilFunc], false⟩ :=
  tyFits_mk Tryz.t115 ((Tryz.t115.zero).getD ud) (by kernel_rfl) (by kernel_rfl) (by kernel_rfl) (by kernel_rfl) (by kernel_rfl) (by kernel_rfl) (by kernel_rfl) (by kernel_rfl) (by kernel_rfl) (by kernel_rfl) (by kernel_rfl)
theorem tf_51 : TyFits Tryz.prog 51 ⟨Tryz.t50.desc, Tryz.t51.size, Tryz.t51.bytes, [(.int .i64 0), (.string ⟨#[]⟩), (.int .i64 0), (.string ⟨#[]⟩), (.slice none 0 0)], true⟩ :=
  tyFits_mk Tryz.t51 ((Tryz.t51.zero).getD ud) (by kernel_rfl) (by kernel_rfl) (by kernel_rfl) (by kernel_rfl) (by kernel_rfl) (by kernel_rfl) (by kernel_rfl) (by kernel_rfl) (by kernel_rfl) (by kernel_rfl) (by kernel_rfl)
theorem tf_19 : TyFits Tryz.prog 19 ⟨Tryz.t18.desc, Tryz.t19.size, Tryz.t19.bytes, [(.pointer none)], false⟩ :=
  tyFits_mk Tryz.t19 ((Tryz.t19.zero).getD ud) (by kernel_rfl) (by kernel_rfl) (by kernel_rfl) (by kernel_rfl) (by kernel_rfl) (by kernel_rfl) (by kernel_rfl) (by kernel_rfl) (by kernel_rfl) (by kernel_rfl) (by kernel_rfl)
theorem tf_267 : TyFits Tryz.prog 267 ⟨Tryz.t267.desc, Tryz.t267.size, Tryz.t267.bytes, [.nilFunc], false⟩ :=
  tyFits_mk Tryz.t267 ((Tryz.t267.zero).getD ud) (by kernel_rfl) (by kernel_rfl) (by kernel_rfl) (by kernel_rfl) (by kernel_rfl) (by kernel_rfl) (by kernel_rfl) (by kernel_rfl) (by kernel_rfl) (by kernel_rfl) (by kernel_rfl)
theorem tf_139 : TyFits Tryz.prog 139 ⟨Tryz.t139.desc, Tryz.t139.size, Tryz.t139.bytes, [(.int .i64 0), (.int .i64 0)], true⟩ :=
  tyFits_mk Tryz.t139 ((Tryz.t139.zero).getD ud) (by kernel_rfl) (by kernel_rfl) (by kernel_rfl) (by kernel_rfl) (by kernel_rfl) (by kernel_rfl) (by kernel_rfl) (by kernel_rfl) (by kernel_rfl) (by kernel_rfl) (by kernel_rfl)
theorem tf_203 : TyFits Tryz.prog 203 ⟨Tryz.t203.desc, Tryz.t203.size, Tryz.t203.bytes, [.nilFunc], false⟩ :=
  tyFits_mk Tryz.t203 ((Tryz.t203.zero).getD ud) (by kernel_rfl) (by kernel_rfl) (by kernel_rfl) (by kernel_rfl) (by kernel_rfl) (by kernel_rfl) (by kernel_rfl) (by kernel_rfl) (by kernel_rfl) (by kernel_rfl) (by kernel_rfl)
theorem tf_75 : TyFits Tryz.prog 75 ⟨Tryz.t74.desc, Tryz.t75.size, Tryz.t75.bytes, [.nilFunc], false⟩ :=
  tyFits_mk Tryz.t75 ((Tryz.t75.zero).getD ud) (by kernel_rfl) (by kernel_rfl) (by kernel_rfl) (by kernel_rfl) (by kernel_rfl) (by kernel_rfl) (by kernel_rfl) (by kernel_rfl) (by kernel_rfl) (by kernel_rfl) (by kernel_rfl)
theorem tf_299 : TyFits Tryz.prog 299 ⟨Tryz.t299.desc, Tryz.t299.size, Tryz.t299.bytes, [.nilFunc], false⟩ :=
  tyFits_mk Tryz.t299 ((Tryz.t299.zero).getD ud) (by kernel_rfl) (by kernel_rfl) (by kernel_rfl) (by kernel_rfl) (by kernel_rfl) (by kernel_rfl) (by kernel_rfl) (by kernel_rfl) (by kernel_rfl) (by kernel_rfl) (by kernel_rfl)
theorem tf_235 : TyFits Tryz.prog 235 ⟨Tryz.t235.desc, Tryz.t235.size, Tryz.t235.bytes, [.nilFunc], false⟩ :=
  tyFits_mk Tryz.t235 ((Tryz.t235.zero).getD ud) (by kernel_rfl) (by kernel_rfl) (by kernel_rfl) (by kernel_rfl) (by kernel_rfl) (by kernel_rfl) (by kernel_rfl) (by kernel_rfl) (by kernel_rfl) (by kernel_rfl) (by kernel_rfl)
theorem tf_107 : TyFits Tryz.prog 107 ⟨Tryz.t107.desc, Tryz.t107.size, Tryz.t107.bytes, [(.pointer none)], false⟩ :=
  tyFits_mk Tryz.t107 ((Tryz.t107.zero).getD ud) (by kernel_rfl) (by kernel_rfl) (by kernel_rfl) (by kernel_rfl) (by kernel_rfl) (by kernel_rfl) (by kernel_rfl) (by kernel_rfl) (by kernel_rfl) (by kernel_rfl) (by kernel_rfl)
theorem tf_43 : TyFits Tryz.prog 43 ⟨Tryz.t43.desc, Tryz.t43.size, Tryz.t43.bytes, [.nilFunc], false⟩ :=
  tyFits_mk Tryz.t43 ((Tryz.t43.zero).getD ud) (by kernel_rfl) (by kernel_rfl) (by kernel_rfl) (by kernel_rfl) (by kernel_rfl) (by kernel_rfl) (by kernel_rfl) (by kernel_rfl) (by kernel_rfl) (by kernel_rfl) (by kernel_rfl)
theorem tf_283 : TyFits Tryz.prog 283 ⟨Tryz.t283.desc, Tryz.t283.size, Tryz.t283.bytes, [.nilFunc], false⟩ :=
  tyFits_mk Tryz.t283 ((Tryz.t283.zero).getD ud) (by kernel_rfl) (by kernel_rfl) (by kernel_rfl) (by kernel_rfl) (by kernel_rfl) (by kernel_rfl) (by kernel_rfl) (by kernel_rfl) (by kernel_rfl) (by kernel_rfl) (by kernel_rfl)
theorem tf_155 : TyFits Tryz.prog 155 ⟨Tryz.t155.desc, Tryz.t155.size, Tryz.t155.bytes, [.nilFunc], false⟩ :=
  tyFits_mk Tryz.t155 ((Tryz.t155.zero).getD ud) (by kernel_rfl) (by kernel_rfl) (by kernel_rfl) (by kernel_rfl) (by kernel_rfl) (by kernel_rfl) (by kernel_rfl) (by kernel_rfl) (by kernel_rfl) (by kernel_rfl) (by kernel_rfl)
theorem tf_219 : TyFits Tryz.prog 219 ⟨Tryz.t219.desc, Tryz.t219.size, Tryz.t219.bytes, [.nilFunc], false⟩ :=
  tyFits_mk Tryz.t219 ((Tryz.t219.zero).getD ud) (by kernel_rfl) (by kernel_rfl) (by kernel_rfl) (by kernel_rfl) (by kernel_rfl) (by kernel_rfl) (by kernel_rfl) (by kernel_rfl) (by kernel_rfl) (by kernel_rfl) (by kernel_rfl)
theorem tf_91 : TyFits Tryz.prog 91 ⟨Tryz.t90.desc, Tryz.t91.size, Tryz.t91.bytes, [(.string ⟨#[]⟩), (.slice none 0 0), (.string ⟨#[]⟩), (.slice none 0 0)], true⟩ :=
  tyFits_mk Tryz.t91 ((Tryz.t91.zero).getD ud) (by kernel_rfl) (by kernel_rfl) (by kernel_rfl) (by kernel_rfl) (by kernel_rfl) (by kernel_rfl) (by kernel_rfl) (by kernel_rfl) (by kernel_rfl) (by kernel_rfl) (by kernel_rfl)
theorem tf_315 : TyFits Tryz.prog 315 ⟨Tryz.t315.desc, Tryz.t315.size, Tryz.t315.bytes, [.nilFunc], false⟩ :=
  tyFits_mk Tryz.t315 ((Tryz.t315.zero).getD ud) (by kernel_rfl) (by kernel_rfl) (by kernel_rfl) (by kernel_rfl) (by kernel_rfl) (by kernel_rfl) (by kernel_rfl) (by kernel_rfl) (by kernel_rfl) (by kernel_rfl) (by kernel_rfl)
theorem tf_187 : TyFits Tryz.prog 187 ⟨Tryz.t187.desc, Tryz.t187.size, Tryz.t187.bytes, [.nilFunc], false⟩ :=
  tyFits_mk Tryz.t187 ((Tryz.t187.zero).getD ud) (by kernel_rfl) (by kernel_rfl) (by kernel_rfl) (by kernel_rfl) (by kernel_rfl) (by kernel_rfl) (by kernel_rfl) (by kernel_rfl) (by kernel_rfl) (by kernel_rfl) (by kernel_rfl)
theorem tf_251 : TyFits Tryz.prog 251 ⟨Tryz.t251.desc, Tryz.t251.size, Tryz.t251.bytes, [.nilFunc], false⟩ :=
  tyFits_mk Tryz.t251 ((Tryz.t251.zero).getD ud) (by kernel_rfl) (by kernel_rfl) (by kernel_rfl) (by kernel_rfl) (by kernel_rfl) (by kernel_rfl) (by kernel_rfl) (by kernel_rfl) (by kernel_rfl) (by kernel_rfl) (by kernel_rfl)
theorem tf_123 : TyFits Tryz.prog 123 ⟨Tryz.t123.desc, Tryz.t123.size, Tryz.t123.bytes, [.nilFunc], false⟩ :=
  tyFits_mk Tryz.t123 ((Tryz.t123.zero).getD ud) (by kernel_rfl) (by kernel_rfl) (by kernel_rfl) (by kernel_rfl) (by kernel_rfl) (by kernel_rfl) (by kernel_rfl) (by kernel_rfl) (by kernel_rfl) (by kernel_rfl) (by kernel_rfl)
theorem tf_59 : TyFits Tryz.prog 59 ⟨Tryz.t59.desc, Tryz.t59.size, Tryz.t59.bytes, [.nilFunc], false⟩ :=
  tyFits_mk Tryz.t59 ((Tryz.t59.zero).getD ud) (by kernel_rfl) (by kernel_rfl) (by kernel_rfl) (by kernel_rfl) (by kernel_rfl) (by kernel_rfl) (by kernel_rfl) (by kernel_rfl) (by kernel_rfl) (by kernel_rfl) (by kernel_rfl)
theorem tf_27 : TyFits Tryz.prog 27 ⟨Tryz.t27.desc, Tryz.t27.size, Tryz.t27.bytes, [.nilFunc], false⟩ :=
  tyFits_mk Tryz.t27 ((Tryz.t27.zero).getD ud) (by kernel_rfl) (by kernel_rfl) (by kernel_rfl) (by kernel_rfl) (by kernel_rfl) (by kernel_rfl) (by kernel_rfl) (by kernel_rfl) (by kernel_rfl) (by kernel_rfl) (by kernel_rfl)
theorem tf_11 : TyFits Tryz.prog 11 ⟨Tryz.t9.desc, Tryz.t11.size, Tryz.t11.bytes, [(.string ⟨#[]⟩)], false⟩ :=
  tyFits_mk Tryz.t11 ((Tryz.t11.zero).getD ud) (by kernel_rfl) (by kernel_rfl) (by kernel_rfl) (by kernel_rfl) (by kernel_rfl) (by kernel_rfl) (by kernel_rfl) (by kernel_rfl) (by kernel_rfl) (by kernel_rfl) (by kernel_rfl)
theorem tf_3 : TyFits Tryz.prog 3 ⟨Tryz.t3.desc, Tryz.t3.size, Tryz.t3.bytes, [(.int .i64 0)], false⟩ :=
  tyFits_mk Tryz.t3 ((Tryz.t3.zero).getD ud) (by kernel_rfl) (by kernel_rfl) (by kernel_rfl) (by kernel_rfl) (by kernel_rfl) (by kernel_rfl) (by kernel_rfl) (by kernel_rfl) (by kernel_rfl) (by kernel_rfl) (by kernel_rfl)
theorem tf_257 : TyFits Tryz.prog 257 ⟨Tryz.t257.desc, Tryz.t257.size, Tryz.t257.bytes, [.nilFunc], false⟩ :=
  tyFits_mk Tryz.t257 ((Tryz.t257.zero).getD ud) (by kernel_rfl) (by kernel_rfl) (by kernel_rfl) (by kernel_rfl) (by kernel_rfl) (by kernel_rfl) (by kernel_rfl) (by kernel_rfl) (by kernel_rfl) (by kernel_rfl) (by kernel_rfl)
theorem tf_129 : TyFits Tryz.prog 129 ⟨Tryz.t128.desc, Tryz.t129.size, Tryz.t129.bytes, [.nilFunc], false⟩ :=
  tyFits_mk Tryz.t129 ((Tryz.t129.zero).getD ud) (by kernel_rfl) (by kernel_rfl) (by kernel_rfl) (by kernel_rfl) (by kernel_rfl) (by kernel_rfl) (by kernel_rfl) (by kernel_rfl) (by kernel_rfl) (by kernel_rfl) (by kernel_rfl)
theorem tf_193 : TyFits Tryz.prog 193 ⟨Tryz.t193.desc, Tryz.t193.size, Tryz.t193.bytes, [(.pointer none)], false⟩ :=
  tyFits_mk Tryz.t193 ((Tryz.t193.zero).getD ud) (by kernel_rfl) (by kernel_rfl) (by kernel_rfl) (by kernel_rfl) (by kernel_rfl) (by kernel_rfl) (by kernel_rfl) (by kernel_rfl) (by kernel_rfl) (by kernel_rfl) (by kernel_rfl)
theorem tf_65 : TyFits Tryz.prog 65 ⟨Tryz.t65.desc, Tryz.t65.size, Tryz.t65.bytes, [.nilFunc], false⟩ :=
  tyFits_mk Tryz.t65 ((Tryz.t65.zero).getD ud) (by kernel_rfl) (by kernel_rfl) (by kernel_rfl) (by kernel_rfl) (by kernel_rfl) (by kernel_rfl) (by kernel_rfl) (by kernel_rfl) (by kernel_rfl) (by kernel_rfl) (by kernel_rfl)
theorem tf_289 : TyFits Tryz.prog 289 ⟨Tryz.t289.desc, Tryz.t289.size, Tryz.t289.bytes, [(.pointer none)], false⟩ :=
  tyFits_mk Tryz.t289 ((Tryz.t289.zero).getD ud) (by kernel_rfl) (by kernel_rfl) (by kernel_rfl) (by kernel_rfl) (by kernel_rfl) (by kernel_rfl) (by kernel_rfl) (by kernel_rfl) (by kernel_rfl) (by kernel_rfl) (by kernel_rfl)
theorem tf_225 : TyFits Tryz.prog 225 ⟨Tryz.t225.desc, Tryz.t225.size, Tryz.t225.bytes, [.nilFunc], false⟩ :=
  tyFits_mk Tryz.t225 ((Tryz.t225.zero).getD ud) (by kernel_rfl) (by kernel_rfl) (by kernel_rfl) (by kernel_rfl) (by kernel_rfl) (by kernel_rfl) (by kernel_rfl) (by kernel_rfl) (by kernel_rfl) (by kernel_rfl) (by kernel_rfl)
theorem tf_97 : TyFits Tryz.prog 97 ⟨Tryz.t97.desc, Tryz.t97.size, Tryz.t97.bytes, [(.map none)], false⟩ :=
  tyFits_mk Tryz.t97 ((Tryz.t97.zero).getD ud) (by kernel_rfl) (by kernel_rfl) (by kernel_rfl) (by kernel_rfl) (by kernel_rfl) (by kernel_rfl) (by kernel_rfl) (by kernel_rfl) (by kernel_rfl) (by kernel_rfl) (by kernel_rfl)
theorem tf_33 : TyFits Tryz.prog 33 ⟨Tryz.t33.desc, Tryz.t33.size, Tryz.t33.bytes, [(.slice none 0 0)], false⟩ :=
  tyFits_mk Tryz.t33 ((Tryz.t33.zero).getD ud) (by kernel_rfl) (by kernel_rfl) (by kernel_rfl) (by kernel_rfl) (by kernel_rfl) (by kernel_rfl) (by kernel_rfl) (by kernel_rfl) (by kernel_rfl) (by kernel_rfl) (by kernel_rfl)
theorem tf_273 : TyFits Tryz.prog 273 ⟨Tryz.t273.desc, Tryz.t273.size, Tryz.t273.bytes, [.nilFunc], false⟩ :=
  tyFits_mk Tryz.t273 ((Tryz.t273.zero).getD ud) (by kernel_rfl) (by kernel_rfl) (by kernel_rfl) (by kernel_rfl) (by kernel_rfl) (by kernel_rfl) (by kernel_rfl) (by kernel_rfl) (by kernel_rfl) (by kernel_rfl) (by kernel_rfl)
theorem tf_145 : TyFits Tryz.prog 145 ⟨Tryz.t144.desc, Tryz.t145.size, Tryz.t145.bytes, [(.slice none 0 0), (.string ⟨#[]⟩)], true⟩ :=
  tyFits_mk Tryz.t145 ((Tryz.t145.zero).getD ud) (by kernel_rfl) (by kernel_rfl) (by kernel_rfl) (by kernel_rfl) (by kernel_rfl) (by kernel_rfl) (by kernel_rfl) (by kernel_rfl) (by kernel_rfl) (by kernel_rfl) (by kernel_rfl)
theorem tf_209 : TyFits Tryz.prog 209 ⟨Tryz.t209.desc, Tryz.t209.size, Tryz.t209.bytes, [.nilFunc], false⟩ :=
  tyFits_mk Tryz.t209 ((Tryz.t209.zero).getD ud) (by kernel_rfl) (by kernel_rfl) (by kernel_rfl) (by kernel_rfl) (by kernel_rfl) (by kernel_rfl) (by kernel_rfl) (by kernel_rfl) (by kernel_rfl) (by kernel_rfl) (by kernel_rfl)
theorem tf_81 : TyFits Tryz.prog 81 ⟨Tryz.t81.desc, Tryz.t81.size, Tryz.t81.bytes, [.nilFunc], false⟩ :=
  tyFits_mk Tryz.t81 ((Tryz.t81.zero).getD ud) (by kernel_rfl) (by kernel_rfl) (by kernel_rfl) (by kernel_rfl) (by kernel_rfl) (by kernel_rfl) (by kernel_rfl) (by kernel_rfl) (by kernel_rfl) (by kernel_rfl) (by kernel_rfl)
theorem tf_305 : TyFits Tryz.prog 305 ⟨Tryz.t5.desc, Tryz.t305.size, Tryz.t305.bytes, [(.int .u8 0)], false⟩ :=
  tyFits_mk Tryz.t305 ((Tryz.t305.zero).getD ud) (by kernel_rfl) (by kernel_rfl) (by kernel_rfl) (by kernel_rfl) (by kernel_rfl) (by kernel_rfl) (by kernel_rfl) (by kernel_rfl) (by kernel_rfl) (by kernel_rfl) (by kernel_rfl)
theorem tf_177 : TyFits Tryz.prog 177 ⟨Tryz.t176.desc, Tryz.t177.size, Tryz.t177.bytes, [(.int .i64 0), (.int .i64 0), (.string ⟨#[]⟩), (.slice none 0 0)], true⟩ :=
  tyFits_mk Tryz.t177 ((Tryz.t177.zero).getD ud) (by kernel_rfl) (by kernel_rfl) (by kernel_rfl) (by kernel_rfl) (by kernel_rfl) (by kernel_rfl) (by kernel_rfl) (by kernel_rfl) (by kernel_rfl) (by kernel_rfl) (by kernel_rfl)
theorem tf_241 : TyFits Tryz.prog 241 ⟨Tryz.t241.desc, Tryz.t241.size, Tryz.t241.bytes, [.nilFunc], false⟩ :=
  tyFits_mk Tryz.t241 ((Tryz.t241.zero).getD ud) (by kernel_rfl) (by kernel_rfl) (by kernel_rfl) (by kernel_rfl) (by kernel_rfl) (by kernel_rfl) (by kernel_rfl) (by kernel_rfl) (by kernel_rfl) (by kernel_rfl) (by kernel_rfl)
theorem tf_113 : TyFits Tryz.prog 113 ⟨Tryz.t113.desc, Tryz.t113.size, Tryz.t113.bytes, [.nilFunc], false⟩ :=
  tyFits_mk Tryz.t113 ((Tryz.t113.zero).getD ud) (by kernel_rfl) (by kernel_rfl) (by kernel_rfl) (by kernel_rfl) (by kernel_rfl) (by kernel_rfl) (by kernel_rfl) (by kernel_rfl) (by kernel_rfl) (by kernel_rfl) (by kernel_rfl)
theorem tf_49 : TyFits Tryz.prog 49 ⟨Tryz.t49.desc, Tryz.t49.size, Tryz.t49.bytes, [(.slice none 0 0)], false⟩ :=
  tyFits_mk Tryz.t49 ((Tryz.t49.zero).getD ud) (by kernel_rfl) (by kernel_rfl) (by kernel_rfl) (by kernel_rfl) (by kernel_rfl) (by kernel_rfl) (by kernel_rfl) (by kernel_rfl) (by kernel_rfl) (by kernel_rfl) (by kernel_rfl)
theorem tf_17 : TyFits Tryz.prog 17 ⟨Tryz.t17.desc, Tryz.t17.size, Tryz.t17.bytes, [(.pointer none)], false⟩ :=
  tyFits_mk Tryz.t17 ((Tryz.t17.zero).getD ud) (by kernel_rfl) (by kernel_rfl) (by kernel_rfl) (by kernel_rfl) (by kernel_rfl) (by kernel_rfl) (by kernel_rfl) (by kernel_rfl) (by kernel_rfl) (by kernel_rfl) (by kernel_rfl)
theorem tf_265 : TyFits Tryz.prog 265 ⟨Tryz.t265.desc, Tryz.t265.size, Tryz.t265.bytes, [.nilFunc], false⟩ :=
  tyFits_mk Tryz.t265 ((Tryz.t265.zero).getD ud) (by kernel_rfl) (by kernel_rfl) (by kernel_rfl) (by kernel_rfl) (by kernel_rfl) (by kernel_rfl) (by kernel_rfl) (by kernel_rfl) (by kernel_rfl) (by kernel_rfl) (by kernel_rfl)
theorem tf_137 : TyFits Tryz.prog 137 ⟨Tryz.t136.desc, Tryz.t137.size, Tryz.t137.bytes, [(.string ⟨#[]⟩), (.int .i64 0), (.bool false), (.string ⟨#[]⟩)], true⟩ :=
  tyFits_mk Tryz.t137 ((Tryz.t137.zero).getD ud) (by kernel_rfl) (by kernel_rfl) (by kernel_rfl) (by kernel_rfl) (by kernel_rfl) (by kernel_rfl) (by kernel_rfl) (by kernel_rfl) (by kernel_rfl) (by kernel_rfl) (by kernel_rfl)
theorem tf_201 : TyFits Tryz.prog 201 ⟨Tryz.t201.desc, Tryz.t201.size, Tryz.t201.bytes, [.nilFunc], false⟩ :=
  tyFits_mk Tryz.t201 ((Tryz.t201.zero).getD ud) (by kernel_rfl) (by kernel_rfl) (by kernel_rfl) (by kernel_rfl) (by kernel_rfl) (by kernel_rfl) (by kernel_rfl) (by kernel_rfl) (by kernel_rfl) (by kernel_rfl) (by kernel_rfl)
theorem tf_73 : TyFits Tryz.prog 73 ⟨Tryz.t73.desc, Tryz.t73.size, Tryz.t73.bytes, [.nilFunc], false⟩ :=
  tyFits_mk Tryz.t73 ((Tryz.t73.zero).getD ud) (by kernel_rfl) (by kernel_rfl) (by kernel_rfl) (by kernel_rfl) (by kernel_rfl) (by kernel_rfl) (by kernel_rfl) (by kernel_rfl) (by kernel_rfl) (by kernel_rfl) (by kernel_rfl)
theorem tf_297 : TyFits Tryz.prog 297 ⟨Tryz.t297.desc, Tryz.t297.size, Tryz.t297.bytes, [.nilFunc], false⟩ :=
  tyFits_mk Tryz.t297 ((Tryz.t297.zero).getD ud) (by kernel_rfl) (by kernel_rfl) (by kernel_rfl) (by kernel_rfl) (by kernel_rfl) (by kernel_rfl) (by kernel_rfl) (by kernel_rfl) (by kernel_rfl) (by kernel_rfl) (by kernel_rfl)
theorem tf_169 : TyFits Tryz.prog 169 ⟨Tryz.t169.desc, Tryz.t169.size, Tryz.t169.bytes, [.nilFunc], false⟩ :=
  tyFits_mk Tryz.t169 ((Tryz.t169.zero).getD ud) (by kernel_rfl) (by kernel_rfl) (by kernel_rfl) (by kernel_rfl) (by kernel_rfl) (by kernel_rfl) (by kernel_rfl) (by kernel_rfl) (by kernel_rfl) (by kernel_rfl) (by kernel_rfl)
theorem tf_233 : TyFits Tryz.prog 233 ⟨Tryz.t233.desc, Tryz.t233.size, Tryz.t233.bytes, [(.int .i64 0), (.slice none 0 0), (.pointer none), (.int .i64 0)], true⟩ :=
  tyFits_mk Tryz.t233 ((Tryz.t233.zero).getD ud) (by kernel_rfl) (by kernel_rfl) (by kernel_rfl) (by kernel_rfl) (by kernel_rfl) (by kernel_rfl) (by kernel_rfl) (by kernel_rfl) (by kernel_rfl) (by kernel_rfl) (by kernel_rfl)
theorem tf_105 : TyFits Tryz.prog 105 ⟨Tryz.t105.desc, Tryz.t105.size, Tryz.t105.bytes, [.nilFunc], false⟩ :=
  tyFits_mk Tryz.t105 ((Tryz.t105.zero).getD ud) (by kernel_rfl) (by kernel_rfl) (by kernel_rfl) (by kernel_rfl) (by kernel_rfl) (by kernel_rfl) (by kernel_rfl) (by kernel_rfl) (by kernel_rfl) (by kernel_rfl) (by kernel_rfl)
theorem tf_281 : TyFits Tryz.prog 281 ⟨Tryz.t281.desc, Tryz.t281.size, Tryz.t281.bytes, [.nilFunc, (.slice none 0 0)], true⟩ :=
  tyFits_mk Tryz.t281 ((Tryz.t281.zero).getD ud) (by kernel_rfl) (by kernel_rfl) (by kernel_rfl) (by kernel_rfl) (by kernel_rfl) (by kernel_rfl) (by kernel_rfl) (by kernel_rfl) (by kernel_rfl) (by kernel_rfl) (by kernel_rfl)
theorem tf_153 : TyFits Tryz.prog 153 ⟨Tryz.t153.desc, Tryz.t153.size, Tryz.t153.bytes, [(.slice none 0 0)], false⟩ :=
  tyFits_mk Tryz.t153 ((Tryz.t153.zero).getD ud) (by kernel_rfl) (by kernel_rfl) (by kernel_rfl) (by kernel_rfl) (by kernel_rfl) (by kernel_rfl) (by kernel_rfl) (by kernel_rfl) (by kernel_rfl) (by kernel_rfl) (by kernel_rfl)
theorem tf_217 : TyFits Tryz.prog 217 ⟨Tryz.t217.desc, Tryz.t217.size, Tryz.t217.bytes, [.nilFunc], false⟩ :=
  tyFits_mk Tryz.t217 ((Tryz.t217.zero).getD ud) (by kernel_rfl) (by kernel_rfl) (by kernel_rfl) (by kernel_rfl) (by kernel_rfl) (by kernel_rfl) (by kernel_rfl) (by kernel_rfl) (by kernel_rfl) (by kernel_rfl) (by kernel_rfl)
theorem tf_89 : TyFits Tryz.prog 89 ⟨Tryz.t89.desc, Tryz.t89.size, Tryz.t89.bytes, [(.slice none 0 0)], false⟩ :=
  tyFits_mk Tryz.t89 ((Tryz.t89.zero).getD ud) (by kernel_rfl) (by kernel_rfl) (by kernel_rfl) (by kernel_rfl) (by kernel_rfl) (by kernel_rfl) (by kernel_rfl) (by kernel_rfl) (by kernel_rfl) (by kernel_rfl) (by kernel_rfl)
theorem tf_313 : TyFits Tryz.prog 313 ⟨Tryz.t313.desc, Tryz.t313.size, Tryz.t313.bytes, [.nilFunc], false⟩ :=
  tyFits_mk Tryz.t313 ((Tryz.t313.zero).getD ud) (by kernel_rfl) (by kernel_rfl) (by kernel_rfl) (by kernel_rfl) (by kernel_rfl) (by kernel_rfl) (by kernel_rfl) (by kernel_rfl) (by kernel_rfl) (by kernel_rfl) (by kernel_rfl)
theorem tf_185 : TyFits Tryz.prog 185 ⟨Tryz.t185.desc, Tryz.t185.size, Tryz.t185.bytes, [.nilFunc], false⟩ :=
  tyFits_mk Tryz.t185 ((Tryz.t185.zero).getD ud) (by kernel_rfl) (by kernel_rfl) (by kernel_rfl) (by kernel_rfl) (by kernel_rfl) (by kernel_rfl) (by kernel_rfl) (by kernel_rfl) (by kernel_rfl) (by kernel_rfl) (by kernel_rfl)
theorem tf_249 : TyFits Tryz.prog 249 ⟨Tryz.t249.desc, Tryz.t249.size, Tryz.t249.bytes, [.nilFunc], false⟩ :=
  tyFits_mk Tryz.t249 ((Tryz.t249.zero).getD ud) (by kernel_rfl) (by kernel_rfl) (by kernel_rfl) (by kernel_rfl) (by kernel_rfl) (by kernel_rfl) (by kernel_rfl) (by kernel_rfl) (by kernel_rfl) (by kernel_rfl) (by kernel_rfl)
theorem tf_121 : TyFits Tryz.prog 121 ⟨Tryz.t121.desc, Tryz.t121.size, Tryz.t121.bytes, [.nilFunc], false⟩ :=
  tyFits_mk Tryz.t121 ((Tryz.t121.zero).getD ud) (by kernel_rfl) (by kernel_rfl) (by kernel_rfl) (by kernel_rfl) (by kernel_rfl) (by kernel_rfl) (by kernel_rfl) (by kernel_rfl) (by kernel_rfl) (by kernel_rfl) (by kernel_rfl)
theorem tf_57 : TyFits Tryz.prog 57 ⟨Tryz.t57.desc, Tryz.t57.size, Tryz.t57.bytes, [.nilFunc], false⟩ :=
  tyFits_mk Tryz.t57 ((Tryz.t57.zero).getD ud) (by kernel_rfl) (by kernel_rfl) (by kernel_rfl) (by kernel_rfl) (by kernel_rfl) (by kernel_rfl) (by kernel_rfl) (by kernel_rfl) (by kernel_rfl) (by kernel_rfl) (by kernel_rfl)
theorem tf_25 : TyFits Tryz.prog 25 ⟨Tryz.t25.desc, Tryz.t25.size, Tryz.t25.bytes, [(.pointer none)], false⟩ :=
  tyFits_mk Tryz.t25 ((Tryz.t25.zero).getD ud) (by kernel_rfl) (by kernel_rfl) (by kernel_rfl) (by kernel_rfl) (by kernel_rfl) (by kernel_rfl) (by kernel_rfl) (by kernel_rfl) (by kernel_rfl) (by kernel_rfl) (by kernel_rfl)
theorem tf_9 : TyFits Tryz.prog 9 ⟨Tryz.t9.desc, Tryz.t9.size, Tryz.t9.bytes, [(.string ⟨#[]⟩)], false⟩ :=
  tyFits_mk Tryz.t9 ((Tryz.t9.zero).getD ud) (by kernel_rfl) (by kernel_rfl) (by kernel_rfl) (by kernel_rfl) (by kernel_rfl) (by kernel_rfl) (by kernel_rfl) (by kernel_rfl) (by kernel_rfl) (by kernel_rfl) (by kernel_rfl)
theorem tf_261 : TyFits Tryz.prog 261 ⟨Tryz.t261.desc, Tryz.t261.size, Tryz.t261.bytes, [.nilFunc], false⟩ :=
  tyFits_mk Tryz.t261 ((Tryz.t261.zero).getD ud) (by kernel_rfl) (by kernel_rfl) (by kernel_rfl) (by kernel_rfl) (by kernel_rfl) (by kernel_rfl) (by kernel_rfl) (by kernel_rfl) (by kernel_rfl) (by kernel_rfl) (by kernel_rfl)
theorem tf_133 : TyFits Tryz.prog 133 ⟨Tryz.t133.desc, Tryz.t133.size, Tryz.t133.bytes, [(.slice none 0 0)], true⟩ :=
  tyFits_mk Tryz.t133 ((Tryz.t133.zero).getD ud) (by kernel_rfl) (by kernel_rfl) (by kernel_rfl) (by kernel_rfl) (by kernel_rfl) (by kernel_rfl) (by kernel_rfl) (by kernel_rfl) (by kernel_rfl) (by kernel_rfl) (by kernel_rfl)
theorem tf_197 : TyFits Tryz.prog 197 ⟨Tryz.t197.desc, Tryz.t197.size, Tryz.t197.bytes, [.nilFunc], false⟩ :=
  tyFits_mk Tryz.t197 ((Tryz.t197.zero).getD ud) (by kernel_rfl) (by kernel_rfl) (by kernel_rfl) (by kernel_rfl) (by kernel_rfl) (by kernel_rfl) (by kernel_rfl) (by kernel_rfl) (by kernel_rfl) (by kernel_rfl) (by kernel_rfl)
theorem tf_69 : TyFits Tryz.prog 69 ⟨Tryz.t69.desc, Tryz.t69.size, Tryz.t69.bytes, [(.slice none 0 0)], false⟩ :=
  tyFits_mk Tryz.t69 ((Tryz.t69.zero).getD ud) (by kernel_rfl) (by kernel_rfl) (by kernel_rfl) (by kernel_rfl) (by kernel_rfl) (by kernel_rfl) (by kernel_rfl) (by kernel_rfl) (by kernel_rfl) (by kernel_rfl) (by kernel_rfl)
theorem tf_293 : TyFits Tryz.prog 293 ⟨Tryz.t293.desc, Tryz.t293.size, Tryz.t293.bytes, [.nilFunc], false⟩ :=
  tyFits_mk Tryz.t293 ((Tryz.t293.zero).getD ud) (by kernel_rfl) (by kernel_rfl) (by kernel_rfl) (by kernel_rfl) (by kernel_rfl) (by kernel_rfl) (by kernel_rfl) (by kernel_rfl) (by kernel_rfl) (by kernel_rfl) (by kernel_rfl)
theorem tf_165 : TyFits Tryz.prog 165 ⟨Tryz.t165.desc, Tryz.t165.size, Tryz.t165.bytes, [(.slice none 0 0)], false⟩ :=
  tyFits_mk Tryz.t165 ((Tryz.t165.zero).getD ud) (by kernel_rfl) (by kernel_rfl) (by kernel_rfl) (by kernel_rfl) (by kernel_rfl) (by kernel_rfl) (by kernel_rfl) (by kernel_rfl) (by kernel_rfl) (by kernel_rfl) (by kernel_rfl)
theorem tf_229 : TyFits Tryz.prog 229 ⟨Tryz.t229.desc, Tryz.t229.size, Tryz.t229.bytes, [.nilFunc], false⟩ :=
  tyFits_mk Tryz.t229 ((Tryz.t229.zero).getD ud) (by kernel_rfl) (by kernel_rfl) (by kernel_rfl) (by kernel_rfl) (by kernel_rfl) (by kernel_rfl) (by kernel_rfl) (by kernel_rfl) (by kernel_rfl) (by kernel_rfl) (by kernel_rfl)
theorem tf_101 : TyFits Tryz.prog 101 ⟨Tryz.t101.desc, Tryz.t101.size, Tryz.t101.bytes, [(.string ⟨#[]⟩), (.slice none 0 0), (.string ⟨#[]⟩), (.slice none 0 0), (.slice none 0 0), (.slice none 0 0), (.int .i64 0)], true⟩ :=
  tyFits_mk Tryz.t101 ((Tryz.t101.zero).getD ud) (by kernel_rfl) (by kernel_rfl) (by kernel_rfl) (by kernel_rfl) (by kernel_rfl) (by kernel_rfl) (by kernel_rfl) (by kernel_rfl) (by kernel_rfl) (by kernel_rfl) (by kernel_rfl)
theorem tf_37 : TyFits Tryz.prog 37 ⟨Tryz.t37.desc, Tryz.t37.size, Tryz.t37.bytes, [.nilFunc], false⟩ :=
  tyFits_mk Tryz.t37 ((Tryz.t37.zero).getD ud) (by kernel_rfl) (by kernel_rfl) (by kernel_rfl) (by kernel_rfl) (by kernel_rfl) (by kernel_rfl) (by kernel_rfl) (by kernel_rfl) (by kernel_rfl) (by kernel_rfl) (by kernel_rfl)
theorem tf_277 : TyFits Tryz.prog 277 ⟨Tryz.t277.desc, Tryz.t277.size, Tryz.t277.bytes, [.nilFunc], false⟩ :=
  tyFits_mk Tryz.t277 ((Tryz.t277.zero).getD ud) (by kernel_rfl) (by kernel_rfl) (by kernel_rfl) (by kernel_rfl) (by kernel_rfl) (by kernel_rfl) (by kernel_rfl) (by kernel_rfl) (by kernel_rfl) (by kernel_rfl) (by kernel_rfl)
theorem tf_149 : TyFits Tryz.prog 149 ⟨Tryz.t149.desc, Tryz.t149.size, Tryz.t149.bytes, [.nilFunc], false⟩ :=
  tyFits_mk Tryz.t149 ((Tryz.t149.zero).getD ud) (by kernel_rfl) (by kernel_rfl) (by kernel_rfl) (by kernel_rfl) (by kernel_rfl) (by kernel_rfl) (by kernel_rfl) (by kernel_rfl) (by kernel_rfl) (by kernel_rfl) (by kernel_rfl)
theorem tf_213 : TyFits Tryz.prog 213 ⟨Tryz.t213.desc, Tryz.t213.size, Tryz.t213.bytes, [.nilFunc], false⟩ :=
  tyFits_mk Tryz.t213 ((Tryz.t213.zero).getD ud) (by kernel_rfl) (by kernel_rfl) (by kernel_rfl) (by kernel_rfl) (by kernel_rfl) (by kernel_rfl) (by kernel_rfl) (by kernel_rfl) (by kernel_rfl) (by kernel_rfl) (by kernel_rfl)
theorem tf_85 : TyFits Tryz.prog 85 ⟨Tryz.t85.desc, Tryz.t85.size, Tryz.t85.bytes, [(.slice none 0 0), (.slice none 0 0), (.slice none 0 0)], true⟩ :=
  tyFits_mk Tryz.t85 ((Tryz.t85.zero).getD ud) (by kernel_rfl) (by kernel_rfl) (by kernel_rfl) (by kernel_rfl) (by kernel_rfl) (by kernel_rfl) (by kernel_rfl) (by kernel_rfl) (by kernel_rfl) (by kernel_rfl) (by kernel_rfl)
theorem tf_309 : TyFits Tryz.prog 309 ⟨Tryz.t21.desc, Tryz.t309.size, Tryz.t309.bytes, [(.int .i32 0)], false⟩ :=
  tyFits_mk Tryz.t309 ((Tryz.t309.zero).getD ud) (by kernel_rfl) (by kernel_rfl) (by kernel_rfl) (by kernel_rfl) (by kernel_rfl) (by kernel_rfl) (by kernel_rfl) (by kernel_rfl) (by kernel_rfl) (by kernel_rfl) (by kernel_rfl)
theorem tf_181 : TyFits Tryz.prog 181 ⟨Tryz.t180.desc, Tryz.t181.size, Tryz.t181.bytes, [.nilFunc, (.slice none 0 0)], true⟩ :=
  tyFits_mk Tryz.t181 ((Tryz.t181.zero).getD ud) (by kernel_rfl) (by kernel_rfl) (by kernel_rfl) (by kernel_rfl) (by kernel_rfl) (by kernel_rfl) (by kernel_rfl) (by kernel_rfl) (by kernel_rfl) (by kernel_rfl) (by kernel_rfl)
theorem tf_245 : TyFits Tryz.prog 245 ⟨Tryz.t245.desc, Tryz.t245.size, Tryz.t245.bytes, [.nilFunc], false⟩ :=
  tyFits_mk Tryz.t245 ((Tryz.t245.zero).getD ud) (by kernel_rfl) (by kernel_rfl) (by kernel_rfl) (by kernel_rfl) (by kernel_rfl) (by kernel_rfl) (by kernel_rfl) (by kernel_rfl) (by kernel_rfl) (by kernel_rfl) (by kernel_rfl)
theorem tf_117 : TyFits Tryz.prog 117 ⟨Tryz.t116.desc, Tryz.t117.size, Tryz.t117.bytes, [.nilFunc], false⟩ :=
  tyFits_mk Tryz.t117 ((Tryz.t117.zero).getD ud) (by kernel_rfl) (by kernel_rfl) (by kernel_rfl) (by kernel_rfl) (by kernel_rfl) (by kernel_rfl) (by kernel_rfl) (by kernel_rfl) (by kernel_rfl) (by kernel_rfl) (by kernel_rfl)
theorem tf_53 : TyFits Tryz.prog 53 ⟨Tryz.t53.desc, Tryz.t53.size, Tryz.t53.bytes, [(.slice none 0 0)], false⟩ :=
  tyFits_mk Tryz.t53 ((Tryz.t53.zero).getD ud) (by kernel_rfl) (by kernel_rfl) (by kernel_rfl) (by kernel_rfl) (by kernel_rfl) (by kernel_rfl) (by kernel_rfl) (by kernel_rfl) (by kernel_rfl) (by kernel_rfl) (by kernel_rfl)
theorem tf_21 : TyFits Tryz.prog 21 ⟨Tryz.t21.desc, Tryz.t21.size, Tryz.t21.bytes, [(.int .i32 0)], false⟩ :=
  tyFits_mk Tryz.t21 ((Tryz.t21.zero).getD ud) (by kernel_rfl) (by kernel_rfl) (by kernel_rfl) (by kernel_rfl) (by kernel_rfl) (by kernel_rfl) (by kernel_rfl) (by kernel_rfl) (by kernel_rfl) (by kernel_rfl) (by kernel_rfl)
theorem tf_269 : TyFits Tryz.prog 269 ⟨Tryz.t269.desc, Tryz.t269.size, Tryz.t269.bytes, [.nilFunc], false⟩ :=
  tyFits_mk Tryz.t269 ((Tryz.t269.zero).getD ud) (by kernel_rfl) (by kernel_rfl) (by kernel_rfl) (by kernel_rfl) (by kernel_rfl) (by kernel_rfl) (by kernel_rfl) (by kernel_rfl) (by kernel_rfl) (by kernel_rfl) (by kernel_rfl)
theorem tf_141 : TyFits Tryz.prog 141 ⟨Tryz.t141.desc, Tryz.t141.size, Tryz.t141.bytes, [.nilFunc], false⟩ :=
  tyFits_mk Tryz.t141 ((Tryz.t141.zero).getD ud) (by kernel_rfl) (by kernel_rfl) (by kernel_rfl) (by kernel_rfl) (by kernel_rfl) (by kernel_rfl) (by kernel_rfl) (by kernel_rfl) (by kernel_rfl) (by kernel_rfl) (by kernel_rfl)
theorem tf_205 : TyFits Tryz.prog 205 ⟨Tryz.t205.desc, Tryz.t205.size, Tryz.t205.bytes, [.nilFunc], false⟩ :=
  tyFits_mk Tryz.t205 ((Tryz.t205.zero).getD ud) (by kernel_rfl) (by kernel_rfl) (by kernel_rfl) (by kernel_rfl) (by kernel_rfl) (by kernel_rfl) (by kernel_rfl) (by kernel_rfl) (by kernel_rfl) (by kernel_rfl) (by kernel_rfl)
theorem tf_77 : TyFits Tryz.prog 77 ⟨Tryz.t77.desc, Tryz.t77.size, Tryz.t77.bytes, [.nilFunc], false⟩ :=
  tyFits_mk Tryz.t77 ((Tryz.t77.zero).getD ud) (by kernel_rfl) (by kernel_rfl) (by kernel_rfl) (by kernel_rfl) (by kernel_rfl) (by kernel_rfl) (by kernel_rfl) (by kernel_rfl) (by kernel_rfl) (by kernel_rfl) (by kernel_rfl)
theorem tf_301 : TyFits Tryz.prog 301 ⟨Tryz.t300.desc, Tryz.t301.size, Tryz.t301.bytes, [(.pointer none), (.pointer none), (.pointer none), (.string ⟨#[]⟩)], false⟩ :=
  tyFits_mk Tryz.t301 ((Tryz.t301.zero).getD ud) (by kernel_rfl) (by kernel_rfl) (by kernel_rfl) (by kernel_rfl) (by kernel_rfl) (by kernel_rfl) (by kernel_rfl) (by kernel_rfl) (by kernel_rfl) (by kernel_rfl) (by kernel_rfl)
theorem tf_237 : TyFits Tryz.prog 237 ⟨Tryz.t237.desc, Tryz.t237.size, Tryz.t237.bytes, [(.slice none 0 0)], false⟩ :=
  tyFits_mk Tryz.t237 ((Tryz.t237.zero).getD ud) (by kernel_rfl) (by kernel_rfl) (by kernel_rfl) (by kernel_rfl) (by kernel_rfl) (by kernel_rfl) (by kernel_rfl) (by kernel_rfl) (by kernel_rfl) (by kernel_rfl) (by kernel_rfl)
theorem tf_109 : TyFits Tryz.prog 109 ⟨Tryz.t108.desc, Tryz.t109.size, Tryz.t109.bytes, [(.string ⟨#[]⟩), (.slice none 0 0), (.pointer none)], true⟩ :=
  tyFits_mk Tryz.t109 ((Tryz.t109.zero).getD ud) (by kernel_rfl) (by kernel_rfl) (by kernel_rfl) (by kernel_rfl) (by kernel_rfl) (by kernel_rfl) (by kernel_rfl) (by kernel_rfl) (by kernel_rfl) (by kernel_rfl) (by kernel_rfl)
theorem tf_45 : TyFits Tryz.prog 45 ⟨Tryz.t45.desc, Tryz.t45.size, Tryz.t45.bytes, [(.int .i64 0), (.int .i64 0), (.string ⟨#[]⟩)], true⟩ :=
  tyFits_mk Tryz.t45 ((Tryz.t45.zero).getD ud) (by kernel_rfl) (by kernel_rfl) (by kernel_rfl) (by kernel_rfl) (by kernel_rfl) (by kernel_rfl) (by kernel_rfl) (by kernel_rfl) (by kernel_rfl) (by kernel_rfl) (by kernel_rfl)
theorem tf_285 : TyFits Tryz.prog 285 ⟨Tryz.t285.desc, Tryz.t285.size, Tryz.t285.bytes, [.nilFunc], false⟩ :=
  tyFits_mk Tryz.t285 ((Tryz.t285.zero).getD ud) (by kernel_rfl) (by kernel_rfl) (by kernel_rfl) (by kernel_rfl) (by kernel_rfl) (by kernel_rfl) (by kernel_rfl) (by kernel_rfl) (by kernel_rfl) (by kernel_rfl) (by kernel_rfl)
theorem tf_157 : TyFits Tryz.prog 157 ⟨Tryz.t156.desc, Tryz.t157.size, Tryz.t157.bytes, [(.int .i64 0), (.slice none 0 0)], true⟩ :=
  tyFits_mk Tryz.t157 ((Tryz.t157.zero).getD ud) (by kernel_rfl) (by kernel_rfl) (by kernel_rfl) (by kernel_rfl) (by kernel_rfl) (by kernel_rfl) (by kernel_rfl) (by kernel_rfl) (by kernel_rfl) (by kernel_rfl) (by kernel_rfl)
theorem tf_221 : TyFits Tryz.prog 221 ⟨Tryz.t221.desc, Tryz.t221.size, Tryz.t221.bytes, [.nilFunc], false⟩ :=
  tyFits_mk Tryz.t221 ((Tryz.t221.zero).getD ud) (by kernel_rfl) (by kernel_rfl) (by kernel_rfl) (by kernel_rfl) (by kernel_rfl) (by kernel_rfl) (by kernel_rfl) (by kernel_rfl) (by kernel_rfl) (by kernel_rfl) (by kernel_rfl)
theorem tf_93 : TyFits Tryz.prog 93 ⟨Tryz.t93.desc, Tryz.t93.size, Tryz.t93.bytes, [.nilFunc], false⟩ :=
  tyFits_mk Tryz.t93 ((Tryz.t93.zero).getD ud) (by kernel_rfl) (by kernel_rfl) (by kernel_rfl) (by kernel_rfl) (by kernel_rfl) (by kernel_rfl) (by kernel_rfl) (by kernel_rfl) (by kernel_rfl) (by kernel_rfl) (by kernel_rfl)
theorem tf_189 : TyFits Tryz.prog 189 ⟨Tryz.t189.desc, Tryz.t189.size, Tryz.t189.bytes, [.nilFunc], false⟩ :=
  tyFits_mk Tryz.t189 ((Tryz.t189.zero).getD ud) (by kernel_rfl) (by kernel_rfl) (by kernel_rfl) (by kernel_rfl) (by kernel_rfl) (by kernel_rfl) (by kernel_rfl) (by kernel_rfl) (by kernel_rfl) (by kernel_rfl) (by kernel_rfl)
theorem tf_253 : TyFits Tryz.prog 253 ⟨Tryz.t253.desc, Tryz.t253.size, Tryz.t253.bytes, [(.int .u32 0)], false⟩ :=
  tyFits_mk Tryz.t253 ((Tryz.t253.zero).getD ud) (by kernel_rfl) (by kernel_rfl) (by kernel_rfl) (by kernel_rfl) (by kernel_rfl) (by kernel_rfl) (by kernel_rfl) (by kernel_rfl) (by kernel_rfl) (by kernel_rfl) (by kernel_rfl)
theorem tf_61 : TyFits Tryz.prog 61 ⟨Tryz.t61.desc, Tryz.t61.size, Tryz.t61.bytes, [(.slice none 0 0)], false⟩ :=
  tyFits_mk Tryz.t61 ((Tryz.t61.zero).getD ud) (by kernel_rfl) (by kernel_rfl) (by kernel_rfl) (by kernel_rfl) (by kernel_rfl) (by kernel_rfl) (by kernel_rfl) (by kernel_rfl) (by kernel_rfl) (by kernel_rfl) (by kernel_rfl)
theorem tf_29 : TyFits Tryz.prog 29 ⟨Tryz.t29.desc, Tryz.t29.size, Tryz.t29.bytes, [(.int .i64 0), (.int .i64 0), (.string ⟨#[]⟩), (.int .i64 0), (.string ⟨#[]⟩)], true⟩ :=
  tyFits_mk Tryz.t29 ((Tryz.t29.zero).getD ud) (by kernel_rfl) (by kernel_rfl) (by kernel_rfl) (by kernel_rfl) (by kernel_rfl) (by kernel_rfl) (by kernel_rfl) (by kernel_rfl) (by kernel_rfl) (by kernel_rfl) (by kernel_rfl)
theorem tf_13 : TyFits Tryz.prog 13 ⟨Tryz.t13.desc, Tryz.t13.size, Tryz.t13.bytes, [(.string ⟨#[]⟩), (.int .u64 0)], false⟩ :=
  tyFits_mk Tryz.t13 ((Tryz.t13.zero).getD ud) (by kernel_rfl) (by kernel_rfl) (by kernel_rfl) (by kernel_rfl) (by kernel_rfl) (by kernel_rfl) (by kernel_rfl) (by kernel_rfl) (by kernel_rfl) (by kernel_rfl) (by kernel_rfl)
theorem tf_5 : TyFits Tryz.prog 5 ⟨Tryz.t5.desc, Tryz.t5.size, Tryz.t5.bytes, [(.int .u8 0)], false⟩ :=
  tyFits_mk Tryz.t5 ((Tryz.t5.zero).getD ud) (by kernel_rfl) (by kernel_rfl) (by kernel_rfl) (by kernel_rfl) (by kernel_rfl) (by kernel_rfl) (by kernel_rfl) (by kernel_rfl) (by kernel_rfl) (by kernel_rfl) (by kernel_rfl)
theorem tf_1 : TyFits Tryz.prog 1 ⟨Tryz.t1.desc, Tryz.t1.size, Tryz.t1.bytes, [.nilFunc], false⟩ :=
  tyFits_mk Tryz.t1 ((Tryz.t1.zero).getD ud) (by kernel_rfl) (by kernel_rfl) (by kernel_rfl) (by kernel_rfl) (by kernel_rfl) (by kernel_rfl) (by kernel_rfl) (by kernel_rfl) (by kernel_rfl) (by kernel_rfl) (by kernel_rfl)
theorem tf_256 : TyFits Tryz.prog 256 ⟨Tryz.t256.desc, Tryz.t256.size, Tryz.t256.bytes, [(.pointer none)], false⟩ :=
  tyFits_mk Tryz.t256 ((Tryz.t256.zero).getD ud) (by kernel_rfl) (by kernel_rfl) (by kernel_rfl) (by kernel_rfl) (by kernel_rfl) (by kernel_rfl) (by kernel_rfl) (by kernel_rfl) (by kernel_rfl) (by kernel_rfl) (by kernel_rfl)
theorem tf_128 : TyFits Tryz.prog 128 ⟨Tryz.t128.desc, Tryz.t128.size, Tryz.t128.bytes, [.nilFunc], false⟩ :=
  tyFits_mk Tryz.t128 ((Tryz.t128.zero).getD ud) (by kernel_rfl) (by kernel_rfl) (by kernel_rfl) (by kernel_rfl) (by kernel_rfl) (by kernel_rfl) (by kernel_rfl) (by kernel_rfl) (by kernel_rfl) (by kernel_rfl) (by kernel_rfl)
theorem tf_192 : TyFits Tryz.prog 192 ⟨Tryz.t192.desc, Tryz.t192.size, Tryz.t192.bytes, [.nilFunc], false⟩ :=
  tyFits_mk Tryz.t192 ((Tryz.t192.zero).getD ud) (by kernel_rfl) (by kernel_rfl) (by kernel_rfl) (by kernel_rfl) (by kernel_rfl) (by kernel_rfl) (by kernel_rfl) (by kernel_rfl) (by kernel_rfl) (by kernel_rfl) (by kernel_rfl)
theorem tf_64 : TyFits Tryz.prog 64 ⟨Tryz.t64.desc, Tryz.t64.size, Tryz.t64.bytes, [.nilFunc], false⟩ :=
  tyFits_mk Tryz.t64 ((Tryz.t64.zero).getD ud) (by kernel_rfl) (by kernel_rfl) (by kernel_rfl) (by kernel_rfl) (by kernel_rfl) (by kernel_rfl) (by kernel_rfl) (by kernel_rfl) (by kernel_rfl) (by kernel_rfl) (by kernel_rfl)
theorem tf_288 : TyFits Tryz.prog 288 ⟨Tryz.t288.desc, Tryz.t288.size, Tryz.t288.bytes, [.nilFunc], false⟩ :=
  tyFits_mk Tryz.t288 ((Tryz.t288.zero).getD ud) (by kernel_rfl) (by kernel_rfl) (by kernel_rfl) (by kernel_rfl) (by kernel_rfl) (by kernel_rfl) (by kernel_rfl) (by kernel_rfl) (by kernel_rfl) (by kernel_rfl) (by kernel_rfl)
theorem tf_160 : TyFits Tryz.prog 160 ⟨Tryz.t160.desc, Tryz.t160.size, Tryz.t160.bytes, [.nilFunc], false⟩ :=
  tyFits_mk Tryz.t160 ((Tryz.t160.zero).getD ud) (by kernel_rfl) (by kernel_rfl) (by kernel_rfl) (by kernel_rfl) (by kernel_rfl) (by kernel_rfl) (by kernel_rfl) (by kernel_rfl) (by kernel_rfl) (by kernel_rfl) (by kernel_rfl)
theorem tf_224 : TyFits Tryz.prog 224 ⟨Tryz.t224.desc, Tryz.t224.size, Tryz.t224.bytes, [.nilFunc], false⟩ :=
  tyFits_mk Tryz.t224 ((Tryz.t224.zero).getD ud) (by kernel_rfl) (by kernel_rfl) (by kernel_rfl) (by kernel_rfl) (by kernel_rfl) (by kernel_rfl) (by kernel_rfl) (by kernel_rfl) (by kernel_rfl) (by kernel_rfl) (by kernel_rfl)
theorem tf_96 : TyFits Tryz.prog 96 ⟨Tryz.t96.desc, Tryz.t96.size, Tryz.t96.bytes, [.nilFunc], false⟩ :=
  tyFits_mk Tryz.t96 ((Tryz.t96.zero).getD ud) (by kernel_rfl) (by kernel_rfl) (by kernel_rfl) (by kernel_rfl) (by kernel_rfl) (by kernel_rfl) (by kernel_rfl) (by kernel_rfl) (by kernel_rfl) (by kernel_rfl) (by kernel_rfl)
theorem tf_32 : TyFits Tryz.prog 32 ⟨Tryz.t32.desc, Tryz.t32.size, Tryz.t32.bytes, [.nilFunc], false⟩ :=
  tyFits_mk Tryz.t32 ((Tryz.t32.zero).getD ud) (by kernel_rfl) (by kernel_rfl) (by kernel_rfl) (by kernel_rfl) (by kernel_rfl) (by kernel_rfl) (by kernel_rfl) (by kernel_rfl) (by kernel_rfl) (by kernel_rfl) (by kernel_rfl)
theorem tf_272 : TyFits Tryz.prog 272 ⟨Tryz.t272.desc, Tryz.t272.size, Tryz.t272.bytes, [.nilFunc], false⟩ :=
  tyFits_mk Tryz.t272 ((Tryz.t272.zero).getD ud) (by kernel_rfl) (by kernel_rfl) (by kernel_rfl) (by kernel_rfl) (by kernel_rfl) (by kernel_rfl) (by kernel_rfl) (by kernel_rfl) (by kernel_rfl) (by kernel_rfl) (by kernel_rfl)
theorem tf_144 : TyFits Tryz.prog 144 ⟨Tryz.t144.desc, Tryz.t144.size, Tryz.t144.bytes, [(.slice none 0 0), (.string ⟨#[]⟩)], true⟩ :=
  tyFits_mk Tryz.t144 ((Tryz.t144.zero).getD ud) (by kernel_rfl) (by kernel_rfl) (by kernel_rfl) (by kernel_rfl) (by kernel_rfl) (by kernel_rfl) (by kernel_rfl) (by kernel_rfl) (by kernel_rfl) (by kernel_rfl) (by kernel_rfl)
theorem tf_208 : TyFits Tryz.prog 208 ⟨Tryz.t208.desc, Tryz.t208.size, Tryz.t208.bytes, [.nilFunc], false⟩ :=
  tyFits_mk Tryz.t208 ((Tryz.t208.zero).getD ud) (by kernel_rfl) (by kernel_rfl) (by kernel_rfl) (by kernel_rfl) (by kernel_rfl) (by kernel_rfl) (by kernel_rfl) (by kernel_rfl) (by kernel_rfl) (by kernel_rfl) (by kernel_rfl)
theorem tf_304 : TyFits Tryz.prog 304 ⟨Tryz.t303.desc, Tryz.t304.size, Tryz.t304.bytes, [], false⟩ :=
  tyFits_mk Tryz.t304 ((Tryz.t304.zero).getD ud) (by kernel_rfl) (by kernel_rfl) (by kernel_rfl) (by kernel_rfl) (by kernel_rfl) (by kernel_rfl) (by kernel_rfl) (by kernel_rfl) (by kernel_rfl) (by kernel_rfl) (by kernel_rfl)
theorem tf_176 : TyFits Tryz.prog 176 ⟨Tryz.t176.desc, Tryz.t176.size, Tryz.t176.bytes, [(.int .i64 0), (.int .i64 0), (.string ⟨#[]⟩), (.slice none 0 0)], true⟩ :=
  tyFits_mk Tryz.t176 ((Tryz.t176.zero).getD ud) (by kernel_rfl) (by kernel_rfl) (by kernel_rfl) (by kernel_rfl) (by kernel_rfl) (by kernel_rfl) (by kernel_rfl) (by kernel_rfl) (by kernel_rfl) (by kernel_rfl) (by kernel_rfl)
theorem tf_240 : TyFits Tryz.prog 240 ⟨Tryz.t240.desc, Tryz.t240.size, Tryz.t240.bytes, [.nilFunc], false⟩ :=
  tyFits_mk Tryz.t240 ((Tryz.t240.zero).getD ud) (by kernel_rfl) (by kernel_rfl) (by kernel_rfl) (by kernel_rfl) (by kernel_rfl) (by kernel_rfl) (by kernel_rfl) (by kernel_rfl) (by kernel_rfl) (by kernel_rfl) (by kernel_rfl)
theorem tf_48 : TyFits Tryz.prog 48 ⟨Tryz.t48.desc, Tryz.t48.size, Tryz.t48.bytes, [.nilFunc], false⟩ :=
  tyFits_mk Tryz.t48 ((Tryz.t48.zero).getD ud) (by kernel_rfl) (by kernel_rfl) (by kernel_rfl) (by kernel_rfl) (by kernel_rfl) (by kernel_rfl) (by kernel_rfl) (by kernel_rfl) (by kernel_rfl) (by kernel_rfl) (by kernel_rfl)
theorem tf_16 : TyFits Tryz.prog 16 ⟨Tryz.t16.desc, Tryz.t16.size, Tryz.t16.bytes, [(.pointer none)], false⟩ :=
  tyFits_mk Tryz.t16 ((Tryz.t16.zero).getD ud) (by kernel_rfl) (by kernel_rfl) (by kernel_rfl) (by kernel_rfl) (by kernel_rfl) (by kernel_rfl) (by kernel_rfl) (by kernel_rfl) (by kernel_rfl) (by kernel_rfl) (by kernel_rfl)
theorem tf_264 : TyFits Tryz.prog 264 ⟨Tryz.t264.desc, Tryz.t264.size, Tryz.t264.bytes, [.nilFunc], false⟩ :=
  tyFits_mk Tryz.t264 ((Tryz.t264.zero).getD ud) (by kernel_rfl) (by kernel_rfl) (by kernel_rfl) (by kernel_rfl) (by kernel_rfl) (by kernel_rfl) (by kernel_rfl) (by kernel_rfl) (by kernel_rfl) (by kernel_rfl) (by kernel_rfl)
theorem tf_136 : TyFits Tryz.prog 136 ⟨Tryz.t136.desc, Tryz.t136.size, Tryz.t136.bytes, [(.string ⟨#[]⟩), (.int .i64 0), (.bool false), (.string ⟨#[]⟩)], true⟩ :=
  tyFits_mk Tryz.t136 ((Tryz.t136.zero).getD ud) (by kernel_rfl) (by kernel_rfl) (by kernel_rfl) (by kernel_rfl) (by kernel_rfl) (by kernel_rfl) (by kernel_rfl) (by kernel_rfl) (by kernel_rfl) (by kernel_rfl) (by kernel_rfl)
theorem tf_200 : TyFits Tryz.prog 200 ⟨Tryz.t200.desc, Tryz.t200.size, Tryz.t200.bytes, [.nilFunc], false⟩ :=
  tyFits_mk Tryz.t200 ((Tryz.t200.zero).getD ud) (by kernel_rfl) (by kernel_rfl) (by kernel_rfl) (by kernel_rfl) (by kernel_rfl) (by kernel_rfl) (by kernel_rfl) (by kernel_rfl) (by kernel_rfl) (by kernel_rfl) (by kernel_rfl)
theorem tf_72 : TyFits Tryz.prog 72 ⟨Tryz.t72.desc, Tryz.t72.size, Tryz.t72.bytes, [.nilFunc], false⟩ :=
  tyFits_mk Tryz.t72 ((Tryz.t72.zero).getD ud) (by kernel_rfl) (by kernel_rfl) (by kernel_rfl) (by kernel_rfl) (by kernel_rfl) (by kernel_rfl) (by kernel_rfl) (by kernel_rfl) (by kernel_rfl) (by kernel_rfl) (by kernel_rfl)
theorem tf_296 : TyFits Tryz.prog 296 ⟨Tryz.t296.desc, Tryz.t296.size, Tryz.t296.bytes, [.nilFunc], false⟩ :=
  tyFits_mk Tryz.t296 ((Tryz.t296.zero).getD ud) (by kernel_rfl) (by kernel_rfl) (by kernel_rfl) (by kernel_rfl) (by kernel_rfl) (by kernel_rfl) (by kernel_rfl) (by kernel_rfl) (by kernel_rfl) (by kernel_rfl) (by kernel_rfl)
theorem tf_168 : TyFits Tryz.prog 168 ⟨Tryz.t168.desc, Tryz.t168.size, Tryz.t168.bytes, [.nilFunc], false⟩ :=
  tyFits_mk Tryz.t168 ((Tryz.t168.zero).getD ud) (by kernel_rfl) (by kernel_rfl) (by kernel_rfl) (by kernel_rfl) (by kernel_rfl) (by kernel_rfl) (by kernel_rfl) (by kernel_rfl) (by kernel_rfl) (by kernel_rfl) (by kernel_rfl)
theorem tf_232 : TyFits Tryz.prog 232 ⟨Tryz.t231.desc, Tryz.t232.size, Tryz.t232.bytes, [(.pointer none)], true⟩ :=
  tyFits_mk Tryz.t232 ((Tryz.t232.zero).getD ud) (by kernel_rfl) (by kernel_rfl) (by kernel_rfl) (by kernel_rfl) (by kernel_rfl) (by kernel_rfl) (by kernel_rfl) (by kernel_rfl) (by kernel_rfl) (by kernel_rfl) (by kernel_rfl)
theorem tf_104 : TyFits Tryz.prog 104 ⟨Tryz.t104.desc, Tryz.t104.size, Tryz.t104.bytes, [.nilFunc], false⟩ :=
  tyFits_mk Tryz.t104 ((Tryz.t104.zero).getD ud) (by kernel_rfl) (by kernel_rfl) (by kernel_rfl) (by kernel_rfl) (by kernel_rfl) (by kernel_rfl) (by kernel_rfl) (by kernel_rfl) (by kernel_rfl) (by kernel_rfl) (by kernel_rfl)
theorem tf_40 : TyFits Tryz.prog 40 ⟨Tryz.t40.desc, Tryz.t40.size, Tryz.t40.bytes, [.nilFunc], false⟩ :=
  tyFits_mk Tryz.t40 ((Tryz.t40.zero).getD ud) (by kernel_rfl) (by kernel_rfl) (by kernel_rfl) (by kernel_rfl) (by kernel_rfl) (by kernel_rfl) (by kernel_rfl) (by kernel_rfl) (by kernel_rfl) (by kernel_rfl) (by kernel_rfl)
theorem tf_280 : TyFits Tryz.prog 280 ⟨Tryz.t280.desc, Tryz.t280.size, Tryz.t280.bytes, [(.slice none 0 0)], false⟩ :=
  tyFits_mk Tryz.t280 ((Tryz.t280.zero).getD ud) (by kernel_rfl) (by kernel_rfl) (by kernel_rfl) (by kernel_rfl) (by kernel_rfl) (by kernel_rfl) (by kernel_rfl) (by kernel_rfl) (by kernel_rfl) (by kernel_rfl) (by kernel_rfl)
theorem tf_152 : TyFits Tryz.prog 152 ⟨Tryz.t152.desc, Tryz.t152.size, Tryz.t152.bytes, [.nilFunc], false⟩ :=
  tyFits_mk Tryz.t152 ((Tryz.t152.zero).getD ud) (by kernel_rfl) (by kernel_rfl) (by kernel_rfl) (by kernel_rfl) (by kernel_rfl) (by kernel_rfl) (by kernel_rfl) (by kernel_rfl) (by kernel_rfl) (by kernel_rfl) (by kernel_rfl)
theorem tf_216 : TyFits Tryz.prog 216 ⟨Tryz.t216.desc, Tryz.t216.size, Tryz.t216.bytes, [.nilFunc], false⟩ :=
  tyFits_mk Tryz.t216 ((Tryz.t216.zero).getD ud) (by kernel_rfl) (by kernel_rfl) (by kernel_rfl) (by kernel_rfl) (by kernel_rfl) (by kernel_rfl) (by kernel_rfl) (by kernel_rfl) (by kernel_rfl) (by kernel_rfl) (by kernel_rfl)
theorem tf_88 : TyFits Tryz.prog 88 ⟨Tryz.t88.desc, Tryz.t88.size, Tryz.t88.bytes, [(.slice none 0 0)], false⟩ :=
  tyFits_mk Tryz.t88 ((Tryz.t88.zero).getD ud) (by kernel_rfl) (by kernel_rfl) (by kernel_rfl) (by kernel_rfl) (by kernel_rfl) (by kernel_rfl) (by kernel_rfl) (by kernel_rfl) (by kernel_rfl) (by kernel_rfl) (by kernel_rfl)
theorem tf_312 : TyFits Tryz.prog 312 ⟨Tryz.t311.desc, Tryz.t312.size, Tryz.t312.bytes, [(.int .u64 0), (.int .u64 0), (.int .u32 0), (.int .u8 0), (.int .u8 0), (.int .u8 0), (.int .u8 0), .nilFunc, (.pointer none), (.int .i32 0), (.int .i32 0)], false⟩ :=
  tyFits_mk Tryz.t312 ((Tryz.t312.zero).getD ud) (by kernel_rfl) (by kernel_rfl) (by kernel_rfl) (by kernel_rfl) (by kernel_rfl) (by kernel_rfl) (by kernel_rfl) (by kernel_rfl) (by kernel_rfl) (by kernel_rfl) (by kernel_rfl)
theorem tf_184 : TyFits Tryz.prog 184 ⟨Tryz.t184.desc, Tryz.t184.size, Tryz.t184.bytes, [.nilFunc], false⟩ :=
  tyFits_mk Tryz.t184 ((Tryz.t184.zero).getD ud) (by kernel_rfl) (by kernel_rfl) (by kernel_rfl) (by kernel_rfl) (by kernel_rfl) (by kernel_rfl) (by kernel_rfl) (by kernel_rfl) (by kernel_rfl) (by kernel_rfl) (by kernel_rfl)
theorem tf_248 : TyFits Tryz.prog 248 ⟨Tryz.t248.desc, Tryz.t248.size, Tryz.t248.bytes, [.nilFunc], false⟩ :=
  tyFits_mk Tryz.t248 ((Tryz.t248.zero).getD ud) (by kernel_rfl) (by kernel_rfl) (by kernel_rfl) (by kernel_rfl) (by kernel_rfl) (by kernel_rfl) (by kernel_rfl) (by kernel_rfl) (by kernel_rfl) (by kernel_rfl) (by kernel_rfl)
theorem tf_120 : TyFits Tryz.prog 120 ⟨Tryz.t120.desc, Tryz.t120.size, Tryz.t120.bytes, [.nilFunc], false⟩ :=
  tyFits_mk Tryz.t120 ((Tryz.t120.zero).getD ud) (by kernel_rfl) (by kernel_rfl) (by kernel_rfl) (by kernel_rfl) (by kernel_rfl) (by kernel_rfl) (by kernel_rfl) (by kernel_rfl) (by kernel_rfl) (by kernel_rfl) (by kernel_rfl)
theorem tf_56 : TyFits Tryz.prog 56 ⟨Tryz.t56.desc, Tryz.t56.size, Tryz.t56.bytes, [.nilFunc], false⟩ :=
  tyFits_mk Tryz.t56 ((Tryz.t56.zero).getD ud) (by kernel_rfl) (by kernel_rfl) (by kernel_rfl) (by kernel_rfl) (by kernel_rfl) (by kernel_rfl) (by kernel_rfl) (by kernel_rfl) (by kernel_rfl) (by kernel_rfl) (by kernel_rfl)
theorem tf_24 : TyFits Tryz.prog 24 ⟨Tryz.t24.desc, Tryz.t24.size, Tryz.t24.bytes, [(.pointer none)], false⟩ :=
  tyFits_mk Tryz.t24 ((Tryz.t24.zero).getD ud) (by kernel_rfl) (by kernel_rfl) (by kernel_rfl) (by kernel_rfl) (by kernel_rfl) (by kernel_rfl) (by kernel_rfl) (by kernel_rfl) (by kernel_rfl) (by kernel_rfl) (by kernel_rfl)
theorem tf_8 : TyFits Tryz.prog 8 ⟨Tryz.t7.desc, Tryz.t8.size, Tryz.t8.bytes, [(.int .i64 0), (.int .i64 0), (.bool false), (.int .u8 0)], true⟩ :=
  tyFits_mk Tryz.t8 ((Tryz.t8.zero).getD ud) (by kernel_rfl) (by kernel_rfl) (by kernel_rfl) (by kernel_rfl) (by kernel_rfl) (by kernel_rfl) (by kernel_rfl) (by kernel_rfl) (by kernel_rfl) (by kernel_rfl) (by kernel_rfl)
theorem tf_260 : TyFits Tryz.prog 260 ⟨Tryz.t260.desc, Tryz.t260.size, Tryz.t260.bytes, [.nilFunc], false⟩ :=
  tyFits_mk Tryz.t260 ((Tryz.t260.zero).getD ud) (by kernel_rfl) (by kernel_rfl) (by kernel_rfl) (by kernel_rfl) (by kernel_rfl) (by kernel_rfl) (by kernel_rfl) (by kernel_rfl) (by kernel_rfl) (by kernel_rfl) (by kernel_rfl)
theorem tf_132 : TyFits Tryz.prog 132 ⟨Tryz.t132.desc, Tryz.t132.size, Tryz.t132.bytes, [.nilFunc], false⟩ :=
  tyFits_mk Tryz.t132 ((Tryz.t132.zero).getD ud) (by kernel_rfl) (by kernel_rfl) (by kernel_rfl) (by kernel_rfl) (by kernel_rfl) (by kernel_rfl) (by kernel_rfl) (by kernel_rfl) (by kernel_rfl) (by kernel_rfl) (by kernel_rfl)
theorem tf_196 : TyFits Tryz.prog 196 ⟨Tryz.t196.desc, Tryz.t196.size, Tryz.t196.bytes, [.nilFunc], false⟩ :=
  tyFits_mk Tryz.t196 ((Tryz.t196.zero).getD ud) (by kernel_rfl) (by kernel_rfl) (by kernel_rfl) (by kernel_rfl) (by kernel_rfl) (by kernel_rfl) (by kernel_rfl) (by kernel_rfl) (by kernel_rfl) (by kernel_rfl) (by kernel_rfl)
theorem tf_68 : TyFits Tryz.prog 68 ⟨Tryz.t68.desc, Tryz.t68.size, Tryz.t68.bytes, [.nilFunc], false⟩ :=
  tyFits_mk Tryz.t68 ((Tryz.t68.zero).getD ud) (by kernel_rfl) (by kernel_rfl) (by kernel_rfl) (by kernel_rfl) (by kernel_rfl) (by kernel_rfl) (by kernel_rfl) (by kernel_rfl) (by kernel_rfl) (by kernel_rfl) (by kernel_rfl)
theorem tf_292 : TyFits Tryz.prog 292 ⟨Tryz.t292.desc, Tryz.t292.size, Tryz.t292.bytes, [.nilFunc], false⟩ :=
  tyFits_mk Tryz.t292 ((Tryz.t292.zero).getD ud) (by kernel_rfl) (by kernel_rfl) (by kernel_rfl) (by kernel_rfl) (by kernel_rfl) (by kernel_rfl) (by kernel_rfl) (by kernel_rfl) (by kernel_rfl) (by kernel_rfl) (by kernel_rfl)
theorem tf_164 : TyFits Tryz.prog 164 ⟨Tryz.t164.desc, Tryz.t164.size, Tryz.t164.bytes, [.nilFunc], false⟩ :=
  tyFits_mk Tryz.t164 ((Tryz.t164.zero).getD ud) (by kernel_rfl) (by kernel_rfl) (by kernel_rfl) (by kernel_rfl) (by kernel_rfl) (by kernel_rfl) (by kernel_rfl) (by kernel_rfl) (by kernel_rfl) (by kernel_rfl) (by kernel_rfl)
theorem tf_228 : TyFits Tryz.prog 228 ⟨Tryz.t228.desc, Tryz.t228.size, Tryz.t228.bytes, [.nilFunc], false⟩ :=
  tyFits_mk Tryz.t228 ((Tryz.t228.zero).getD ud) (by kernel_rfl) (by kernel_rfl) (by kernel_rfl) (by kernel_rfl) (by kernel_rfl) (by kernel_rfl) (by kernel_rfl) (by kernel_rfl) (by kernel_rfl) (by kernel_rfl) (by kernel_rfl)
theorem tf_100 : TyFits Tryz.prog 100 ⟨Tryz.t100.desc, Tryz.t100.size, Tryz.t100.bytes, [(.slice none 0 0)], false⟩ :=
  tyFits_mk Tryz.t100 ((Tryz.t100.zero).getD ud) (by kernel_rfl) (by kernel_rfl) (by kernel_rfl) (by kernel_rfl) (by kernel_rfl) (by kernel_rfl) (by kernel_rfl) (by kernel_rfl) (by kernel_rfl) (by kernel_rfl) (by kernel_rfl)
theorem tf_276 : TyFits Tryz.prog 276 ⟨Tryz.t276.desc, Tryz.t276.size, Tryz.t276.bytes, [.nilFunc], false⟩ :=
  tyFits_mk Tryz.t276 ((Tryz.t276.zero).getD ud) (by kernel_rfl) (by kernel_rfl) (by kernel_rfl) (by kernel_rfl) (by kernel_rfl) (by kernel_rfl) (by kernel_rfl) (by kernel_rfl) (by kernel_rfl) (by kernel_rfl) (by kernel_rfl)
theorem tf_212 : TyFits Tryz.prog 212 ⟨Tryz.t212.desc, Tryz.t212.size, Tryz.t212.bytes, [.nilFunc], false⟩ :=
  tyFits_mk Tryz.t212 ((Tryz.t212.zero).getD ud) (by kernel_rfl) (by kernel_rfl) (by kernel_rfl) (by kernel_rfl) (by kernel_rfl) (by kernel_rfl) (by kernel_rfl) (by kernel_rfl) (by kernel_rfl) (by kernel_rfl) (by kernel_rfl)
theorem tf_84 : TyFits Tryz.prog 84 ⟨Tryz.t84.desc, Tryz.t84.size, Tryz.t84.bytes, [(.slice none 0 0)], false⟩ :=
  tyFits_mk Tryz.t84 ((Tryz.t84.zero).getD ud) (by kernel_rfl) (by kernel_rfl) (by kernel_rfl) (by kernel_rfl) (by kernel_rfl) (by kernel_rfl) (by kernel_rfl) (by kernel_rfl) (by kernel_rfl) (by kernel_rfl) (by kernel_rfl)
theorem tf_308 : TyFits Tryz.prog 308 ⟨Tryz.t308.desc, Tryz.t308.size, Tryz.t308.bytes, [(.pointer none)], false⟩ :=
  tyFits_mk Tryz.t308 ((Tryz.t308.zero).getD ud) (by kernel_rfl) (by kernel_rfl) (by kernel_rfl) (by kernel_rfl) (by kernel_rfl) (by kernel_rfl) (by kernel_rfl) (by kernel_rfl) (by kernel_rfl) (by kernel_rfl) (by kernel_rfl)
theorem tf_180 : TyFits Tryz.prog 180 ⟨Tryz.t180.desc, Tryz.t180.size, Tryz.t180.bytes, [.nilFunc, (.slice none 0 0)], true⟩ :=
  tyFits_mk Tryz.t180 ((Tryz.t180.zero).getD ud) (by kernel_rfl) (by kernel_rfl) (by kernel_rfl) (by kernel_rfl) (by kernel_rfl) (by kernel_rfl) (by kernel_rfl) (by kernel_rfl) (by kernel_rfl) (by kernel_rfl) (by kernel_rfl)
theorem tf_244 : TyFits Tryz.prog 244 ⟨Tryz.t244.desc, Tryz.t244.size, Tryz.t244.bytes, [.nilFunc], false⟩ :=
  tyFits_mk Tryz.t244 ((Tryz.t244.zero).getD ud) (by kernel_rfl) (by kernel_rfl) (by kernel_rfl) (by kernel_rfl) (by kernel_rfl) (by kernel_rfl) (by kernel_rfl) (by kernel_rfl) (by kernel_rfl) (by kernel_rfl) (by kernel_rfl)
theorem tf_116 : TyFits Tryz.prog 116 ⟨Tryz.t116.desc, Tryz.t116.size, Tryz.t116.bytes, [.nilFunc], false⟩ :=
  tyFits_mk Tryz.t116 ((Tryz.t116.zero).getD ud) (by kernel_rfl) (by kernel_rfl) (by kernel_rfl) (by kernel_rfl) (by kernel_rfl) (by kernel_rfl) (by kernel_rfl) (by kernel_rfl) (by kernel_rfl) (by kernel_rfl) (by kernel_rfl)
theorem tf_52 : TyFits Tryz.prog 52 ⟨Tryz.t52.desc, Tryz.t52.size, Tryz.t52.bytes, [.nilFunc], false⟩ :=
  tyFits_mk Tryz.t52 ((Tryz.t52.zero).getD ud) (by kernel_rfl) (by kernel_rfl) (by kernel_rfl) (by kernel_rfl) (by kernel_rfl) (by kernel_rfl) (by kernel_rfl) (by kernel_rfl) (by kernel_rfl) (by kernel_rfl) (by kernel_rfl)
theorem tf_20 : TyFits Tryz.prog 20 ⟨Tryz.t20.desc, Tryz.t20.size, Tryz.t20.bytes, [.nilIface], false⟩ :=
  tyFits_mk Tryz.t20 ((Tryz.t20.zero).getD ud) (by kernel_rfl) (by kernel_rfl) (by kernel_rfl) (by kernel_rfl) (by kernel_rfl) (by kernel_rfl) (by kernel_rfl) (by kernel_rfl) (by kernel_rfl) (by kernel_rfl) (by kernel_rfl)
theorem tf_268 : TyFits Tryz.prog 268 ⟨Tryz.t268.desc, Tryz.t268.size, Tryz.t268.bytes, [.nilFunc], false⟩ :=
  tyFits_mk Tryz.t268 ((Tryz.t268.zero).getD ud) (by kernel_rfl) (by kernel_rfl) (by kernel_rfl) (by kernel_rfl) (by kernel_rfl) (by kernel_rfl) (by kernel_rfl) (by kernel_rfl) (by kernel_rfl) (by kernel_rfl) (by kernel_rfl)
theorem tf_140 : TyFits Tryz.prog 140 ⟨Tryz.t140.desc, Tryz.t140.size, Tryz.t140.bytes, [.nilFunc], false⟩ :=
  tyFits_mk Tryz.t140 ((Tryz.t140.zero).getD ud) (by kernel_rfl) (by kernel_rfl) (by kernel_rfl) (by kernel_rfl) (by kernel_rfl) (by kernel_rfl) (by kernel_rfl) (by kernel_rfl) (by kernel_rfl) (by kernel_rfl) (by kernel_rfl)
theorem tf_204 : TyFits Tryz.prog 204 ⟨Tryz.t204.desc, Tryz.t204.size, Tryz.t204.bytes, [.nilFunc], false⟩ :=
  tyFits_mk Tryz.t204 ((Tryz.t204.zero).getD ud) (by kernel_rfl) (by kernel_rfl) (by kernel_rfl) (by kernel_rfl) (by kernel_rfl) (by kernel_rfl) (by kernel_rfl) (by kernel_rfl) (by kernel_rfl) (by kernel_rfl) (by kernel_rfl)
theorem tf_76 : TyFits Tryz.prog 76 ⟨Tryz.t76.desc, Tryz.t76.size, Tryz.t76.bytes, [.nilFunc], false⟩ :=
  tyFits_mk Tryz.t76 ((Tryz.t76.zero).getD ud) (by kernel_rfl) (by kernel_rfl) (by kernel_rfl) (by kernel_rfl) (by kernel_rfl) (by kernel_rfl) (by kernel_rfl) (by kernel_rfl) (by kernel_rfl) (by kernel_rfl) (by kernel_rfl)
theorem tf_300 : TyFits Tryz.prog 300 ⟨Tryz.t300.desc, Tryz.t300.size, Tryz.t300.bytes, [(.pointer none), (.pointer none), (.pointer none), (.string ⟨#[]⟩)], false⟩ :=
  tyFits_mk Tryz.t300 ((Tryz.t300.zero).getD ud) (by kernel_rfl) (by kernel_rfl) (by kernel_rfl) (by kernel_rfl) (by kernel_rfl) (by kernel_rfl) (by kernel_rfl) (by kernel_rfl) (by kernel_rfl) (by kernel_rfl) (by kernel_rfl)
theorem tf_172 : TyFits Tryz.prog 172 ⟨Tryz.t172.desc, Tryz.t172.size, Tryz.t172.bytes, [.nilFunc], false⟩ :=
  tyFits_mk Tryz.t172 ((Tryz.t172.zero).getD ud) (by kernel_rfl) (by kernel_rfl) (by kernel_rfl) (by kernel_rfl) (by kernel_rfl) (by kernel_rfl) (by kernel_rfl) (by kernel_rfl) (by kernel_rfl) (by kernel_rfl) (by kernel_rfl)
theorem tf_236 : TyFits Tryz.prog 236 ⟨Tryz.t236.desc, Tryz.t236.size, Tryz.t236.bytes, [.nilFunc], false⟩ :=
  tyFits_mk Tryz.t236 ((Tryz.t236.zero).getD ud) (by kernel_rfl) (by kernel_rfl) (by kernel_rfl) (by kernel_rfl) (by kernel_rfl) (by kernel_rfl) (by kernel_rfl) (by kernel_rfl) (by kernel_rfl) (by kernel_rfl) (by kernel_rfl)
theorem tf_108 : TyFits Tryz.prog 108 ⟨Tryz.t108.desc, Tryz.t108.size, Tryz.t108.bytes, [(.string ⟨#[]⟩), (.slice none 0 0), (.pointer none)], true⟩ :=
  tyFits_mk Tryz.t108 ((Tryz.t108.zero).getD ud) (by kernel_rfl) (by kernel_rfl) (by kernel_rfl) (by kernel_rfl) (by kernel_rfl) (by kernel_rfl) (by kernel_rfl) (by kernel_rfl) (by kernel_rfl) (by kernel_rfl) (by kernel_rfl)
theorem tf_44 : TyFits Tryz.prog 44 ⟨Tryz.t44.desc, Tryz.t44.size, Tryz.t44.bytes, [.nilFunc], false⟩ :=
  tyFits_mk Tryz.t44 ((Tryz.t44.zero).getD ud) (by kernel_rfl) (by kernel_rfl) (by kernel_rfl) (by kernel_rfl) (by kernel_rfl) (by kernel_rfl) (by kernel_rfl) (by kernel_rfl) (by kernel_rfl) (by kernel_rfl) (by kernel_rfl)
theorem tf_284 : TyFits Tryz.prog 284 ⟨Tryz.t284.desc, Tryz.t284.size, Tryz.t284.bytes, [.nilFunc], false⟩ :=
  tyFits_mk Tryz.t284 ((Tryz.t284.zero).getD ud) (by kernel_rfl) (by kernel_rfl) (by kernel_rfl) (by kernel_rfl) (by kernel_rfl) (by kernel_rfl) (by kernel_rfl) (by kernel_rfl) (by kernel_rfl) (by kernel_rfl) (by kernel_rfl)
theorem tf_156 : TyFits Tryz.prog 156 ⟨Tryz.t156.desc, Tryz.t156.size, Tryz.t156.bytes, [(.int .i64 0), (.slice none 0 0)], true⟩ :=
  tyFits_mk Tryz.t156 ((Tryz.t156.zero).getD ud) (by kernel_rfl) (by kernel_rfl) (by kernel_rfl) (by kernel_rfl) (by kernel_rfl) (by kernel_rfl) (by kernel_rfl) (by kernel_rfl) (by kernel_rfl) (by kernel_rfl) (by kernel_rfl)
theorem tf_220 : TyFits Tryz.prog 220 ⟨Tryz.t220.desc, Tryz.t220.size, Tryz.t220.bytes, [.nilFunc], false⟩ :=
  tyFits_mk Tryz.t220 ((Tryz.t220.zero).getD ud) (by kernel_rfl) (by kernel_rfl) (by kernel_rfl) (by kernel_rfl) (by kernel_rfl) (by kernel_rfl) (by kernel_rfl) (by kernel_rfl) (by kernel_rfl) (by kernel_rfl) (by kernel_rfl)
theorem tf_92 : TyFits Tryz.prog 92 ⟨Tryz.t92.desc, Tryz.t92.size, Tryz.t92.bytes, [.nilFunc], false⟩ :=
  tyFits_mk Tryz.t92 ((Tryz.t92.zero).getD ud) (by kernel_rfl) (by kernel_rfl) (by kernel_rfl) (by kernel_rfl) (by kernel_rfl) (by kernel_rfl) (by kernel_rfl) (by kernel_rfl) (by kernel_rfl) (by kernel_rfl) (by kernel_rfl)
theorem tf_316 : TyFits Tryz.prog 316 ⟨Tryz.t315.desc, Tryz.t316.size, Tryz.t316.bytes, [.nilFunc], false⟩ :=
  tyFits_mk Tryz.t316 ((Tryz.t316.zero).getD ud) (by kernel_rfl) (by kernel_rfl) (by kernel_rfl) (by kernel_rfl) (by kernel_rfl) (by kernel_rfl) (by kernel_rfl) (by kernel_rfl) (by kernel_rfl) (by kernel_rfl) (by kernel_rfl)
theorem tf_188 : TyFits Tryz.prog 188 ⟨Tryz.t188.desc, Tryz.t188.size, Tryz.t188.bytes, [.nilFunc], false⟩ :=
  tyFits_mk Tryz.t188 ((Tryz.t188.zero).getD ud) (by kernel_rfl) (by kernel_rfl) (by kernel_rfl) (by kernel_rfl) (by kernel_rfl) (by kernel_rfl) (by kernel_rfl) (by kernel_rfl) (by kernel_rfl) (by kernel_rfl) (by kernel_rfl)
theorem tf_252 : TyFits Tryz.prog 252 ⟨Tryz.t252.desc, Tryz.t252.size, Tryz.t252.bytes, [.nilFunc], false⟩ :=
  tyFits_mk Tryz.t252 ((Tryz.t252.zero).getD ud) (by kernel_rfl) (by kernel_rfl) (by kernel_rfl) (by kernel_rfl) (by kernel_rfl) (by kernel_rfl) (by kernel_rfl) (by kernel_rfl) (by kernel_rfl) (by kernel_rfl) (by kernel_rfl)
theorem tf_124 : TyFits Tryz.prog 124 ⟨Tryz.t124.desc, Tryz.t124.size, Tryz.t124.bytes, [.nilFunc], false⟩ :=
  tyFits_mk Tryz.t124 ((Tryz.t124.zero).getD ud) (by kernel_rfl) (by kernel_rfl) (by kernel_rfl) (by kernel_rfl) (by kernel_rfl) (by kernel_rfl) (by kernel_rfl) (by kernel_rfl) (by kernel_rfl) (by kernel_rfl) (by kernel_rfl)
theorem tf_60 : TyFits Tryz.prog 60 ⟨Tryz.t60.desc, Tryz.t60.size, Tryz.t60.bytes, [.nilFunc], false⟩ :=
  tyFits_mk Tryz.t60 ((Tryz.t60.zero).getD ud) (by kernel_rfl) (by kernel_rfl) (by kernel_rfl) (by kernel_rfl) (by kernel_rfl) (by kernel_rfl) (by kernel_rfl) (by kernel_rfl) (by kernel_rfl) (by kernel_rfl) (by kernel_rfl)
theorem tf_28 : TyFits Tryz.prog 28 ⟨Tryz.t3.desc, Tryz.t28.size, Tryz.t28.bytes, [(.int .i64 0)], false⟩ :=
  tyFits_mk Tryz.t28 ((Tryz.t28.zero).getD ud) (by kernel_rfl) (by kernel_rfl) (by kernel_rfl) (by kernel_rfl) (by kernel_rfl) (by kernel_rfl) (by kernel_rfl) (by kernel_rfl) (by kernel_rfl) (by kernel_rfl) (by kernel_rfl)
theorem tf_12 : TyFits Tryz.prog 12 ⟨Tryz.t12.desc, Tryz.t12.size, Tryz.t12.bytes, [(.int .u64 0)], false⟩ :=
  tyFits_mk Tryz.t12 ((Tryz.t12.zero).getD ud) (by kernel_rfl) (by kernel_rfl) (by kernel_rfl) (by kernel_rfl) (by kernel_rfl) (by kernel_rfl) (by kernel_rfl) (by kernel_rfl) (by kernel_rfl) (by kernel_rfl) (by kernel_rfl)
theorem tf_4 : TyFits Tryz.prog 4 ⟨Tryz.t4.desc, Tryz.t4.size, Tryz.t4.bytes, [(.bool false)], false⟩ :=
  tyFits_mk Tryz.t4 ((Tryz.t4.zero).getD ud) (by kernel_rfl) (by kernel_rfl) (by kernel_rfl) (by kernel_rfl) (by kernel_rfl) (by kernel_rfl) (by kernel_rfl) (by kernel_rfl) (by kernel_rfl) (by kernel_rfl) (by kernel_rfl)
theorem tf_258 : TyFits Tryz.prog 258 ⟨Tryz.t258.desc, Tryz.t258.size, Tryz.t258.bytes, [.nilFunc], false⟩ :=
  tyFits_mk Tryz.t258 ((Tryz.t258.zero).getD ud) (by kernel_rfl) (by kernel_rfl) (by kernel_rfl) (by kernel_rfl) (by kernel_rfl) (by kernel_rfl) (by kernel_rfl) (by kernel_rfl) (by kernel_rfl) (by kernel_rfl) (by kernel_rfl)
theorem tf_130 : TyFits Tryz.prog 130 ⟨Tryz.t130.desc, Tryz.t130.size, Tryz.t130.bytes, [.nilFunc], false⟩ :=
  tyFits_mk Tryz.t130 ((Tryz.t130.zero).getD ud) (by kernel_rfl) (by kernel_rfl) (by kernel_rfl) (by kernel_rfl) (by kernel_rfl) (by kernel_rfl) (by kernel_rfl) (by kernel_rfl) (by kernel_rfl) (by kernel_rfl) (by kernel_rfl)
theorem tf_194 : TyFits Tryz.prog 194 ⟨Tryz.t194.desc, Tryz.t194.size, Tryz.t194.bytes, [.nilFunc], false⟩ :=
  tyFits_mk Tryz.t194 ((Tryz.t194.zero).getD ud) (by kernel_rfl) (by kernel_rfl) (by kernel_rfl) (by kernel_rfl) (by kernel_rfl) (by kernel_rfl) (by kernel_rfl) (by kernel_rfl) (by kernel_rfl) (by kernel_rfl) (by kernel_rfl)
theorem tf_66 : TyFits Tryz.prog 66 ⟨Tryz.t66.desc, Tryz.t66.size, Tryz.t66.bytes, [.nilFunc], false⟩ :=
  tyFits_mk Tryz.t66 ((Tryz.t66.zero).getD ud) (by kernel_rfl) (by kernel_rfl) (by kernel_rfl) (by kernel_rfl) (by kernel_rfl) (by kernel_rfl) (by kernel_rfl) (by kernel_rfl) (by kernel_rfl) (by kernel_rfl) (by kernel_rfl)
theorem tf_162 : TyFits Tryz.prog 162 ⟨Tryz.t162.desc, Tryz.t162.size, Tryz.t162.bytes, [.nilFunc], false⟩ :=
  tyFits_mk Tryz.t162 ((Tryz.t162.zero).getD ud) (by kernel_rfl) (by kernel_rfl) (by kernel_rfl) (by kernel_rfl) (by kernel_rfl) (by kernel_rfl) (by kernel_rfl) (by kernel_rfl) (by kernel_rfl) (by kernel_rfl) (by kernel_rfl)
theorem tf_226 : TyFits Tryz.prog 226 ⟨Tryz.t226.desc, Tryz.t226.size, Tryz.t226.bytes, [(.int .u64 0)], false⟩ :=
  tyFits_mk Tryz.t226 ((Tryz.t226.zero).getD ud) (by kernel_rfl) (by kernel_rfl) (by kernel_rfl) (by kernel_rfl) (by kernel_rfl) (by kernel_rfl) (by kernel_rfl) (by kernel_rfl) (by kernel_rfl) (by kernel_rfl) (by kernel_rfl)
theorem tf_98 : TyFits Tryz.prog 98 ⟨Tryz.t98.desc, Tryz.t98.size, Tryz.t98.bytes, [(.pointer none), (.map none)], true⟩ :=
  tyFits_mk Tryz.t98 ((Tryz.t98.zero).getD ud) (by kernel_rfl) (by kernel_rfl) (by kernel_rfl) (by kernel_rfl) (by kernel_rfl) (by kernel_rfl) (by kernel_rfl) (by kernel_rfl) (by kernel_rfl) (by kernel_rfl) (by kernel_rfl)
theorem tf_34 : TyFits Tryz.prog 34 ⟨Tryz.t34.desc, Tryz.t34.size, Tryz.t34.bytes, [.nilFunc], false⟩ :=
  tyFits_mk Tryz.t34 ((Tryz.t34.zero).getD ud) (by kernel_rfl) (by kernel_rfl) (by kernel_rfl) (by kernel_rfl) (by kernel_rfl) (by kernel_rfl) (by kernel_rfl) (by kernel_rfl) (by kernel_rfl) (by kernel_rfl) (by kernel_rfl)
theorem tf_274 : TyFits Tryz.prog 274 ⟨Tryz.t274.desc, Tryz.t274.size, Tryz.t274.bytes, [.nilFunc], false⟩ :=
  tyFits_mk Tryz.t274 ((Tryz.t274.zero).getD ud) (by kernel_rfl) (by kernel_rfl) (by kernel_rfl) (by kernel_rfl) (by kernel_rfl) (by kernel_rfl) (by kernel_rfl) (by kernel_rfl) (by kernel_rfl) (by kernel_rfl) (by kernel_rfl)
theorem tf_146 : TyFits Tryz.prog 146 ⟨Tryz.t146.desc, Tryz.t146.size, Tryz.t146.bytes, [.nilFunc], false⟩ :=
  tyFits_mk Tryz.t146 ((Tryz.t146.zero).getD ud) (by kernel_rfl) (by kernel_rfl) (by kernel_rfl) (by kernel_rfl) (by kernel_rfl) (by kernel_rfl) (by kernel_rfl) (by kernel_rfl) (by kernel_rfl) (by kernel_rfl) (by kernel_rfl)
theorem tf_210 : TyFits Tryz.prog 210 ⟨Tryz.t210.desc, Tryz.t210.size, Tryz.t210.bytes, [.nilFunc], false⟩ :=
  tyFits_mk Tryz.t210 ((Tryz.t210.zero).getD ud) (by kernel_rfl) (by kernel_rfl) (by kernel_rfl) (by kernel_rfl) (by kernel_rfl) (by kernel_rfl) (by kernel_rfl) (by kernel_rfl) (by kernel_rfl) (by kernel_rfl) (by kernel_rfl)
theorem tf_82 : TyFits Tryz.prog 82 ⟨Tryz.t82.desc, Tryz.t82.size, Tryz.t82.bytes, [(.slice none 0 0)], false⟩ :=
  tyFits_mk Tryz.t82 ((Tryz.t82.zero).getD ud) (by kernel_rfl) (by kernel_rfl) (by kernel_rfl) (by kernel_rfl) (by kernel_rfl) (by kernel_rfl) (by kernel_rfl) (by kernel_rfl) (by kernel_rfl) (by kernel_rfl) (by kernel_rfl)
theorem tf_306 : TyFits Tryz.prog 306 ⟨Tryz.t5.desc, Tryz.t306.size, Tryz.t306.bytes, [(.int .u8 0)], false⟩ :=
  tyFits_mk Tryz.t306 ((Tryz.t306.zero).getD ud) (by kernel_rfl) (by kernel_rfl) (by kernel_rfl) (by kernel_rfl) (by kernel_rfl) (by kernel_rfl) (by kernel_rfl) (by kernel_rfl) (by kernel_rfl) (by kernel_rfl) (by kernel_rfl)
theorem tf_178 : TyFits Tryz.prog 178 ⟨Tryz.t178.desc, Tryz.t178.size, Tryz.t178.bytes, [.nilFunc], false⟩ :=
  tyFits_mk Tryz.t178 ((Tryz.t178.zero).getD ud) (by kernel_rfl) (by kernel_rfl) (by kernel_rfl) (by kernel_rfl) (by kernel_rfl) (by kernel_rfl) (by kernel_rfl) (by kernel_rfl) (by kernel_rfl) (by kernel_rfl) (by kernel_rfl)
theorem tf_242 : TyFits Tryz.prog 242 ⟨Tryz.t242.desc, Tryz.t242.size, Tryz.t242.bytes, [.nilFunc], false⟩ :=
  tyFits_mk Tryz.t242 ((Tryz.t242.zero).getD ud) (by kernel_rfl) (by kernel_rfl) (by kernel_rfl) (by kernel_rfl) (by kernel_rfl) (by kernel_rfl) (by kernel_rfl) (by kernel_rfl) (by kernel_rfl) (by kernel_rfl) (by kernel_rfl)
theorem tf_114 : TyFits Tryz.prog 114 ⟨Tryz.t114.desc, Tryz.t114.size, Tryz.t114.bytes, [.nilFunc], false⟩ :=
  tyFits_mk Tryz.t114 ((Tryz.t114.zero).getD ud) (by kernel_rfl) (by kernel_rfl) (by kernel_rfl) (by kernel_rfl) (by kernel_rfl) (by kernel_rfl) (by kernel_rfl) (by kernel_rfl) (by kernel_rfl) (by kernel_rfl) (by kernel_rfl)
theorem tf_50 : TyFits Tryz.prog 50 ⟨Tryz.t50.desc, Tryz.t50.size, Tryz.t50.bytes, [(.int .i64 0), (.string ⟨#[]⟩), (.int .i64 0), (.string ⟨#[]⟩), (.slice none 0 0)], true⟩ :=
  tyFits_mk Tryz.t50 ((Tryz.t50.zero).getD ud) (by kernel_rfl) (by kernel_rfl) (by kernel_rfl) (by kernel_rfl) (by kernel_rfl) (by kernel_rfl) (by kernel_rfl) (by kernel_rfl) (by kernel_rfl) (by kernel_rfl) (by kernel_rfl)
theorem tf_18 : TyFits Tryz.prog 18 ⟨Tryz.t18.desc, Tryz.t18.size, Tryz.t18.bytes, [(.pointer none)], false⟩ :=
  tyFits_mk Tryz.t18 ((Tryz.t18.zero).getD ud) (by kernel_rfl) (by kernel_rfl) (by kernel_rfl) (by kernel_rfl) (by kernel_rfl) (by kernel_rfl) (by kernel_rfl) (by kernel_rfl) (by kernel_rfl) (by kernel_rfl) (by kernel_rfl)
theorem tf_266 : TyFits Tryz.prog 266 ⟨Tryz.t266.desc, Tryz.t266.size, Tryz.t266.bytes, [.nilFunc], false⟩ :=
  tyFits_mk Tryz.t266 ((Tryz.t266.zero).getD ud) (by kernel_rfl) (by kernel_rfl) (by kernel_rfl) (by kernel_rfl) (by kernel_rfl) (by kernel_rfl) (by kernel_rfl) (by kernel_rfl) (by kernel_rfl) (by kernel_rfl) (by kernel_rfl)
theorem tf_138 : TyFits Tryz.prog 138 ⟨Tryz.t138.desc, Tryz.t138.size, Tryz.t138.bytes, [.nilFunc], false⟩ :=
  tyFits_mk Tryz.t138 ((Tryz.t138.zero).getD ud) (by kernel_rfl) (by kernel_rfl) (by kernel_rfl) (by kernel_rfl) (by kernel_rfl) (by kernel_rfl) (by kernel_rfl) (by kernel_rfl) (by kernel_rfl) (by kernel_rfl) (by kernel_rfl)
theorem tf_202 : TyFits Tryz.prog 202 ⟨Tryz.t202.desc, Tryz.t202.size, Tryz.t202.bytes, [.nilFunc], false⟩ :=
  tyFits_mk Tryz.t202 ((Tryz.t202.zero).getD ud) (by kernel_rfl) (by kernel_rfl) (by kernel_rfl) (by kernel_rfl) (by kernel_rfl) (by kernel_rfl) (by kernel_rfl) (by kernel_rfl) (by kernel_rfl) (by kernel_rfl) (by kernel_rfl)
theorem tf_74 : TyFits Tryz.prog 74 ⟨Tryz.t74.desc, Tryz.t74.size, Tryz.t74.bytes, [.nilFunc], false⟩ :=
  tyFits_mk Tryz.t74 ((Tryz.t74.zero).getD ud) (by kernel_rfl) (by kernel_rfl) (by kernel_rfl) (by kernel_rfl) (by kernel_rfl) (by kernel_rfl) (by kernel_rfl) (by kernel_rfl) (by kernel_rfl) (by kernel_rfl) (by kernel_rfl)
theorem tf_298 : TyFits Tryz.prog 298 ⟨Tryz.t298.desc, Tryz.t298.size, Tryz.t298.bytes, [.nilFunc], false⟩ :=
  tyFits_mk Tryz.t298 ((Tryz.t298.zero).getD ud) (by kernel_rfl) (by kernel_rfl) (by kernel_rfl) (by kernel_rfl) (by kernel_rfl) (by kernel_rfl) (by kernel_rfl) (by kernel_rfl) (by kernel_rfl) (by kernel_rfl) (by kernel_rfl)
theorem tf_170 : TyFits Tryz.prog 170 ⟨Tryz.t170.desc, Tryz.t170.size, Tryz.t170.bytes, [.nilFunc], false⟩ :=
  tyFits_mk Tryz.t170 ((Tryz.t170.zero).getD ud) (by kernel_rfl) (by kernel_rfl) (by kernel_rfl) (by kernel_rfl) (by kernel_rfl) (by kernel_rfl) (by kernel_rfl) (by kernel_rfl) (by kernel_rfl) (by kernel_rfl) (by kernel_rfl)
theorem tf_234 : TyFits Tryz.prog 234 ⟨Tryz.t233.desc, Tryz.t234.size, Tryz.t234.bytes, [(.int .i64 0), (.slice none 0 0), (.pointer none), (.int .i64 0)], true⟩ :=
  tyFits_mk Tryz.t234 ((Tryz.t234.zero).getD ud) (by kernel_rfl) (by kernel_rfl) (by kernel_rfl) (by kernel_rfl) (by kernel_rfl) (by kernel_rfl) (by kernel_rfl) (by kernel_rfl) (by kernel_rfl) (by kernel_rfl) (by kernel_rfl)
theorem tf_106 : TyFits Tryz.prog 106 ⟨Tryz.t69.desc, Tryz.t106.size, Tryz.t106.bytes, [(.slice none 0 0)], false⟩ :=
  tyFits_mk Tryz.t106 ((Tryz.t106.zero).getD ud) (by kernel_rfl) (by kernel_rfl) (by kernel_rfl) (by kernel_rfl) (by kernel_rfl) (by kernel_rfl) (by kernel_rfl) (by kernel_rfl) (by kernel_rfl) (by kernel_rfl) (by kernel_rfl)
theorem tf_42 : TyFits Tryz.prog 42 ⟨Tryz.t42.desc, Tryz.t42.size, Tryz.t42.bytes, [.nilFunc], false⟩ :=
  tyFits_mk Tryz.t42 ((Tryz.t42.zero).getD ud) (by kernel_rfl) (by kernel_rfl) (by kernel_rfl) (by kernel_rfl) (by kernel_rfl) (by kernel_rfl) (by kernel_rfl) (by kernel_rfl) (by kernel_rfl) (by kernel_rfl) (by kernel_rfl)
theorem tf_282 : TyFits Tryz.prog 282 ⟨Tryz.t281.desc, Tryz.t282.size, Tryz.t282.bytes, [.nilFunc, (.slice none 0 0)], true⟩ :=
  tyFits_mk Tryz.t282 ((Tryz.t282.zero).getD ud) (by kernel_rfl) (by kernel_rfl) (by kernel_rfl) (by kernel_rfl) (by kernel_rfl) (by kernel_rfl) (by kernel_rfl) (by kernel_rfl) (by kernel_rfl) (by kernel_rfl) (by kernel_rfl)
theorem tf_218 : TyFits Tryz.prog 218 ⟨Tryz.t218.desc, Tryz.t218.size, Tryz.t218.bytes, [.nilFunc], false⟩ :=
  tyFits_mk Tryz.t218 ((Tryz.t218.zero).getD ud) (by kernel_rfl) (by kernel_rfl) (by kernel_rfl) (by kernel_rfl) (by kernel_rfl) (by kernel_rfl) (by kernel_rfl) (by kernel_rfl) (by kernel_rfl) (by kernel_rfl) (by kernel_rfl)
theorem tf_90 : TyFits Tryz.prog 90 ⟨Tryz.t90.desc, Tryz.t90.size, Tryz.t90.bytes, [(.string ⟨#[]⟩), (.slice none 0 0), (.string ⟨#[]⟩), (.slice none 0 0)], true⟩ :=
  tyFits_mk Tryz.t90 ((Tryz.t90.zero).getD ud) (by kernel_rfl) (by kernel_rfl) (by kernel_rfl) (by kernel_rfl) (by kernel_rfl) (by kernel_rfl) (by kernel_rfl) (by kernel_rfl) (by kernel_rfl) (by kernel_rfl) (by kernel_rfl)
theorem tf_314 : TyFits Tryz.prog 314 ⟨Tryz.t314.desc, Tryz.t314.size, Tryz.t314.bytes, [(.pointer none)], false⟩ :=
  tyFits_mk Tryz.t314 ((Tryz.t314.zero).getD ud) (by kernel_rfl) (by kernel_rfl) (by kernel_rfl) (by kernel_rfl) (by kernel_rfl) (by kernel_rfl) (by kernel_rfl) (by kernel_rfl) (by kernel_rfl) (by kernel_rfl) (by kernel_rfl)
theorem tf_186 : TyFits Tryz.prog 186 ⟨Tryz.t186.desc, Tryz.t186.size, Tryz.t186.bytes, [.nilFunc], false⟩ :=
  tyFits_mk Tryz.t186 ((Tryz.t186.zero).getD ud) (by kernel_rfl) (by kernel_rfl) (by kernel_rfl) (by kernel_rfl) (by kernel_rfl) (by kernel_rfl) (by kernel_rfl) (by kernel_rfl) (by kernel_rfl) (by kernel_rfl) (by kernel_rfl)
theorem tf_250 : TyFits Tryz.prog 250 ⟨Tryz.t250.desc, Tryz.t250.size, Tryz.t250.bytes, [.nilFunc], false⟩ :=
  tyFits_mk Tryz.t250 ((Tryz.t250.zero).getD ud) (by kernel_rfl) (by kernel_rfl) (by kernel_rfl) (by kernel_rfl) (by kernel_rfl) (by kernel_rfl) (by kernel_rfl) (by kernel_rfl) (by kernel_rfl) (by kernel_rfl) (by kernel_rfl)
theorem tf_58 : TyFits Tryz.prog 58 ⟨Tryz.t58.desc, Tryz.t58.size, Tryz.t58.bytes, [(.pointer none)], false⟩ :=
  tyFits_mk Tryz.t58 ((Tryz.t58.zero).getD ud) (by kernel_rfl) (by kernel_rfl) (by kernel_rfl) (by kernel_rfl) (by kernel_rfl) (by kernel_rfl) (by kernel_rfl) (by kernel_rfl) (by kernel_rfl) (by kernel_rfl) (by kernel_rfl)
theorem tf_10 : TyFits Tryz.prog 10 ⟨Tryz.t9.desc, Tryz.t10.size, Tryz.t10.bytes, [(.string ⟨#[]⟩)], false⟩ :=
  tyFits_mk Tryz.t10 ((Tryz.t10.zero).getD ud) (by kernel_rfl) (by kernel_rfl) (by kernel_rfl) (by kernel_rfl) (by kernel_rfl) (by kernel_rfl) (by kernel_rfl) (by kernel_rfl) (by kernel_rfl) (by kernel_rfl) (by kernel_rfl)
theorem tf_262 : TyFits Tryz.prog 262 ⟨Tryz.t262.desc, Tryz.t262.size, Tryz.t262.bytes, [.nilFunc], false⟩ :=
  tyFits_mk Tryz.t262 ((Tryz.t262.zero).getD ud) (by kernel_rfl) (by kernel_rfl) (by kernel_rfl) (by kernel_rfl) (by kernel_rfl) (by kernel_rfl) (by kernel_rfl) (by kernel_rfl) (by kernel_rfl) (by kernel_rfl) (by kernel_rfl)
theorem tf_134 : TyFits Tryz.prog 134 ⟨Tryz.t133.desc, Tryz.t134.size, Tryz.t134.bytes, [(.slice none 0 0)], true⟩ :=
  tyFits_mk Tryz.t134 ((Tryz.t134.zero).getD ud) (by kernel_rfl) (by kernel_rfl) (by kernel_rfl) (by kernel_rfl) (by kernel_rfl) (by kernel_rfl) (by kernel_rfl) (by kernel_rfl) (by kernel_rfl) (by kernel_rfl) (by kernel_rfl)
theorem tf_198 : TyFits Tryz.prog 198 ⟨Tryz.t198.desc, Tryz.t198.size, Tryz.t198.bytes, [.nilFunc], false⟩ :=
  tyFits_mk Tryz.t198 ((Tryz.t198.zero).getD ud) (by kernel_rfl) (by kernel_rfl) (by kernel_rfl) (by kernel_rfl) (by kernel_rfl) (by kernel_rfl) (by kernel_rfl) (by kernel_rfl) (by kernel_rfl) (by kernel_rfl) (by kernel_rfl)
theorem tf_70 : TyFits Tryz.prog 70 ⟨Tryz.t70.desc, Tryz.t70.size, Tryz.t70.bytes, [(.pointer none)], false⟩ :=
  tyFits_mk Tryz.t70 ((Tryz.t70.zero).getD ud) (by kernel_rfl) (by kernel_rfl) (by kernel_rfl) (by kernel_rfl) (by kernel_rfl) (by kernel_rfl) (by kernel_rfl) (by kernel_rfl) (by kernel_rfl) (by kernel_rfl) (by kernel_rfl)
theorem tf_294 : TyFits Tryz.prog 294 ⟨Tryz.t294.desc, Tryz.t294.size, Tryz.t294.bytes, [.nilFunc], false⟩ :=
  tyFits_mk Tryz.t294 ((Tryz.t294.zero).getD ud) (by kernel_rfl) (by kernel_rfl) (by kernel_rfl) (by kernel_rfl) (by kernel_rfl) (by kernel_rfl) (by kernel_rfl) (by kernel_rfl) (by kernel_rfl) (by kernel_rfl) (by kernel_rfl)
theorem tf_166 : TyFits Tryz.prog 166 ⟨Tryz.t166.desc, Tryz.t166.size, Tryz.t166.bytes, [.nilFunc, (.slice none 0 0)], true⟩ :=
  tyFits_mk Tryz.t166 ((Tryz.t166.zero).getD ud) (by kernel_rfl) (by kernel_rfl) (by kernel_rfl) (by kernel_rfl) (by kernel_rfl) (by kernel_rfl) (by kernel_rfl) (by kernel_rfl) (by kernel_rfl) (by kernel_rfl) (by kernel_rfl)
theorem tf_230 : TyFits Tryz.prog 230 ⟨Tryz.t230.desc, Tryz.t230.size, Tryz.t230.bytes, [(.pointer none)], false⟩ :=
  tyFits_mk Tryz.t230 ((Tryz.t230.zero).getD ud) (by kernel_rfl) (by kernel_rfl) (by kernel_rfl) (by kernel_rfl) (by kernel_rfl) (by kernel_rfl) (by kernel_rfl) (by kernel_rfl) (by kernel_rfl) (by kernel_rfl) (by kernel_rfl)
theorem tf_102 : TyFits Tryz.prog 102 ⟨Tryz.t101.desc, Tryz.t102.size, Tryz.t102.bytes, [(.string ⟨#[]⟩), (.slice none 0 0), (.string ⟨#[]⟩), (.slice none 0 0), (.slice none 0 0), (.slice none 0 0), (.int .i64 0)], true⟩ :=
  tyFits_mk Tryz.t102 ((Tryz.t102.zero).getD ud) (by kernel_rfl) (by kernel_rfl) (by kernel_rfl) (by kernel_rfl) (by kernel_rfl) (by kernel_rfl) (by kernel_rfl) (by kernel_rfl) (by kernel_rfl) (by kernel_rfl) (by kernel_rfl)
theorem tf_38 : TyFits Tryz.prog 38 ⟨Tryz.t38.desc, Tryz.t38.size, Tryz.t38.bytes, [.nilFunc], false⟩ :=
  tyFits_mk Tryz.t38 ((Tryz.t38.zero).getD ud) (by kernel_rfl) (by kernel_rfl) (by kernel_rfl) (by kernel_rfl) (by kernel_rfl) (by kernel_rfl) (by kernel_rfl) (by kernel_rfl) (by kernel_rfl) (by kernel_rfl) (by kernel_rfl)
theorem tf_278 : TyFits Tryz.prog 278 ⟨Tryz.t278.desc, Tryz.t278.size, Tryz.t278.bytes, [(.string ⟨#[]⟩), (.int .i64 0)], true⟩ :=
  tyFits_mk Tryz.t278 ((Tryz.t278.zero).getD ud) (by kernel_rfl) (by kernel_rfl) (by kernel_rfl) (by kernel_rfl) (by kernel_rfl) (by kernel_rfl) (by kernel_rfl) (by kernel_rfl) (by kernel_rfl) (by kernel_rfl) (by kernel_rfl)
theorem tf_150 : TyFits Tryz.prog 150 ⟨Tryz.t150.desc, Tryz.t150.size, Tryz.t150.bytes, [.nilFunc], false⟩ :=
  tyFits_mk Tryz.t150 ((Tryz.t150.zero).getD ud) (by kernel_rfl) (by kernel_rfl) (by kernel_rfl) (by kernel_rfl) (by kernel_rfl) (by kernel_rfl) (by kernel_rfl) (by kernel_rfl) (by kernel_rfl) (by kernel_rfl) (by kernel_rfl)
theorem tf_214 : TyFits Tryz.prog 214 ⟨Tryz.t214.desc, Tryz.t214.size, Tryz.t214.bytes, [.nilFunc], false⟩ :=
  tyFits_mk Tryz.t214 ((Tryz.t214.zero).getD ud) (by kernel_rfl) (by kernel_rfl) (by kernel_rfl) (by kernel_rfl) (by kernel_rfl) (by kernel_rfl) (by kernel_rfl) (by kernel_rfl) (by kernel_rfl) (by kernel_rfl) (by kernel_rfl)
theorem tf_86 : TyFits Tryz.prog 86 ⟨Tryz.t85.desc, Tryz.t86.size, Tryz.t86.bytes, [(.slice none 0 0), (.slice none 0 0), (.slice none 0 0)], true⟩ :=
  tyFits_mk Tryz.t86 ((Tryz.t86.zero).getD ud) (by kernel_rfl) (by kernel_rfl) (by kernel_rfl) (by kernel_rfl) (by kernel_rfl) (by kernel_rfl) (by kernel_rfl) (by kernel_rfl) (by kernel_rfl) (by kernel_rfl) (by kernel_rfl)
theorem tf_310 : TyFits Tryz.prog 310 ⟨Tryz.t21.desc, Tryz.t310.size, Tryz.t310.bytes, [(.int .i32 0)], false⟩ :=
  tyFits_mk Tryz.t310 ((Tryz.t310.zero).getD ud) (by kernel_rfl) (by kernel_rfl) (by kernel_rfl) (by kernel_rfl) (by kernel_rfl) (by kernel_rfl) (by kernel_rfl) (by kernel_rfl) (by kernel_rfl) (by kernel_rfl) (by kernel_rfl)
theorem tf_182 : TyFits Tryz.prog 182 ⟨Tryz.t182.desc, Tryz.t182.size, Tryz.t182.bytes, [(.int .i64 0), (.int .i64 0), (.string ⟨#[]⟩), (.slice none 0 0)], true⟩ :=
  tyFits_mk Tryz.t182 ((Tryz.t182.zero).getD ud) (by kernel_rfl) (by kernel_rfl) (by kernel_rfl) (by kernel_rfl) (by kernel_rfl) (by kernel_rfl) (by kernel_rfl) (by kernel_rfl) (by kernel_rfl) (by kernel_rfl) (by kernel_rfl)
theorem tf_246 : TyFits Tryz.prog 246 ⟨Tryz.t3.desc, Tryz.t246.size, Tryz.t246.bytes, [(.int .i64 0)], false⟩ :=
  tyFits_mk Tryz.t246 ((Tryz.t246.zero).getD ud) (by kernel_rfl) (by kernel_rfl) (by kernel_rfl) (by kernel_rfl) (by kernel_rfl) (by kernel_rfl) (by kernel_rfl) (by kernel_rfl) (by kernel_rfl) (by kernel_rfl) (by kernel_rfl)
theorem tf_118 : TyFits Tryz.prog 118 ⟨Tryz.t118.desc, Tryz.t118.size, Tryz.t118.bytes, [.nilFunc], false⟩ :=
  tyFits_mk Tryz.t118 ((Tryz.t118.zero).getD ud) (by kernel_rfl) (by kernel_rfl) (by kernel_rfl) (by kernel_rfl) (by kernel_rfl) (by kernel_rfl) (by kernel_rfl) (by kernel_rfl) (by kernel_rfl) (by kernel_rfl) (by kernel_rfl)
theorem tf_54 : TyFits Tryz.prog 54 ⟨Tryz.t54.desc, Tryz.t54.size, Tryz.t54.bytes, [(.pointer none)], false⟩ :=
  tyFits_mk Tryz.t54 ((Tryz.t54.zero).getD ud) (by kernel_rfl) (by kernel_rfl) (by kernel_rfl) (by kernel_rfl) (by kernel_rfl) (by kernel_rfl) (by kernel_rfl) (by kernel_rfl) (by kernel_rfl) (by kernel_rfl) (by kernel_rfl)
theorem tf_22 : TyFits Tryz.prog 22 ⟨Tryz.t22.desc, Tryz.t22.size, Tryz.t22.bytes, [(.slice none 0 0)], false⟩ :=
  tyFits_mk Tryz.t22 ((Tryz.t22.zero).getD ud) (by kernel_rfl) (by kernel_rfl) (by kernel_rfl) (by kernel_rfl) (by kernel_rfl) (by kernel_rfl) (by kernel_rfl) (by kernel_rfl) (by kernel_rfl) (by kernel_rfl) (by kernel_rfl)
theorem tf_270 : TyFits Tryz.prog 270 ⟨Tryz.t270.desc, Tryz.t270.size, Tryz.t270.bytes, [.nilFunc], false⟩ :=
  tyFits_mk Tryz.t270 ((Tryz.t270.zero).getD ud) (by kernel_rfl) (by kernel_rfl) (by kernel_rfl) (by kernel_rfl) (by kernel_rfl) (by kernel_rfl) (by kernel_rfl) (by kernel_rfl) (by kernel_rfl) (by kernel_rfl) (by kernel_rfl)
theorem tf_206 : TyFits Tryz.prog 206 ⟨Tryz.t206.desc, Tryz.t206.size, Tryz.t206.bytes, [.nilFunc], false⟩ :=
  tyFits_mk Tryz.t206 ((Tryz.t206.zero).getD ud) (by kernel_rfl) (by kernel_rfl) (by kernel_rfl) (by kernel_rfl) (by kernel_rfl) (by kernel_rfl) (by kernel_rfl) (by kernel_rfl) (by kernel_rfl) (by kernel_rfl) (by kernel_rfl)
theorem tf_78 : TyFits Tryz.prog 78 ⟨Tryz.t78.desc, Tryz.t78.size, Tryz.t78.bytes, [.nilFunc], false⟩ :=
  tyFits_mk Tryz.t78 ((Tryz.t78.zero).getD ud) (by kernel_rfl) (by kernel_rfl) (by kernel_rfl) (by kernel_rfl) (by kernel_rfl) (by kernel_rfl) (by kernel_rfl) (by kernel_rfl) (by kernel_rfl) (by kernel_rfl) (by kernel_rfl)
theorem tf_302 : TyFits Tryz.prog 302 ⟨Tryz.t302.desc, Tryz.t302.size, Tryz.t302.bytes, [], true⟩ :=
  tyFits_mk Tryz.t302 ((Tryz.t302.zero).getD ud) (by kernel_rfl) (by kernel_rfl) (by kernel_rfl) (by kernel_rfl) (by kernel_rfl) (by kernel_rfl) (by kernel_rfl) (by kernel_rfl) (by kernel_rfl) (by kernel_rfl) (by kernel_rfl)
theorem tf_174 : TyFits Tryz.prog 174 ⟨Tryz.t174.desc, Tryz.t174.size, Tryz.t174.bytes, [.nilFunc], false⟩ :=
  tyFits_mk Tryz.t174 ((Tryz.t174.zero).getD ud) (by kernel_rfl) (by kernel_rfl) (by kernel_rfl) (by kernel_rfl) (by kernel_rfl) (by kernel_rfl) (by kernel_rfl) (by kernel_rfl) (by kernel_rfl) (by kernel_rfl) (by kernel_rfl)
theorem tf_238 : TyFits Tryz.prog 238 ⟨Tryz.t238.desc, Tryz.t238.size, Tryz.t238.bytes, [.nilFunc], false⟩ :=
  tyFits_mk Tryz.t238 ((Tryz.t238.zero).getD ud) (by kernel_rfl) (by kernel_rfl) (by kernel_rfl) (by kernel_rfl) (by kernel_rfl) (by kernel_rfl) (by kernel_rfl) (by kernel_rfl) (by kernel_rfl) (by kernel_rfl) (by kernel_rfl)
theorem tf_46 : TyFits Tryz.prog 46 ⟨Tryz.t45.desc, Tryz.t46.size, Tryz.t46.bytes, [(.int .i64 0), (.int .i64 0), (.string ⟨#[]⟩)], true⟩ :=
  tyFits_mk Tryz.t46 ((Tryz.t46.zero).getD ud) (by kernel_rfl) (by kernel_rfl) (by kernel_rfl) (by kernel_rfl) (by kernel_rfl) (by kernel_rfl) (by kernel_rfl) (by kernel_rfl) (by kernel_rfl) (by kernel_rfl) (by kernel_rfl)
theorem tf_286 : TyFits Tryz.prog 286 ⟨Tryz.t286.desc, Tryz.t286.size, Tryz.t286.bytes, [.nilFunc], false⟩ :=
  tyFits_mk Tryz.t286 ((Tryz.t286.zero).getD ud) (by kernel_rfl) (by kernel_rfl) (by kernel_rfl) (by kernel_rfl) (by kernel_rfl) (by kernel_rfl) (by kernel_rfl) (by kernel_rfl) (by kernel_rfl) (by kernel_rfl) (by kernel_rfl)
theorem tf_158 : TyFits Tryz.prog 158 ⟨Tryz.t158.desc, Tryz.t158.size, Tryz.t158.bytes, [.nilFunc], false⟩ :=
  tyFits_mk Tryz.t158 ((Tryz.t158.zero).getD ud) (by kernel_rfl) (by kernel_rfl) (by kernel_rfl) (by kernel_rfl) (by kernel_rfl) (by kernel_rfl) (by kernel_rfl) (by kernel_rfl) (by kernel_rfl) (by kernel_rfl) (by kernel_rfl)
theorem tf_222 : TyFits Tryz.prog 222 ⟨Tryz.t222.desc, Tryz.t222.size, Tryz.t222.bytes, [.nilFunc], false⟩ :=
  tyFits_mk Tryz.t222 ((Tryz.t222.zero).getD ud) (by kernel_rfl) (by kernel_rfl) (by kernel_rfl) (by kernel_rfl) (by kernel_rfl) (by kernel_rfl) (by kernel_rfl) (by kernel_rfl) (by kernel_rfl) (by kernel_rfl) (by kernel_rfl)
theorem tf_94 : TyFits Tryz.prog 94 ⟨Tryz.t94.desc, Tryz.t94.size, Tryz.t94.bytes, [.nilFunc], false⟩ :=
  tyFits_mk Tryz.t94 ((Tryz.t94.zero).getD ud) (by kernel_rfl) (by kernel_rfl) (by kernel_rfl) (by kernel_rfl) (by kernel_rfl) (by kernel_rfl) (by kernel_rfl) (by kernel_rfl) (by kernel_rfl) (by kernel_rfl) (by kernel_rfl)
theorem tf_190 : TyFits Tryz.prog 190 ⟨Tryz.t190.desc, Tryz.t190.size, Tryz.t190.bytes, [.nilFunc], false⟩ :=
  tyFits_mk Tryz.t190 ((Tryz.t190.zero).getD ud) (by kernel_rfl) (by kernel_rfl) (by kernel_rfl) (by kernel_rfl) (by kernel_rfl) (by kernel_rfl) (by kernel_rfl) (by kernel_rfl) (by kernel_rfl) (by kernel_rfl) (by kernel_rfl)
theorem tf_254 : TyFits Tryz.prog 254 ⟨Tryz.t254.desc, Tryz.t254.size, Tryz.t254.bytes, [.nilFunc], false⟩ :=
  tyFits_mk Tryz.t254 ((Tryz.t254.zero).getD ud) (by kernel_rfl) (by kernel_rfl) (by kernel_rfl) (by kernel_rfl) (by kernel_rfl) (by kernel_rfl) (by kernel_rfl) (by kernel_rfl) (by kernel_rfl) (by kernel_rfl) (by kernel_rfl)
theorem tf_126 : TyFits Tryz.prog 126 ⟨Tryz.t126.desc, Tryz.t126.size, Tryz.t126.bytes, [.nilFunc], false⟩ :=
  tyFits_mk Tryz.t126 ((Tryz.t126.zero).getD ud) (by kernel_rfl) (by kernel_rfl) (by kernel_rfl) (by kernel_rfl) (by kernel_rfl) (by kernel_rfl) (by kernel_rfl) (by kernel_rfl) (by kernel_rfl) (by kernel_rfl) (by kernel_rfl)
theorem tf_62 : TyFits Tryz.prog 62 ⟨Tryz.t62.desc, Tryz.t62.size, Tryz.t62.bytes, [(.slice none 0 0)], true⟩ :=
  tyFits_mk Tryz.t62 ((Tryz.t62.zero).getD ud) (by kernel_rfl) (by kernel_rfl) (by kernel_rfl) (by kernel_rfl) (by kernel_rfl) (by kernel_rfl) (by kernel_rfl) (by kernel_rfl) (by kernel_rfl) (by kernel_rfl) (by kernel_rfl)
theorem tf_30 : TyFits Tryz.prog 30 ⟨Tryz.t29.desc, Tryz.t30.size, Tryz.t30.bytes, [(.int .i64 0), (.int .i64 0), (.string ⟨#[]⟩), (.int .i64 0), (.string ⟨#[]⟩)], true⟩ :=
  tyFits_mk Tryz.t30 ((Tryz.t30.zero).getD ud) (by kernel_rfl) (by kernel_rfl) (by kernel_rfl) (by kernel_rfl) (by kernel_rfl) (by kernel_rfl) (by kernel_rfl) (by kernel_rfl) (by kernel_rfl) (by kernel_rfl) (by kernel_rfl)
theorem tf_14 : TyFits Tryz.prog 14 ⟨Tryz.t13.desc, Tryz.t14.size, Tryz.t14.bytes, [(.string ⟨#[]⟩), (.int .u64 0)], false⟩ :=
  tyFits_mk Tryz.t14 ((Tryz.t14.zero).getD ud) (by kernel_rfl) (by kernel_rfl) (by kernel_rfl) (by kernel_rfl) (by kernel_rfl) (by kernel_rfl) (by kernel_rfl) (by kernel_rfl) (by kernel_rfl) (by kernel_rfl) (by kernel_rfl)
theorem tf_6 : TyFits Tryz.prog 6 ⟨Tryz.t5.desc, Tryz.t6.size, Tryz.t6.bytes, [(.int .u8 0)], false⟩ :=
  tyFits_mk Tryz.t6 ((Tryz.t6.zero).getD ud) (by kernel_rfl) (by kernel_rfl) (by kernel_rfl) (by kernel_rfl) (by kernel_rfl) (by kernel_rfl) (by kernel_rfl) (by kernel_rfl) (by kernel_rfl) (by kernel_rfl) (by kernel_rfl)
theorem tf_2 : TyFits Tryz.prog 2 ⟨Tryz.t2.desc, Tryz.t2.size, Tryz.t2.bytes, [(.int .i64 0)], false⟩ :=
  tyFits_mk Tryz.t2 ((Tryz.t2.zero).getD ud) (by kernel_rfl) (by kernel_rfl) (by kernel_rfl) (by kernel_rfl) (by kernel_rfl) (by kernel_rfl) (by kernel_rfl) (by kernel_rfl) (by kernel_rfl) (by kernel_rfl) (by kernel_rfl)
theorem ff_255 : FnFit Tryz.prog 255 Tryz.f255 := ⟨by kernel_rfl, by kernel_rfl, fun _ _ => ⟨by kernel_rfl, by kernel_rfl⟩⟩
theorem ff_127 : FnFit Tryz.prog 127 Tryz.f127 := fnFit_body (by kernel_rfl) (by kernel_rfl) (by kernel_rfl)
theorem ff_63 : FnFit Tryz.prog 63 Tryz.f63 := fnFit_body (by kernel_rfl) (by kernel_rfl) (by kernel_rfl)
theorem ff_159 : FnFit Tryz.prog 159 Tryz.f159 := fnFit_body (by kernel_rfl) (by kernel_rfl) (by kernel_rfl)
theorem ff_223 : FnFit Tryz.prog 223 Tryz.f223 := fnFit_body (by kernel_rfl) (by kernel_rfl) (by kernel_rfl)
theorem ff_95 : FnFit Tryz.prog 95 Tryz.f95 := fnFit_body (by kernel_rfl) (by kernel_rfl) (by kernel_rfl)
theorem ff_31 : FnFit Tryz.prog 31 Tryz.f31 := fnFit_body (by kernel_rfl) (by kernel_rfl) (by kernel_rfl)
theorem ff_143 : FnFit Tryz.prog 143 Tryz.f143 := fnFit_body (by kernel_rfl) (by kernel_rfl) (by kernel_rfl)
theorem ff_207 : FnFit Tryz.prog 207 Tryz.f207 := fnFit_body (by kernel_rfl) (by kernel_rfl) (by kernel_rfl)
theorem ff_79 : FnFit Tryz.prog 79 Tryz.f79 := fnFit_body (by kernel_rfl) (by kernel_rfl) (by kernel_rfl)
theorem ff_175 : FnFit Tryz.prog 175 Tryz.f175 := fnFit_body (by kernel_rfl) (by kernel_rfl) (by kernel_rfl)
theorem ff_239 : FnFit Tryz.prog 239 Tryz.f239 := fnFit_body (by kernel_rfl) (by kernel_rfl) (by kernel_rfl)
theorem ff_47 : FnFit Tryz.prog 47 Tryz.f47 := fnFit_body (by kernel_rfl) (by kernel_rfl) (by kernel_rfl)
theorem ff_135 : FnFit Tryz.prog 135 Tryz.f135 := fnFit_body (by kernel_rfl) (by kernel_rfl) (by kernel_rfl)
theorem ff_199 : FnFit Tryz.prog 199 Tryz.f199 := fnFit_body (by kernel_rfl) (by kernel_rfl) (by kernel_rfl)
theorem ff_71 : FnFit Tryz.prog 71 Tryz.f71 := fnFit_body (by kernel_rfl) (by kernel_rfl) (by kernel_rfl)
theorem ff_103 : FnFit Tryz.prog 103 Tryz.f103 := fnFit_body (by kernel_rfl) (by kernel_rfl) (by kernel_rfl)
theorem ff_151 : FnFit Tryz.prog 151 Tryz.f151 := fnFit_body (by kernel_rfl) (by kernel_rfl) (by kernel_rfl)
theorem ff_215 : FnFit Tryz.prog 215 Tryz.f215 := fnFit_body (by kernel_rfl) (by kernel_rfl) (by kernel_rfl)
theorem ff_183 : FnFit Tryz.prog 183 Tryz.f183 := fnFit_body (by kernel_rfl) (by kernel_rfl) (by kernel_rfl)
theorem ff_247 : FnFit Tryz.prog 247 Tryz.f247 := fnFit_body (by kernel_rfl) (by kernel_rfl) (by kernel_rfl)
theorem ff_119 : FnFit Tryz.prog 119 Tryz.f119 := fnFit_body (by kernel_rfl) (by kernel_rfl) (by kernel_rfl)
theorem ff_55 : FnFit Tryz.prog 55 Tryz.f55 := fnFit_body (by kernel_rfl) (by kernel_rfl) (by kernel_rfl)
theorem ff_23 : FnFit Tryz.prog 23 Tryz.f23 := fnFit_body (by kernel_rfl) (by kernel_rfl) (by kernel_rfl)
theorem ff_131 : FnFit Tryz.prog 131 Tryz.f131 := fnFit_body (by kernel_rfl) (by kernel_rfl) (by kernel_rfl)
theorem ff_195 : FnFit Tryz.prog 195 Tryz.f195 := fnFit_body (by kernel_rfl) (by kernel_rfl) (by kernel_rfl)
theorem ff_67 : FnFit Tryz.prog 67 Tryz.f67 := fnFit_body (by kernel_rfl) (by kernel_rfl) (by kernel_rfl)
theorem ff_163 : FnFit Tryz.prog 163 Tryz.f163 := fnFit_body (by kernel_rfl) (by kernel_rfl) (by kernel_rfl)
theorem ff_99 : FnFit Tryz.prog 99 Tryz.f99 := fnFit_body (by kernel_rfl) (by kernel_rfl) (by kernel_rfl)
theorem ff_35 : FnFit Tryz.prog 35 Tryz.f35 := fnFit_body (by kernel_rfl) (by kernel_rfl) (by kernel_rfl)
theorem ff_147 : FnFit Tryz.prog 147 Tryz.f147 := fnFit_body (by kernel_rfl) (by kernel_rfl) (by kernel_rfl)
theorem ff_83 : FnFit Tryz.prog 83 Tryz.f83 := fnFit_body (by kernel_rfl) (by kernel_rfl) (by kernel_rfl)
theorem ff_179 : FnFit Tryz.prog 179 Tryz.f179 := fnFit_body (by kernel_rfl) (by kernel_rfl) (by kernel_rfl)
theorem ff_243 : FnFit Tryz.prog 243 Tryz.f243 := fnFit_body (by kernel_rfl) (by kernel_rfl) (by kernel_rfl)
theorem ff_115 : FnFit Tryz.prog 115 Tryz.f115 := fnFit_body (by kernel_rfl) (by kernel_rfl) (by kernel_rfl)
theorem ff_51 : FnFit Tryz.prog 51 Tryz.f51 := fnFit_body (by kernel_rfl) (by kernel_rfl) (by kernel_rfl)
theorem ff_19 : FnFit Tryz.prog 19 Tryz.f19 := fnFit_body (by kernel_rfl) (by kernel_rfl) (by kernel_rfl)
theorem ff_139 : FnFit Tryz.prog 139 Tryz.f139 := fnFit_body (by kernel_rfl) (by kernel_rfl) (by kernel_rfl)
theorem ff_203 : FnFit Tryz.prog 203 Tryz.f203 := fnFit_body (by kernel_rfl) (by kernel_rfl) (by kernel_rfl)
theorem ff_75 : FnFit Tryz.prog 75 Tryz.f75 := fnFit_body (by kernel_rfl) (by kernel_rfl) (by kernel_rfl)
theorem ff_171 : FnFit Tryz.prog 171 Tryz.f171 := fnFit_body (by kernel_rfl) (by kernel_rfl) (by kernel_rfl)
theorem ff_235 : FnFit Tryz.prog 235 Tryz.f235 := fnFit_body (by kernel_rfl) (by kernel_rfl) (by kernel_rfl)
theorem ff_107 : FnFit Tryz.prog 107 Tryz.f107 := fnFit_body (by kernel_rfl) (by kernel_rfl) (by kernel_rfl)
theorem ff_155 : FnFit Tryz.prog 155 Tryz.f155 := fnFit_body (by kernel_rfl) (by kernel_rfl) (by kernel_rfl)
theorem ff_219 : FnFit Tryz.prog 219 Tryz.f219 := fnFit_body (by kernel_rfl) (by kernel_rfl) (by kernel_rfl)
theorem ff_91 : FnFit Tryz.prog 91 Tryz.f91 := fnFit_body (by kernel_rfl) (by kernel_rfl) (by kernel_rfl)
theorem ff_123 : FnFit Tryz.prog 123 Tryz.f123 := fnFit_body (by kernel_rfl) (by kernel_rfl) (by kernel_rfl)
theorem ff_59 : FnFit Tryz.prog 59 Tryz.f59 := fnFit_body (by kernel_rfl) (by kernel_rfl) (by kernel_rfl)
theorem ff_27 : FnFit Tryz.prog 27 Tryz.f27 := fnFit_body (by kernel_rfl) (by kernel_rfl) (by kernel_rfl)
theorem ff_11 : FnFit Tryz.prog 11 Tryz.f11 := fnFit_body (by kernel_rfl) (by kernel_rfl) (by kernel_rfl)
theorem ff_129 : FnFit Tryz.prog 129 Tryz.f129 := fnFit_body (by kernel_rfl) (by kernel_rfl) (by kernel_rfl)
theorem ff_65 : FnFit Tryz.prog 65 Tryz.f65 := fnFit_body (by kernel_rfl) (by kernel_rfl) (by kernel_rfl)
theorem ff_161 : FnFit Tryz.prog 161 Tryz.f161 := fnFit_other (by kernel_rfl) (by kernel_rfl) (by kernel_rfl)
theorem ff_225 : FnFit Tryz.prog 225 Tryz.f225 := fnFit_body (by kernel_rfl) (by kernel_rfl) (by kernel_rfl)
theorem ff_97 : FnFit Tryz.prog 97 Tryz.f97 := fnFit_body (by kernel_rfl) (by kernel_rfl) (by kernel_rfl)
theorem ff_145 : FnFit Tryz.prog 145 Tryz.f145 := fnFit_body (by kernel_rfl) (by kernel_rfl) (by kernel_rfl)
theorem ff_81 : FnFit Tryz.prog 81 Tryz.f81 := fnFit_body (by kernel_rfl) (by kernel_rfl) (by kernel_rfl)
theorem ff_177 : FnFit Tryz.prog 177 Tryz.f177 := fnFit_body (by kernel_rfl) (by kernel_rfl) (by kernel_rfl)
theorem ff_49 : FnFit Tryz.prog 49 Tryz.f49 := fnFit_body (by kernel_rfl) (by kernel_rfl) (by kernel_rfl)
theorem ff_17 : FnFit Tryz.prog 17 Tryz.f17 := fnFit_body (by kernel_rfl) (by kernel_rfl) (by kernel_rfl)
theorem ff_137 : FnFit Tryz.prog 137 Tryz.f137 := fnFit_body (by kernel_rfl) (by kernel_rfl) (by kernel_rfl)
theorem ff_201 : FnFit Tryz.prog 201 Tryz.f201 := fnFit_body (by kernel_rfl) (by kernel_rfl) (by kernel_rfl)
theorem ff_73 : FnFit Tryz.prog 73 Tryz.f73 := fnFit_body (by kernel_rfl) (by kernel_rfl) (by kernel_rfl)
theorem ff_169 : FnFit Tryz.prog 169 Tryz.f169 := fnFit_body (by kernel_rfl) (by kernel_rfl) (by kernel_rfl)
theorem ff_105 : FnFit Tryz.prog 105 Tryz.f105 := fnFit_body (by kernel_rfl) (by kernel_rfl) (by kernel_rfl)
theorem ff_41 : FnFit Tryz.prog 41 Tryz.f41 := fnFit_body (by kernel_rfl) (by kernel_rfl) (by kernel_rfl)
theorem ff_153 : FnFit Tryz.prog 153 Tryz.f153 := fnFit_body (by kernel_rfl) (by kernel_rfl) (by kernel_rfl)
theorem ff_217 : FnFit Tryz.prog 217 Tryz.f217 := fnFit_body (by kernel_rfl) (by kernel_rfl) (by kernel_rfl)
theorem ff_89 : FnFit Tryz.prog 89 Tryz.f89 := fnFit_body (by kernel_rfl) (by kernel_rfl) (by kernel_rfl)
theorem ff_185 : FnFit Tryz.prog 185 Tryz.f185 := fnFit_body (by kernel_rfl) (by kernel_rfl) (by kernel_rfl)
theorem ff_249 : FnFit Tryz.prog 249 Tryz.f249 := fnFit_body (by kernel_rfl) (by kernel_rfl) (by kernel_rfl)
theorem ff_121 : FnFit Tryz.prog 121 Tryz.f121 := fnFit_body (by kernel_rfl) (by kernel_rfl) (by kernel_rfl)
theorem ff_57 : FnFit Tryz.prog 57 Tryz.f57 := fnFit_body (by kernel_rfl) (by kernel_rfl) (by kernel_rfl)
theorem ff_25 : FnFit Tryz.prog 25 Tryz.f25 := fnFit_body (by kernel_rfl) (by kernel_rfl) (by kernel_rfl)
theorem ff_9 : FnFit Tryz.prog 9 Tryz.f9 := fnFit_body (by kernel_rfl) (by kernel_rfl) (by kernel_rfl)
theorem ff_133 : FnFit Tryz.prog 133 Tryz.f133 := fnFit_body (by kernel_rfl) (by kernel_rfl) (by kernel_rfl)
theorem ff_69 : FnFit Tryz.prog 69 Tryz.f69 := fnFit_body (by kernel_rfl) (by kernel_rfl) (by kernel_rfl)
theorem ff_165 : FnFit Tryz.prog 165 Tryz.f165 := fnFit_body (by kernel_rfl) (by kernel_rfl) (by kernel_rfl)
theorem ff_101 : FnFit Tryz.prog 101 Tryz.f101 := fnFit_body (by kernel_rfl) (by kernel_rfl) (by kernel_rfl)
theorem ff_37 : FnFit Tryz.prog 37 Tryz.f37 := fnFit_body (by kernel_rfl) (by kernel_rfl) (by kernel_rfl)
theorem ff_85 : FnFit Tryz.prog 85 Tryz.f85 := fnFit_body (by kernel_rfl) (by kernel_rfl) (by kernel_rfl)
theorem ff_181 : FnFit Tryz.prog 181 Tryz.f181 := fnFit_body (by kernel_rfl) (by kernel_rfl) (by kernel_rfl)
theorem ff_245 : FnFit Tryz.prog 245 Tryz.f245 := fnFit_body (by kernel_rfl) (by kernel_rfl) (by kernel_rfl)
theorem ff_117 : FnFit Tryz.prog 117 Tryz.f117 := fnFit_body (by kernel_rfl) (by kernel_rfl) (by kernel_rfl)
theorem ff_53 : FnFit Tryz.prog 53 Tryz.f53 := fnFit_body (by kernel_rfl) (by kernel_rfl) (by kernel_rfl)
theorem ff_21 : FnFit Tryz.prog 21 Tryz.f21 := fnFit_body (by kernel_rfl) (by kernel_rfl) (by kernel_rfl)
theorem ff_141 : FnFit Tryz.prog 141 Tryz.f141 := fnFit_body (by kernel_rfl) (by kernel_rfl) (by kernel_rfl)
theorem ff_205 : FnFit Tryz.prog 205 Tryz.f205 := fnFit_body (by kernel_rfl) (by kernel_rfl) (by kernel_rfl)
theorem ff_77 : FnFit Tryz.prog 77 Tryz.f77 := fnFit_body (by kernel_rfl) (by kernel_rfl) (by kernel_rfl)
theorem ff_173 : FnFit Tryz.prog 173 Tryz.f173 := fnFit_body (by kernel_rfl) (by kernel_rfl) (by kernel_rfl)
theorem ff_237 : FnFit Tryz.prog 237 Tryz.f237 := fnFit_body (by kernel_rfl) (by kernel_rfl) (by kernel_rfl)
theorem ff_109 : FnFit Tryz.prog 109 Tryz.f109 := fnFit_body (by kernel_rfl) (by kernel_rfl) (by kernel_rfl)
theorem ff_157 : FnFit Tryz.prog 157 Tryz.f157 := fnFit_other (by kernel_rfl) (by kernel_rfl) (by kernel_rfl)
theorem ff_221 : FnFit Tryz.prog 221 Tryz.f221 := fnFit_body (by kernel_rfl) (by kernel_rfl) (by kernel_rfl)
theorem ff_93 : FnFit Tryz.prog 93 Tryz.f93 := fnFit_body (by kernel_rfl) (by kernel_rfl) (by kernel_rfl)
theorem ff_189 : FnFit Tryz.prog 189 Tryz.f189 := fnFit_body (by kernel_rfl) (by kernel_rfl) (by kernel_rfl)
theorem ff_253 : FnFit Tryz.prog 253 Tryz.f253 := fnFit_body (by kernel_rfl) (by kernel_rfl) (by kernel_rfl)
theorem ff_125 : FnFit Tryz.prog 125 Tryz.f125 := fnFit_body (by kernel_rfl) (by kernel_rfl) (by kernel_rfl)
theorem ff_61 : FnFit Tryz.prog 61 Tryz.f61 := fnFit_body (by kernel_rfl) (by kernel_rfl) (by kernel_rfl)
theorem ff_29 : FnFit Tryz.prog 29 Tryz.f29 := fnFit_body (by kernel_rfl) (by kernel_rfl) (by kernel_rfl)
theorem ff_13 : FnFit Tryz.prog 13 Tryz.f13 := fnFit_body (by kernel_rfl) (by kernel_rfl) (by kernel_rfl)
theorem ff_128 : FnFit Tryz.prog 128 Tryz.f128 := fnFit_body (by kernel_rfl) (by kernel_rfl) (by kernel_rfl)
theorem ff_64 : FnFit Tryz.prog 64 Tryz.f64 := fnFit_body (by kernel_rfl) (by kernel_rfl) (by kernel_rfl)
theorem ff_160 : FnFit Tryz.prog 160 Tryz.f160 := fnFit_body (by kernel_rfl) (by kernel_rfl) (by kernel_rfl)
theorem ff_224 : FnFit Tryz.prog 224 Tryz.f224 := fnFit_body (by kernel_rfl) (by kernel_rfl) (by kernel_rfl)
theorem ff_96 : FnFit Tryz.prog 96 Tryz.f96 := fnFit_body (by kernel_rfl) (by kernel_rfl) (by kernel_rfl)
theorem ff_32 : FnFit Tryz.prog 32 Tryz.f32 := fnFit_body (by kernel_rfl) (by kernel_rfl) (by kernel_rfl)
theorem ff_144 : FnFit Tryz.prog 144 Tryz.f144 := fnFit_body (by kernel_rfl) (by kernel_rfl) (by kernel_rfl)
theorem ff_176 : FnFit Tryz.prog 176 Tryz.f176 := fnFit_body (by kernel_rfl) (by kernel_rfl) (by kernel_rfl)
theorem ff_112 : FnFit Tryz.prog 112 Tryz.f112 := fnFit_body (by kernel_rfl) (by kernel_rfl) (by kernel_rfl)
theorem ff_48 : FnFit Tryz.prog 48 Tryz.f48 := fnFit_body (by kernel_rfl) (by kernel_rfl) (by kernel_rfl)
theorem ff_136 : FnFit Tryz.prog 136 Tryz.f136 := fnFit_body (by kernel_rfl) (by kernel_rfl) (by kernel_rfl)
theorem ff_200 : FnFit Tryz.prog 200 Tryz.f200 := fnFit_body (by kernel_rfl) (by kernel_rfl) (by kernel_rfl)
theorem ff_72 : FnFit Tryz.prog 72 Tryz.f72 := fnFit_body (by kernel_rfl) (by kernel_rfl) (by kernel_rfl)
theorem ff_168 : FnFit Tryz.prog 168 Tryz.f168 := fnFit_body (by kernel_rfl) (by kernel_rfl) (by kernel_rfl)
theorem ff_104 : FnFit Tryz.prog 104 Tryz.f104 := fnFit_body (by kernel_rfl) (by kernel_rfl) (by kernel_rfl)
theorem ff_152 : FnFit Tryz.prog 152 Tryz.f152 := fnFit_body (by kernel_rfl) (by kernel_rfl) (by kernel_rfl)
theorem ff_216 : FnFit Tryz.prog 216 Tryz.f216 := fnFit_body (by kernel_rfl) (by kernel_rfl) (by kernel_rfl)
theorem ff_88 : FnFit Tryz.prog 88 Tryz.f88 := fnFit_body (by kernel_rfl) (by kernel_rfl) (by kernel_rfl)
theorem ff_184 : FnFit Tryz.prog 184 Tryz.f184 := fnFit_body (by kernel_rfl) (by kernel_rfl) (by kernel_rfl)
theorem ff_248 : FnFit Tryz.prog 248 Tryz.f248 := fnFit_body (by kernel_rfl) (by kernel_rfl) (by kernel_rfl)
theorem ff_120 : FnFit Tryz.prog 120 Tryz.f120 := fnFit_body (by kernel_rfl) (by kernel_rfl) (by kernel_rfl)
theorem ff_56 : FnFit Tryz.prog 56 Tryz.f56 := fnFit_body (by kernel_rfl) (by kernel_rfl) (by kernel_rfl)
theorem ff_24 : FnFit Tryz.prog 24 Tryz.f24 := fnFit_body (by kernel_rfl) (by kernel_rfl) (by kernel_rfl)
theorem ff_8 : FnFit Tryz.prog 8 Tryz.f8 := fnFit_body (by kernel_rfl) (by kernel_rfl) (by kernel_rfl)
theorem ff_132 : FnFit Tryz.prog 132 Tryz.f132 := fnFit_body (by kernel_rfl) (by kernel_rfl) (by kernel_rfl)
theorem ff_68 : FnFit Tryz.prog 68 Tryz.f68 := fnFit_body (by kernel_rfl) (by kernel_rfl) (by kernel_rfl)
theorem ff_164 : FnFit Tryz.prog 164 Tryz.f164 := fnFit_body (by kernel_rfl) (by kernel_rfl) (by kernel_rfl)
theorem ff_100 : FnFit Tryz.prog 100 Tryz.f100 := fnFit_body (by kernel_rfl) (by kernel_rfl) (by kernel_rfl)
theorem ff_36 : FnFit Tryz.prog 36 Tryz.f36 := fnFit_body (by kernel_rfl) (by kernel_rfl) (by kernel_rfl)
theorem ff_148 : FnFit Tryz.prog 148 Tryz.f148 := fnFit_body (by kernel_rfl) (by kernel_rfl) (by kernel_rfl)
theorem ff_84 : FnFit Tryz.prog 84 Tryz.f84 := fnFit_body (by kernel_rfl) (by kernel_rfl) (by kernel_rfl)
theorem ff_180 : FnFit Tryz.prog 180 Tryz.f180 := fnFit_body (by kernel_rfl) (by kernel_rfl) (by kernel_rfl)
theorem ff_244 : FnFit Tryz.prog 244 Tryz.f244 := fnFit_body (by kernel_rfl) (by kernel_rfl) (by kernel_rfl)
theorem ff_116 : FnFit Tryz.prog 116 Tryz.f116 := fnFit_body (by kernel_rfl) (by kernel_rfl) (by kernel_rfl)
theorem ff_52 : FnFit Tryz.prog 52 Tryz.f52 := fnFit_body (by kernel_rfl) (by kernel_rfl) (by kernel_rfl)
theorem ff_20 : FnFit Tryz.prog 20 Tryz.f20 := fnFit_body (by kernel_rfl) (by kernel_rfl) (by kernel_rfl)
theorem ff_140 : FnFit Tryz.prog 140 Tryz.f140 := fnFit_body (by kernel_rfl) (by kernel_rfl) (by kernel_rfl)
theorem ff_204 : FnFit Tryz.prog 204 Tryz.f204 := fnFit_body (by kernel_rfl) (by kernel_rfl) (by kernel_rfl)
theorem ff_76 : FnFit Tryz.prog 76 Tryz.f76 := fnFit_body (by kernel_rfl) (by kernel_rfl) (by kernel_rfl)
theorem ff_172 : FnFit Tryz.prog 172 Tryz.f172 := fnFit_body (by kernel_rfl) (by kernel_rfl) (by kernel_rfl)
theorem ff_236 : FnFit Tryz.prog 236 Tryz.f236 := fnFit_body (by kernel_rfl) (by kernel_rfl) (by kernel_rfl)
theorem ff_108 : FnFit Tryz.prog 108 Tryz.f108 := fnFit_body (by kernel_rfl) (by kernel_rfl) (by kernel_rfl)
theorem ff_156 : FnFit Tryz.prog 156 Tryz.f156 := fnFit_body (by kernel_rfl) (by kernel_rfl) (by kernel_rfl)
theorem ff_220 : FnFit Tryz.prog 220 Tryz.f220 := fnFit_body (by kernel_rfl) (by kernel_rfl) (by kernel_rfl)
theorem ff_92 : FnFit Tryz.prog 92 Tryz.f92 := fnFit_body (by kernel_rfl) (by kernel_rfl) (by kernel_rfl)
theorem ff_124 : FnFit Tryz.prog 124 Tryz.f124 := fnFit_body (by kernel_rfl) (by kernel_rfl) (by kernel_rfl)
theorem ff_60 : FnFit Tryz.prog 60 Tryz.f60 := fnFit_body (by kernel_rfl) (by kernel_rfl) (by kernel_rfl)
theorem ff_28 : FnFit Tryz.prog 28 Tryz.f28 := fnFit_body (by kernel_rfl) (by kernel_rfl) (by kernel_rfl)
theorem ff_130 : FnFit Tryz.prog 130 Tryz.f130 := fnFit_body (by kernel_rfl) (by kernel_rfl) (by kernel_rfl)
theorem ff_66 : FnFit Tryz.prog 66 Tryz.f66 := fnFit_body (by kernel_rfl) (by kernel_rfl) (by kernel_rfl)
theorem ff_226 : FnFit Tryz.prog 226 Tryz.f226 := fnFit_body (by kernel_rfl) (by kernel_rfl) (by kernel_rfl)
theorem ff_98 : FnFit Tryz.prog 98 Tryz.f98 := fnFit_body (by kernel_rfl) (by kernel_rfl) (by kernel_rfl)
theorem ff_34 : FnFit Tryz.prog 34 Tryz.f34 := fnFit_body (by kernel_rfl) (by kernel_rfl) (by kernel_rfl)
theorem ff_82 : FnFit Tryz.prog 82 Tryz.f82 := fnFit_body (by kernel_rfl) (by kernel_rfl) (by kernel_rfl)
theorem ff_178 : FnFit Tryz.prog 178 Tryz.f178 := fnFit_body (by kernel_rfl) (by kernel_rfl) (by kernel_rfl)
theorem ff_114 : FnFit Tryz.prog 114 Tryz.f114 := fnFit_body (by kernel_rfl) (by kernel_rfl) (by kernel_rfl)
theorem ff_50 : FnFit Tryz.prog 50 Tryz.f50 := fnFit_body (by kernel_rfl) (by kernel_rfl) (by kernel_rfl)
theorem ff_18 : FnFit Tryz.prog 18 Tryz.f18 := fnFit_body (by kernel_rfl) (by kernel_rfl) (by kernel_rfl)
theorem ff_138 : FnFit Tryz.prog 138 Tryz.f138 := fnFit_body (by kernel_rfl) (by kernel_rfl) (by kernel_rfl)
theorem ff_202 : FnFit Tryz.prog 202 Tryz.f202 := fnFit_body (by kernel_rfl) (by kernel_rfl) (by kernel_rfl)
theorem ff_74 : FnFit Tryz.prog 74 Tryz.f74 := fnFit_body (by kernel_rfl) (by kernel_rfl) (by kernel_rfl)
theorem ff_170 : FnFit Tryz.prog 170 Tryz.f170 := fnFit_body (by kernel_rfl) (by kernel_rfl) (by kernel_rfl)
theorem ff_234 : FnFit Tryz.prog 234 Tryz.f234 := fnFit_body (by kernel_rfl) (by kernel_rfl) (by kernel_rfl)
theorem ff_106 : FnFit Tryz.prog 106 Tryz.f106 := fnFit_body (by kernel_rfl) (by kernel_rfl) (by kernel_rfl)
theorem ff_42 : FnFit Tryz.prog 42 Tryz.f42 := fnFit_body (by kernel_rfl) (by kernel_rfl) (by kernel_rfl)
theorem ff_154 : FnFit Tryz.prog 154 Tryz.f154 := fnFit_body (by kernel_rfl) (by kernel_rfl) (by kernel_rfl)
theorem ff_218 : FnFit Tryz.prog 218 Tryz.f218 := fnFit_body (by kernel_rfl) (by kernel_rfl) (by kernel_rfl)
theorem ff_90 : FnFit Tryz.prog 90 Tryz.f90 := fnFit_body (by kernel_rfl) (by kernel_rfl) (by kernel_rfl)
theorem ff_186 : FnFit Tryz.prog 186 Tryz.f186 := fnFit_body (by kernel_rfl) (by kernel_rfl) (by kernel_rfl)
theorem ff_250 : FnFit Tryz.prog 250 Tryz.f250 := fnFit_other (by kernel_rfl) (by kernel_rfl) (by kernel_rfl)
theorem ff_122 : FnFit Tryz.prog 122 Tryz.f122 := fnFit_body (by kernel_rfl) (by kernel_rfl) (by kernel_rfl)
theorem ff_58 : FnFit Tryz.prog 58 Tryz.f58 := fnFit_body (by kernel_rfl) (by kernel_rfl) (by kernel_rfl)
theorem ff_26 : FnFit Tryz.prog 26 Tryz.f26 := fnFit_body (by kernel_rfl) (by kernel_rfl) (by kernel_rfl)
theorem ff_134 : FnFit Tryz.prog 134 Tryz.f134 := fnFit_body (by kernel_rfl) (by kernel_rfl) (by kernel_rfl)
theorem ff_70 : FnFit Tryz.prog 70 Tryz.f70 := fnFit_body (by kernel_rfl) (by kernel_rfl) (by kernel_rfl)
theorem ff_166 : FnFit Tryz.prog 166 Tryz.f166 := fnFit_body (by kernel_rfl) (by kernel_rfl) (by kernel_rfl)
theorem ff_102 : FnFit Tryz.prog 102 Tryz.f102 := fnFit_body (by kernel_rfl) (by kernel_rfl) (by kernel_rfl)
theorem ff_38 : FnFit Tryz.prog 38 Tryz.f38 := fnFit_body (by kernel_rfl) (by kernel_rfl) (by kernel_rfl)
theorem ff_150 : FnFit Tryz.prog 150 Tryz.f150 := fnFit_body (by kernel_rfl) (by kernel_rfl) (by kernel_rfl)
theorem ff_182 : FnFit Tryz.prog 182 Tryz.f182 := fnFit_body (by kernel_rfl) (by kernel_rfl) (by kernel_rfl)
theorem ff_118 : FnFit Tryz.prog 118 Tryz.f118 := fnFit_body (by kernel_rfl) (by kernel_rfl) (by kernel_rfl)
theorem ff_54 : FnFit Tryz.prog 54 Tryz.f54 := fnFit_body (by kernel_rfl) (by kernel_rfl) (by kernel_rfl)
theorem ff_22 : FnFit Tryz.prog 22 Tryz.f22 := fnFit_body (by kernel_rfl) (by kernel_rfl) (by kernel_rfl)
theorem ff_142 : FnFit Tryz.prog 142 Tryz.f142 := fnFit_body (by kernel_rfl) (by kernel_rfl) (by kernel_rfl)
theorem ff_206 : FnFit Tryz.prog 206 Tryz.f206 := fnFit_body (by kernel_rfl) (by kernel_rfl) (by kernel_rfl)
theorem ff_78 : FnFit Tryz.prog 78 Tryz.f78 := fnFit_body (by kernel_rfl) (by kernel_rfl) (by kernel_rfl)
theorem ff_174 : FnFit Tryz.prog 174 Tryz.f174 := fnFit_body (by kernel_rfl) (by kernel_rfl) (by kernel_rfl)
theorem ff_238 : FnFit Tryz.prog 238 Tryz.f238 := fnFit_body (by kernel_rfl) (by kernel_rfl) (by kernel_rfl)
theorem ff_110 : FnFit Tryz.prog 110 Tryz.f110 := fnFit_body (by kernel_rfl) (by kernel_rfl) (by kernel_rfl)
theorem ff_46 : FnFit Tryz.prog 46 Tryz.f46 := fnFit_body (by kernel_rfl) (by kernel_rfl) (by kernel_rfl)
theorem ff_222 : FnFit Tryz.prog 222 Tryz.f222 := fnFit_body (by kernel_rfl) (by kernel_rfl) (by kernel_rfl)
theorem ff_94 : FnFit Tryz.prog 94 Tryz.f94 := fnFit_body (by kernel_rfl) (by kernel_rfl) (by kernel_rfl)
theorem ff_254 : FnFit Tryz.prog 254 Tryz.f254 := fnFit_body (by kernel_rfl) (by kernel_rfl) (by kernel_rfl)
theorem ff_126 : FnFit Tryz.prog 126 Tryz.f126 := fnFit_body (by kernel_rfl) (by kernel_rfl) (by kernel_rfl)
theorem ff_62 : FnFit Tryz.prog 62 Tryz.f62 := fnFit_body (by kernel_rfl) (by kernel_rfl) (by kernel_rfl)
theorem ff_30 : FnFit Tryz.prog 30 Tryz.f30 := fnFit_body (by kernel_rfl) (by kernel_rfl) (by kernel_rfl)
theorem tyAll : tyT.All (TyFits Tryz.prog) := (Tr.all_0 (Tr.all_n tf_1 (Tr.all_n tf_3 (Tr.all_n tf_7 (Tr.all_n tf_15 (Tr.all_n tf_31 (Tr.all_n tf_63 (Tr.all_n tf_127 (Tr.all_n tf_255 Tr.all_e Tr.all_e) Tr.all_e) (Tr.all_n tf_191 Tr.all_e Tr.all_e)) (Tr.all_n tf_95 (Tr.all_n tf_159 (Tr.all_n tf_287 Tr.all_e Tr.all_e) Tr.all_e) (Tr.all_n tf_223 Tr.all_e Tr.all_e))) (Tr.all_n tf_47 (Tr.all_n tf_79 (Tr.all_n tf_143 (Tr.all_n tf_271 Tr.all_e Tr.all_e) Tr.all_e) (Tr.all_n tf_207 Tr.all_e Tr.all_e)) (Tr.all_n tf_111 (Tr.all_n tf_175 (Tr.all_n tf_303 Tr.all_e Tr.all_e) Tr.all_e) (Tr.all_n tf_239 Tr.all_e Tr.all_e)))) (Tr.all_n tf_23 (Tr.all_n tf_39 (Tr.all_n tf_71 (Tr.all_n tf_135 (Tr.all_n tf_263 Tr.all_e Tr.all_e) Tr.all_e) (Tr.all_n tf_199 Tr.all_e Tr.all_e)) (Tr.all_n tf_103 (Tr.all_n tf_167 (Tr.all_n tf_295 Tr.all_e Tr.all_e) Tr.all_e) (Tr.all_n tf_231 Tr.all_e Tr.all_e))) (Tr.all_n tf_55 (Tr.all_n tf_87 (Tr.all_0 (Tr.all_n tf_279 Tr.all_e Tr.all_e) Tr.all_e) (Tr.all_n tf_215 Tr.all_e Tr.all_e)) (Tr.all_n tf_119 (Tr.all_n tf_183 (Tr.all_n tf_311 Tr.all_e Tr.all_e) Tr.all_e) Tr.all_e)))) (Tr.all_n tf_11 (Tr.all_n tf_19 (Tr.all_n tf_35 (Tr.all_n tf_67 (Tr.all_n tf_131 (Tr.all_n tf_259 Tr.all_e Tr.all_e) Tr.all_e) (Tr.all_n tf_195 Tr.all_e Tr.all_e)) (Tr.all_n tf_99 (Tr.all_n tf_163 (Tr.all_n tf_291 Tr.all_e Tr.all_e) Tr.all_e) (Tr.all_n tf_227 Tr.all_e Tr.all_e))) (Tr.all_n tf_51 (Tr.all_n tf_83 (Tr.all_n tf_147 (Tr.all_n tf_275 Tr.all_e Tr.all_e) Tr.all_e) (Tr.all_n tf_211 Tr.all_e Tr.all_e)) (Tr.all_n tf_115 (Tr.all_n tf_179 (Tr.all_n tf_307 Tr.all_e Tr.all_e) Tr.all_e) (Tr.all_n tf_243 Tr.all_e Tr.all_e)))) (Tr.all_n tf_27 (Tr.all_n tf_43 (Tr.all_n tf_75 (Tr.all_n tf_139 (Tr.all_n tf_267 Tr.all_e Tr.all_e) Tr.all_e) (Tr.all_n tf_203 Tr.all_e Tr.all_e)) (Tr.all_n tf_107 (Tr.all_0 (Tr.all_n tf_299 Tr.all_e Tr.all_e) Tr.all_e) (Tr.all_n tf_235 Tr.all_e Tr.all_e))) (Tr.all_n tf_59 (Tr.all_n tf_91 (Tr.all_n tf_155 (Tr.all_n tf_283 Tr.all_e Tr.all_e) Tr.all_e) (Tr.all_n tf_219 Tr.all_e Tr.all_e)) (Tr.all_n tf_123 (Tr.all_n tf_187 (Tr.all_n tf_315 Tr.all_e Tr.all_e) Tr.all_e) (Tr.all_n tf_251 Tr.all_e Tr.all_e)))))) (Tr.all_n tf_5 (Tr.all_n tf_9 (Tr.all_n tf_17 (Tr.all_n tf_33 (Tr.all_n tf_65 (Tr.all_n tf_129 (Tr.all_n tf_257 Tr.all_e Tr.all_e) Tr.all_e) (Tr.all_n tf_193 Tr.all_e Tr.all_e)) (Tr.all_n tf_97 (Tr.all_0 (Tr.all_n tf_289 Tr.all_e Tr.all_e) Tr.all_e) (Tr.all_n tf_225 Tr.all_e Tr.all_e))) (Tr.all_n tf_49 (Tr.all_n tf_81 (Tr.all_n tf_145 (Tr.all_n tf_273 Tr.all_e Tr.all_e) Tr.all_e) (Tr.all_n tf_209 Tr.all_e Tr.all_e)) (Tr.all_n tf_113 (Tr.all_n tf_177 (Tr.all_n tf_305 Tr.all_e Tr.all_e) Tr.all_e) (Tr.all_n tf_241 Tr.all_e Tr.all_e)))) (Tr.all_n tf_25 (Tr.all_0 (Tr.all_n tf_73 (Tr.all_n tf_137 (Tr.all_n tf_265 Tr.all_e Tr.all_e) Tr.all_e) (Tr.all_n tf_201 Tr.all_e Tr.all_e)) (Tr.all_n tf_105 (Tr.all_n tf_169 (Tr.all_n tf_297 Tr.all_e Tr.all_e) Tr.all_e) (Tr.all_n tf_233 Tr.all_e Tr.all_e))) (Tr.all_n tf_57 (Tr.all_n tf_89 (Tr.all_n tf_153 (Tr.all_n tf_281 Tr.all_e Tr.all_e) Tr.all_e) (Tr.all_n tf_217 Tr.all_e Tr.all_e)) (Tr.all_n tf_121 (Tr.all_n tf_185 (Tr.all_n tf_313 Tr.all_e Tr.all_e) Tr.all_e) (Tr.all_n tf_249 Tr.all_e Tr.all_e))))) (Tr.all_n tf_13 (Tr.all_n tf_21 (Tr.all_n tf_37 (Tr.all_n tf_69 (Tr.all_n tf_133 (Tr.all_n tf_261 Tr.all_e Tr.all_e) Tr.all_e) (Tr.all_n tf_197 Tr.all_e Tr.all_e)) (Tr.all_n tf_101 (Tr.all_n tf_165 (Tr.all_n tf_293 Tr.all_e Tr.all_e) Tr.all_e) (Tr.all_n tf_229 Tr.all_e Tr.all_e))) (Tr.all_n tf_53 (Tr.all_n tf_85 (Tr.all_n tf_149 (Tr.all_n tf_277 Tr.all_e Tr.all_e) Tr.all_e) (Tr.all_n tf_213 Tr.all_e Tr.all_e)) (Tr.all_n tf_117 (Tr.all_n tf_181 (Tr.all_n tf_309 Tr.all_e Tr.all_e) Tr.all_e) (Tr.all_n tf_245 Tr.all_e Tr.all_e)))) (Tr.all_n tf_29 (Tr.all_n tf_45 (Tr.all_n tf_77 (Tr.all_n tf_141 (Tr.all_n tf_269 Tr.all_e Tr.all_e) Tr.all_e) (Tr.all_n tf_205 Tr.all_e Tr.all_e)) (Tr.all_n tf_109 (Tr.all_0 (Tr.all_n tf_301 Tr.all_e Tr.all_e) Tr.all_e) (Tr.all_n tf_237 Tr.all_e Tr.all_e))) (Tr.all_n tf_61 (Tr.all_n tf_93 (Tr.all_n tf_157 (Tr.all_n tf_285 Tr.all_e Tr.all_e) Tr.all_e) (Tr.all_n tf_221 Tr.all_e Tr.all_e)) (Tr.all_0 (Tr.all_n tf_189 Tr.all_e Tr.all_e) (Tr.all_n tf_253 Tr.all_e Tr.all_e))))))) (Tr.all_n tf_2 (Tr.all_n tf_4 (Tr.all_n tf_8 (Tr.all_n tf_16 (Tr.all_n tf_32 (Tr.all_n tf_64 (Tr.all_n tf_128 (Tr.all_n tf_256 Tr.all_e Tr.all_e) Tr.all_e) (Tr.all_n tf_192 Tr.all_e Tr.all_e)) (Tr.all_n tf_96 (Tr.all_n tf_160 (Tr.all_n tf_288 Tr.all_e Tr.all_e) Tr.all_e) (Tr.all_n tf_224 Tr.all_e Tr.all_e))) (Tr.all_n tf_48 (Tr.all_0 (Tr.all_n tf_144 (Tr.all_n tf_272 Tr.all_e Tr.all_e) Tr.all_e) (Tr.all_n tf_208 Tr.all_e Tr.all_e)) (Tr.all_0 (Tr.all_n tf_176 (Tr.all_n tf_304 Tr.all_e Tr.all_e) Tr.all_e) (Tr.all_n tf_240 Tr.all_e Tr.all_e)))) (Tr.all_n tf_24 (Tr.all_n tf_40 (Tr.all_n tf_72 (Tr.all_n tf_136 (Tr.all_n tf_264 Tr.all_e Tr.all_e) Tr.all_e) (Tr.all_n tf_200 Tr.all_e Tr.all_e)) (Tr.all_n tf_104 (Tr.all_n tf_168 (Tr.all_n tf_296 Tr.all_e Tr.all_e) Tr.all_e) (Tr.all_n tf_232 Tr.all_e Tr.all_e))) (Tr.all_n tf_56 (Tr.all_n tf_88 (Tr.all_n tf_152 (Tr.all_n tf_280 Tr.all_e Tr.all_e) Tr.all_e) (Tr.all_n tf_216 Tr.all_e Tr.all_e)) (Tr.all_n tf_120 (Tr.all_n tf_184 (Tr.all_n tf_312 Tr.all_e Tr.all_e) Tr.all_e) (Tr.all_n tf_248 Tr.all_e Tr.all_e))))) (Tr.all_n tf_12 (Tr.all_n tf_20 (Tr.all_0 (Tr.all_n tf_68 (Tr.all_n tf_132 (Tr.all_n tf_260 Tr.all_e Tr.all_e) Tr.all_e) (Tr.all_n tf_196 Tr.all_e Tr.all_e)) (Tr.all_n tf_100 (Tr.all_n tf_164 (Tr.all_n tf_292 Tr.all_e Tr.all_e) Tr.all_e) (Tr.all_n tf_228 Tr.all_e Tr.all_e))) (Tr.all_n tf_52 (Tr.all_n tf_84 (Tr.all_0 (Tr.all_n tf_276 Tr.all_e Tr.all_e) Tr.all_e) (Tr.all_n tf_212 Tr.all_e Tr.all_e)) (Tr.all_n tf_116 (Tr.all_n tf_180 (Tr.all_n tf_308 Tr.all_e Tr.all_e) Tr.all_e) (Tr.all_n tf_244 Tr.all_e Tr.all_e)))) (Tr.all_n tf_28 (Tr.all_n tf_44 (Tr.all_n tf_76 (Tr.all_n tf_140 (Tr.all_n tf_268 Tr.all_e Tr.all_e) Tr.all_e) (Tr.all_n tf_204 Tr.all_e Tr.all_e)) (Tr.all_n tf_108 (Tr.all_n tf_172 (Tr.all_n tf_300 Tr.all_e Tr.all_e) Tr.all_e) (Tr.all_n tf_236 Tr.all_e Tr.all_e))) (Tr.all_n tf_60 (Tr.all_n tf_92 (Tr.all_n tf_156 (Tr.all_n tf_284 Tr.all_e Tr.all_e) Tr.all_e) (Tr.all_n tf_220 Tr.all_e Tr.all_e)) (Tr.all_n tf_124 (Tr.all_n tf_188 (Tr.all_n tf_316 Tr.all_e Tr.all_e) Tr.all_e) (Tr.all_n tf_252 Tr.all_e Tr.all_e)))))) (Tr.all_n tf_6 (Tr.all_n tf_10 (Tr.all_n tf_18 (Tr.all_n tf_34 (Tr.all_n tf_66 (Tr.all_n tf_130 (Tr.all_n tf_258 Tr.all_e Tr.all_e) Tr.all_e) (Tr.all_n tf_194 Tr.all_e Tr.all_e)) (Tr.all_n tf_98 (Tr.all_n tf_162 Tr.all_e Tr.all_e) (Tr.all_n tf_226 Tr.all_e Tr.all_e))) (Tr.all_n tf_50 (Tr.all_n tf_82 (Tr.all_n tf_146 (Tr.all_n tf_274 Tr.all_e Tr.all_e) Tr.all_e) (Tr.all_n tf_210 Tr.all_e Tr.all_e)) (Tr.all_n tf_114 (Tr.all_n tf_178 (Tr.all_n tf_306 Tr.all_e Tr.all_e) Tr.all_e) (Tr.all_n tf_242 Tr.all_e Tr.all_e)))) (Tr.all_0 (Tr.all_n tf_42 (Tr.all_n tf_74 (Tr.all_n tf_138 (Tr.all_n tf_266 Tr.all_e Tr.all_e) Tr.all_e) (Tr.all_n tf_202 Tr.all_e Tr.all_e)) (Tr.all_n tf_106 (Tr.all_n tf_170 (Tr.all_n tf_298 Tr.all_e Tr.all_e) Tr.all_e) (Tr.all_n tf_234 Tr.all_e Tr.all_e))) (Tr.all_n tf_58 (Tr.all_n tf_90 (Tr.all_0 (Tr.all_n tf_282 Tr.all_e Tr.all_e) Tr.all_e) (Tr.all_n tf_218 Tr.all_e Tr.all_e)) (Tr.all_0 (Tr.all_n tf_186 (Tr.all_n tf_314 Tr.all_e Tr.all_e) Tr.all_e) (Tr.all_n tf_250 Tr.all_e Tr.all_e))))) (Tr.all_n tf_14 (Tr.all_n tf_22 (Tr.all_n tf_38 (Tr.all_n tf_70 (Tr.all_n tf_134 (Tr.all_n tf_262 Tr.all_e Tr.all_e) Tr.all_e) (Tr.all_n tf_198 Tr.all_e Tr.all_e)) (Tr.all_n tf_102 (Tr.all_n tf_166 (Tr.all_n tf_294 Tr.all_e Tr.all_e) Tr.all_e) (Tr.all_n tf_230 Tr.all_e Tr.all_e))) (Tr.all_n tf_54 (Tr.all_n tf_86 (Tr.all_n tf_150 (Tr.all_n tf_278 Tr.all_e Tr.all_e) Tr.all_e) (Tr.all_n tf_214 Tr.all_e Tr.all_e)) (Tr.all_n tf_118 (Tr.all_n tf_182 (Tr.all_n tf_310 Tr.all_e Tr.all_e) Tr.all_e) (Tr.all_n tf_246 Tr.all_e Tr.all_e)))) (Tr.all_n tf_30 (Tr.all_n tf_46 (Tr.all_n tf_78 (Tr.all_0 (Tr.all_n tf_270 Tr.all_e Tr.all_e) Tr.all_e) (Tr.all_n tf_206 Tr.all_e Tr.all_e)) (Tr.all_0 (Tr.all_n tf_174 (Tr.all_n tf_302 Tr.all_e Tr.all_e) Tr.all_e) (Tr.all_n tf_238 Tr.all_e Tr.all_e))) (Tr.all_n tf_62 (Tr.all_n tf_94 (Tr.all_n tf_158 (Tr.all_n tf_286 Tr.all_e Tr.all_e) Tr.all_e) (Tr.all_n tf_222 Tr.all_e Tr.all_e)) (Tr.all_n tf_126 (Tr.all_n tf_190 Tr.all_e Tr.all_e) (Tr.all_n tf_254 Tr.all_e Tr.all_e))))))))
theorem fnAll : fnT.All (FnFit Tryz.prog) := (Tr.all_0 (Tr.all_0 (Tr.all_0 (Tr.all_0 (Tr.all_0 (Tr.all_n ff_31 (Tr.all_n ff_63 (Tr.all_n ff_127 (Tr.all_n ff_255 Tr.all_e Tr.all_e) Tr.all_e) Tr.all_e) (Tr.all_n ff_95 (Tr.all_n ff_159 Tr.all_e Tr.all_e) (Tr.all_n ff_223 Tr.all_e Tr.all_e))) (Tr.all_n ff_47 (Tr.all_n ff_79 (Tr.all_n ff_143 Tr.all_e Tr.all_e) (Tr.all_n ff_207 Tr.all_e Tr.all_e)) (Tr.all_0 (Tr.all_n ff_175 Tr.all_e Tr.all_e) (Tr.all_n ff_239 Tr.all_e Tr.all_e)))) (Tr.all_n ff_23 (Tr.all_0 (Tr.all_n ff_71 (Tr.all_n ff_135 Tr.all_e Tr.all_e) (Tr.all_n ff_199 Tr.all_e Tr.all_e)) (Tr.all_n ff_103 Tr.all_e Tr.all_e)) (Tr.all_n ff_55 (Tr.all_0 (Tr.all_n ff_151 Tr.all_e Tr.all_e) (Tr.all_n ff_215 Tr.all_e Tr.all_e)) (Tr.all_n ff_119 (Tr.all_n ff_183 Tr.all_e Tr.all_e) (Tr.all_n ff_247 Tr.all_e Tr.all_e))))) (Tr.all_n ff_11 (Tr.all_n ff_19 (Tr.all_n ff_35 (Tr.all_n ff_67 (Tr.all_n ff_131 Tr.all_e Tr.all_e) (Tr.all_n ff_195 Tr.all_e Tr.all_e)) (Tr.all_n ff_99 (Tr.all_n ff_163 Tr.all_e Tr.all_e) Tr.all_e)) (Tr.all_n ff_51 (Tr.all_n ff_83 (Tr.all_n ff_147 Tr.all_e Tr.all_e) Tr.all_e) (Tr.all_n ff_115 (Tr.all_n ff_179 Tr.all_e Tr.all_e) (Tr.all_n ff_243 Tr.all_e Tr.all_e)))) (Tr.all_n ff_27 (Tr.all_0 (Tr.all_n ff_75 (Tr.all_n ff_139 Tr.all_e Tr.all_e) (Tr.all_n ff_203 Tr.all_e Tr.all_e)) (Tr.all_n ff_107 (Tr.all_n ff_171 Tr.all_e Tr.all_e) (Tr.all_n ff_235 Tr.all_e Tr.all_e))) (Tr.all_n ff_59 (Tr.all_n ff_91 (Tr.all_n ff_155 Tr.all_e Tr.all_e) (Tr.all_n ff_219 Tr.all_e Tr.all_e)) (Tr.all_n ff_123 Tr.all_e Tr.all_e))))) (Tr.all_0 (Tr.all_n ff_9 (Tr.all_n ff_17 (Tr.all_0 (Tr.all_n ff_65 (Tr.all_n ff_129 Tr.all_e Tr.all_e) Tr.all_e) (Tr.all_n ff_97 (Tr.all_n ff_161 Tr.all_e Tr.all_e) (Tr.all_n ff_225 Tr.all_e Tr.all_e))) (Tr.all_n ff_49 (Tr.all_n ff_81 (Tr.all_n ff_145 Tr.all_e Tr.all_e) Tr.all_e) (Tr.all_0 (Tr.all_n ff_177 Tr.all_e Tr.all_e) Tr.all_e))) (Tr.all_n ff_25 (Tr.all_n ff_41 (Tr.all_n ff_73 (Tr.all_n ff_137 Tr.all_e Tr.all_e) (Tr.all_n ff_201 Tr.all_e Tr.all_e)) (Tr.all_n ff_105 (Tr.all_n ff_169 Tr.all_e Tr.all_e) Tr.all_e)) (Tr.all_n ff_57 (Tr.all_n ff_89 (Tr.all_n ff_153 Tr.all_e Tr.all_e) (Tr.all_n ff_217 Tr.all_e Tr.all_e)) (Tr.all_n ff_121 (Tr.all_n ff_185 Tr.all_e Tr.all_e) (Tr.all_n ff_249 Tr.all_e Tr.all_e))))) (Tr.all_n ff_13 (Tr.all_n ff_21 (Tr.all_n ff_37 (Tr.all_n ff_69 (Tr.all_n ff_133 Tr.all_e Tr.all_e) Tr.all_e) (Tr.all_n ff_101 (Tr.all_n ff_165 Tr.all_e Tr.all_e) Tr.all_e)) (Tr.all_n ff_53 (Tr.all_n ff_85 Tr.all_e Tr.all_e) (Tr.all_n ff_117 (Tr.all_n ff_181 Tr.all_e Tr.all_e) (Tr.all_n ff_245 Tr.all_e Tr.all_e)))) (Tr.all_n ff_29 (Tr.all_0 (Tr.all_n ff_77 (Tr.all_n ff_141 Tr.all_e Tr.all_e) (Tr.all_n ff_205 Tr.all_e Tr.all_e)) (Tr.all_n ff_109 (Tr.all_n ff_173 Tr.all_e Tr.all_e) (Tr.all_n ff_237 Tr.all_e Tr.all_e))) (Tr.all_n ff_61 (Tr.all_n ff_93 (Tr.all_n ff_157 Tr.all_e Tr.all_e) (Tr.all_n ff_221 Tr.all_e Tr.all_e)) (Tr.all_n ff_125 (Tr.all_n ff_189 Tr.all_e Tr.all_e) (Tr.all_n ff_253 Tr.all_e Tr.all_e))))))) (Tr.all_0 (Tr.all_0 (Tr.all_n ff_8 (Tr.all_0 (Tr.all_n ff_32 (Tr.all_n ff_64 (Tr.all_n ff_128 Tr.all_e Tr.all_e) Tr.all_e) (Tr.all_n ff_96 (Tr.all_n ff_160 Tr.all_e Tr.all_e) (Tr.all_n ff_224 Tr.all_e Tr.all_e))) (Tr.all_n ff_48 (Tr.all_0 (Tr.all_n ff_144 Tr.all_e Tr.all_e) Tr.all_e) (Tr.all_n ff_112 (Tr.all_n ff_176 Tr.all_e Tr.all_e) Tr.all_e))) (Tr.all_n ff_24 (Tr.all_0 (Tr.all_n ff_72 (Tr.all_n ff_136 Tr.all_e Tr.all_e) (Tr.all_n ff_200 Tr.all_e Tr.all_e)) (Tr.all_n ff_104 (Tr.all_n ff_168 Tr.all_e Tr.all_e) Tr.all_e)) (Tr.all_n ff_56 (Tr.all_n ff_88 (Tr.all_n ff_152 Tr.all_e Tr.all_e) (Tr.all_n ff_216 Tr.all_e Tr.all_e)) (Tr.all_n ff_120 (Tr.all_n ff_184 Tr.all_e Tr.all_e) (Tr.all_n ff_248 Tr.all_e Tr.all_e))))) (Tr.all_0 (Tr.all_n ff_20 (Tr.all_n ff_36 (Tr.all_n ff_68 (Tr.all_n ff_132 Tr.all_e Tr.all_e) Tr.all_e) (Tr.all_n ff_100 (Tr.all_n ff_164 Tr.all_e Tr.all_e) Tr.all_e)) (Tr.all_n ff_52 (Tr.all_n ff_84 (Tr.all_n ff_148 Tr.all_e Tr.all_e) Tr.all_e) (Tr.all_n ff_116 (Tr.all_n ff_180 Tr.all_e Tr.all_e) (Tr.all_n ff_244 Tr.all_e Tr.all_e)))) (Tr.all_n ff_28 (Tr.all_0 (Tr.all_n ff_76 (Tr.all_n ff_140 Tr.all_e Tr.all_e) (Tr.all_n ff_204 Tr.all_e Tr.all_e)) (Tr.all_n ff_108 (Tr.all_n ff_172 Tr.all_e Tr.all_e) (Tr.all_n ff_236 Tr.all_e Tr.all_e))) (Tr.all_n ff_60 (Tr.all_n ff_92 (Tr.all_n ff_156 Tr.all_e Tr.all_e) (Tr.all_n ff_220 Tr.all_e Tr.all_e)) (Tr.all_n ff_124 Tr.all_e Tr.all_e))))) (Tr.all_0 (Tr.all_0 (Tr.all_n ff_18 (Tr.all_n ff_34 (Tr.all_n ff_66 (Tr.all_n ff_130 Tr.all_e Tr.all_e) Tr.all_e) (Tr.all_n ff_98 Tr.all_e (Tr.all_n ff_226 Tr.all_e Tr.all_e))) (Tr.all_n ff_50 (Tr.all_n ff_82 Tr.all_e Tr.all_e) (Tr.all_n ff_114 (Tr.all_n ff_178 Tr.all_e Tr.all_e) Tr.all_e))) (Tr.all_n ff_26 (Tr.all_n ff_42 (Tr.all_n ff_74 (Tr.all_n ff_138 Tr.all_e Tr.all_e) (Tr.all_n ff_202 Tr.all_e Tr.all_e)) (Tr.all_n ff_106 (Tr.all_n ff_170 Tr.all_e Tr.all_e) (Tr.all_n ff_234 Tr.all_e Tr.all_e))) (Tr.all_n ff_58 (Tr.all_n ff_90 (Tr.all_n ff_154 Tr.all_e Tr.all_e) (Tr.all_n ff_218 Tr.all_e Tr.all_e)) (Tr.all_n ff_122 (Tr.all_n ff_186 Tr.all_e Tr.all_e) (Tr.all_n ff_250 Tr.all_e Tr.all_e))))) (Tr.all_0 (Tr.all_n ff_22 (Tr.all_n ff_38 (Tr.all_n ff_70 (Tr.all_n ff_134 Tr.all_e Tr.all_e) Tr.all_e) (Tr.all_n ff_102 (Tr.all_n ff_166 Tr.all_e Tr.all_e) Tr.all_e)) (Tr.all_n ff_54 (Tr.all_0 (Tr.all_n ff_150 Tr.all_e Tr.all_e) Tr.all_e) (Tr.all_n ff_118 (Tr.all_n ff_182 Tr.all_e Tr.all_e) Tr.all_e))) (Tr.all_n ff_30 (Tr.all_n ff_46 (Tr.all_n ff_78 (Tr.all_n ff_142 Tr.all_e Tr.all_e) (Tr.all_n ff_206 Tr.all_e Tr.all_e)) (Tr.all_n ff_110 (Tr.all_n ff_174 Tr.all_e Tr.all_e) (Tr.all_n ff_238 Tr.all_e Tr.all_e))) (Tr.all_n ff_62 (Tr.all_n ff_94 Tr.all_e (Tr.all_n ff_222 Tr.all_e Tr.all_e)) (Tr.all_n ff_126 Tr.all_e (Tr.all_n ff_254 Tr.all_e Tr.all_e))))))))
theorem fits (sp : List Nat) : Fits (pg sp) Tryz.prog := fits_mk (fun _ => rfl) (fun _ => rfl) tyAll fnAll (by kernel_rfl)
end Go.L1
