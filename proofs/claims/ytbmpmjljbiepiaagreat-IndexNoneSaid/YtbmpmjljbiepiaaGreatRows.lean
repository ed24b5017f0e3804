/-
  No cell of these rows narrows 'for every input' (looked for: loops, veiled, ifaces, maps, wideKeys, modest, calm, conditions, laid).
  DERIVED. THE GIVEN ROWS OF THIS SEAT. 6 by the template 'for every input the law returns true; each argument reads behind the call as it read before'; 0 by the template 'total and deterministic' (their statements: YtbmpmjljbiepiaaGreatTotals.lean).
  GIVEN WITH THE SEED: the statements are not yours to turn. If you find one false, say at which input.
  Laid BY PROGRAM, IN A SANDBOX (cutbox-rows.mjs): the forced cells as the released guide's own fill.sh prints them over the translation 266cd592571ad359… (all of the seat's roots in one cut). By AI agents, Wed Nov 11 2026. No macro, syntax, notation, axiom, sorry.
-/
import Derived.Test.YtbmpmjljbiepiaaGreatChecked
import GoSem.Claim
import GoSem.ClaimJoined
import GoSem.ClaimMapViews
import Derived.JoinedTies
import Derived.KernelRfl
namespace Go.Proofs.YtbmpmjljbiepiaaGreat
/- THE CELL 'sum', in the pinned program and in every row, IS THE sha256 OF THE DUMP (.gsa) THAT YtbmpmjljbiepiaaGreatProg.lean LOADS. Nothing in Lean hashes anything: it is a label: what it is worth is what the hold of that sum in a sandbox is worth. -/
noncomputable def Tryz.pinned : Pinned := { name := "ytbmpmjljbiepiaagreat", sum := "266cd592571ad359fe2ba7b9f3e4c4a8f9c1ee7435cf515f25d6344eb2ae43b7", checked := Tryz.checked }
namespace Rows
def none {H : Type} : Left H := { results := [], args := [] }

/-- 'asterismlaw15.LoadAll': WHATEVER THE INPUT: true; the input reads as it did. -/
def loadAllSpec : ChangeSpec := { name := "loadAll", fn := fun _ => fun
  | [d] => { results := [.lit (.bool true)], args := [d] }
  | _ => none }
def loadAllRow : OpenClaim := { program := "ytbmpmjljbiepiaagreat", sum := "266cd592571ad359fe2ba7b9f3e4c4a8f9c1ee7435cf515f25d6344eb2ae43b7", func := "asterism/asterismlaw15.LoadAll", spec := "loadAll", inPlace := ["internal/bytealg.abigen_runtime_cmpstring", "slices.overlaps[asterism/omap.pair[string, int]]"], unfollowed := true, recurses := true, apart := false }
def LoadAllSaid : Prop := loadAllRow.holds Tryz.pinned (OpenSpec.ofChange loadAllSpec)

/-- ITS FALSE NEIGHBOUR: 'it returns false'. Refute it at one input. -/
def loadAllWrong : ChangeSpec := { name := "loadAll", fn := fun _ => fun
  | [d] => { results := [.lit (.bool false)], args := [d] }
  | _ => none }
def LoadAllWrongFalsely : Prop := loadAllRow.holds Tryz.pinned (OpenSpec.ofChange loadAllWrong)

/-- 'asterismlaw15.LoadStays': WHATEVER THE INPUT: true; the input reads as it did. -/
def loadStaysSpec : ChangeSpec := { name := "loadStays", fn := fun _ => fun
  | [d1, d2] => { results := [.lit (.bool true)], args := [d1, d2] }
  | _ => none }
def loadStaysRow : OpenClaim := { program := "ytbmpmjljbiepiaagreat", sum := "266cd592571ad359fe2ba7b9f3e4c4a8f9c1ee7435cf515f25d6344eb2ae43b7", func := "asterism/asterismlaw15.LoadStays", spec := "loadStays", inPlace := ["internal/bytealg.abigen_runtime_cmpstring", "slices.overlaps[asterism/omap.pair[string, int]]"], unfollowed := true, recurses := true, apart := false }
def LoadStaysSaid : Prop := loadStaysRow.holds Tryz.pinned (OpenSpec.ofChange loadStaysSpec)

/-- ITS FALSE NEIGHBOUR: 'it returns false'. Refute it at one input. -/
def loadStaysWrong : ChangeSpec := { name := "loadStays", fn := fun _ => fun
  | [d1, d2] => { results := [.lit (.bool false)], args := [d1, d2] }
  | _ => none }
def LoadStaysWrongFalsely : Prop := loadStaysRow.holds Tryz.pinned (OpenSpec.ofChange loadStaysWrong)

/-- 'asterismlaw15.LoadParts': WHATEVER THE INPUT: true; the input reads as it did. -/
def loadPartsSpec : ChangeSpec := { name := "loadParts", fn := fun _ => fun
  | [d1, d2, d3] => { results := [.lit (.bool true)], args := [d1, d2, d3] }
  | _ => none }
def loadPartsRow : OpenClaim := { program := "ytbmpmjljbiepiaagreat", sum := "266cd592571ad359fe2ba7b9f3e4c4a8f9c1ee7435cf515f25d6344eb2ae43b7", func := "asterism/asterismlaw15.LoadParts", spec := "loadParts", inPlace := ["internal/bytealg.abigen_runtime_cmpstring", "slices.overlaps[asterism/omap.pair[string, int]]"], unfollowed := true, recurses := true, apart := false }
def LoadPartsSaid : Prop := loadPartsRow.holds Tryz.pinned (OpenSpec.ofChange loadPartsSpec)

/-- ITS FALSE NEIGHBOUR: 'it returns false'. Refute it at one input. -/
def loadPartsWrong : ChangeSpec := { name := "loadParts", fn := fun _ => fun
  | [d1, d2, d3] => { results := [.lit (.bool false)], args := [d1, d2, d3] }
  | _ => none }
def LoadPartsWrongFalsely : Prop := loadPartsRow.holds Tryz.pinned (OpenSpec.ofChange loadPartsWrong)

/-- 'asterismlaw15.LoadOrder': WHATEVER THE INPUT: true; the input reads as it did. -/
def loadOrderSpec : ChangeSpec := { name := "loadOrder", fn := fun _ => fun
  | [d1, d2] => { results := [.lit (.bool true)], args := [d1, d2] }
  | _ => none }
def loadOrderRow : OpenClaim := { program := "ytbmpmjljbiepiaagreat", sum := "266cd592571ad359fe2ba7b9f3e4c4a8f9c1ee7435cf515f25d6344eb2ae43b7", func := "asterism/asterismlaw15.LoadOrder", spec := "loadOrder", inPlace := ["internal/bytealg.abigen_runtime_cmpstring", "slices.overlaps[asterism/omap.pair[string, int]]"], unfollowed := true, recurses := true, apart := false }
def LoadOrderSaid : Prop := loadOrderRow.holds Tryz.pinned (OpenSpec.ofChange loadOrderSpec)

/-- ITS FALSE NEIGHBOUR: 'it returns false'. Refute it at one input. -/
def loadOrderWrong : ChangeSpec := { name := "loadOrder", fn := fun _ => fun
  | [d1, d2] => { results := [.lit (.bool false)], args := [d1, d2] }
  | _ => none }
def LoadOrderWrongFalsely : Prop := loadOrderRow.holds Tryz.pinned (OpenSpec.ofChange loadOrderWrong)

/-- 'asterismlaw15.LoadNumbers': WHATEVER THE INPUT: true; the input reads as it did. -/
def loadNumbersSpec : ChangeSpec := { name := "loadNumbers", fn := fun _ => fun
  | [d1, d2] => { results := [.lit (.bool true)], args := [d1, d2] }
  | _ => none }
def loadNumbersRow : OpenClaim := { program := "ytbmpmjljbiepiaagreat", sum := "266cd592571ad359fe2ba7b9f3e4c4a8f9c1ee7435cf515f25d6344eb2ae43b7", func := "asterism/asterismlaw15.LoadNumbers", spec := "loadNumbers", inPlace := ["internal/bytealg.abigen_runtime_cmpstring", "slices.overlaps[asterism/omap.pair[string, int]]"], unfollowed := true, recurses := true, apart := false }
def LoadNumbersSaid : Prop := loadNumbersRow.holds Tryz.pinned (OpenSpec.ofChange loadNumbersSpec)

/-- ITS FALSE NEIGHBOUR: 'it returns false'. Refute it at one input. -/
def loadNumbersWrong : ChangeSpec := { name := "loadNumbers", fn := fun _ => fun
  | [d1, d2] => { results := [.lit (.bool false)], args := [d1, d2] }
  | _ => none }
def LoadNumbersWrongFalsely : Prop := loadNumbersRow.holds Tryz.pinned (OpenSpec.ofChange loadNumbersWrong)

/-- 'asterismlaw16.IndexNone': WHATEVER THE INPUT: true; the input reads as it did. -/
def indexNoneSpec : ChangeSpec := { name := "indexNone", fn := fun _ => fun
  | [] => { results := [.lit (.bool true)], args := [] }
  | _ => none }
def indexNoneRow : OpenClaim := { program := "ytbmpmjljbiepiaagreat", sum := "266cd592571ad359fe2ba7b9f3e4c4a8f9c1ee7435cf515f25d6344eb2ae43b7", func := "asterism/asterismlaw16.IndexNone", spec := "indexNone", inPlace := ["slices.overlaps[asterism/omap.pair[asterism/api.Value, []int]]", "slices.overlaps[asterism/omap.pair[asterism/api.Value, asterism/bitmap.Map]]", "internal/bytealg.abigen_runtime_cmpstring", "slices.overlaps[asterism/omap.pair[string, int]]"], unfollowed := true, recurses := true, apart := false }
def IndexNoneSaid : Prop := indexNoneRow.holds Tryz.pinned (OpenSpec.ofChange indexNoneSpec)

/-- ITS FALSE NEIGHBOUR: 'it returns false'. Refute it at one input. -/
def indexNoneWrong : ChangeSpec := { name := "indexNone", fn := fun _ => fun
  | [] => { results := [.lit (.bool false)], args := [] }
  | _ => none }
def IndexNoneWrongFalsely : Prop := indexNoneRow.holds Tryz.pinned (OpenSpec.ofChange indexNoneWrong)

/- THE SECOND FORM. 'bulk': how many values and letters a reading holds, each counted each time it is reached (what is shared counts as often as it is met; a slice's spare places count too). A statement '..UptoSaid' is the law's where the arguments, and the package variables that the reading takes, are together of bulk at most 1048576: NARROWER than '..Said'. Prove '..Said' where nothing that the law and all that it calls make is longer than what came in: it says more and counts as full. Else prove '..UptoSaid'. A law counts once. -/
mutual
def uptoBulk {H : Type} : DataW H → Nat
  | .lit (.string bytes) => bytes.length + 1
  | .lit _ => 1
  | .nil => 1
  | .ptr d => uptoBulk d + 1
  | .slice elems spare => uptoBulkAll elems + uptoBulkAll spare + 1
  | .agg parts => uptoBulkAll parts + 1
  | .iface _ d => uptoBulk d + 1
  | .map entries => uptoBulkEntries entries + 1
  | .held _ => 1
def uptoBulkAll {H : Type} : List (DataW H) → Nat
  | [] => 0
  | d :: r => uptoBulk d + uptoBulkAll r
def uptoBulkEntries {H : Type} : List (Lit × DataW H) → Nat
  | [] => 0
  | x :: r => uptoBulkEntry x + uptoBulkEntries r
def uptoBulkEntry {H : Type} : Lit × DataW H → Nat
  | (.string bytes, d) => bytes.length + uptoBulk d + 1
  | (_, d) => uptoBulk d + 1
 end
def uptoSmall : (H : Type) → List (DataW H) → Bool := fun _ ds => decide (uptoBulkAll ds ≤ 1048576)
def OpenSpec.upto (s : _root_.Go.ChangeSpec) : _root_.Go.OpenSpec := { _root_.Go.OpenSpec.ofChange s with cond := some uptoSmall }

/-- 'asterismlaw15.LoadAll', WHERE WHAT IT READS IS OF BULK AT MOST 1048576: true; the input reads as it did. -/
def loadAllUptoRow : OpenClaim := { program := "ytbmpmjljbiepiaagreat", sum := "266cd592571ad359fe2ba7b9f3e4c4a8f9c1ee7435cf515f25d6344eb2ae43b7", func := "asterism/asterismlaw15.LoadAll", spec := "loadAll", inPlace := ["internal/bytealg.abigen_runtime_cmpstring", "slices.overlaps[asterism/omap.pair[string, int]]"], unfollowed := true, recurses := true, apart := false, narrowed := true }
def LoadAllUptoSaid : Prop := loadAllUptoRow.holds Tryz.pinned (OpenSpec.upto loadAllSpec)

/-- 'asterismlaw15.LoadStays', WHERE WHAT IT READS IS OF BULK AT MOST 1048576: true; the input reads as it did. -/
def loadStaysUptoRow : OpenClaim := { program := "ytbmpmjljbiepiaagreat", sum := "266cd592571ad359fe2ba7b9f3e4c4a8f9c1ee7435cf515f25d6344eb2ae43b7", func := "asterism/asterismlaw15.LoadStays", spec := "loadStays", inPlace := ["internal/bytealg.abigen_runtime_cmpstring", "slices.overlaps[asterism/omap.pair[string, int]]"], unfollowed := true, recurses := true, apart := false, narrowed := true }
def LoadStaysUptoSaid : Prop := loadStaysUptoRow.holds Tryz.pinned (OpenSpec.upto loadStaysSpec)

/-- 'asterismlaw15.LoadParts', WHERE WHAT IT READS IS OF BULK AT MOST 1048576: true; the input reads as it did. -/
def loadPartsUptoRow : OpenClaim := { program := "ytbmpmjljbiepiaagreat", sum := "266cd592571ad359fe2ba7b9f3e4c4a8f9c1ee7435cf515f25d6344eb2ae43b7", func := "asterism/asterismlaw15.LoadParts", spec := "loadParts", inPlace := ["internal/bytealg.abigen_runtime_cmpstring", "slices.overlaps[asterism/omap.pair[string, int]]"], unfollowed := true, recurses := true, apart := false, narrowed := true }
def LoadPartsUptoSaid : Prop := loadPartsUptoRow.holds Tryz.pinned (OpenSpec.upto loadPartsSpec)

/-- 'asterismlaw15.LoadOrder', WHERE WHAT IT READS IS OF BULK AT MOST 1048576: true; the input reads as it did. -/
def loadOrderUptoRow : OpenClaim := { program := "ytbmpmjljbiepiaagreat", sum := "266cd592571ad359fe2ba7b9f3e4c4a8f9c1ee7435cf515f25d6344eb2ae43b7", func := "asterism/asterismlaw15.LoadOrder", spec := "loadOrder", inPlace := ["internal/bytealg.abigen_runtime_cmpstring", "slices.overlaps[asterism/omap.pair[string, int]]"], unfollowed := true, recurses := true, apart := false, narrowed := true }
def LoadOrderUptoSaid : Prop := loadOrderUptoRow.holds Tryz.pinned (OpenSpec.upto loadOrderSpec)

/-- 'asterismlaw15.LoadNumbers', WHERE WHAT IT READS IS OF BULK AT MOST 1048576: true; the input reads as it did. -/
def loadNumbersUptoRow : OpenClaim := { program := "ytbmpmjljbiepiaagreat", sum := "266cd592571ad359fe2ba7b9f3e4c4a8f9c1ee7435cf515f25d6344eb2ae43b7", func := "asterism/asterismlaw15.LoadNumbers", spec := "loadNumbers", inPlace := ["internal/bytealg.abigen_runtime_cmpstring", "slices.overlaps[asterism/omap.pair[string, int]]"], unfollowed := true, recurses := true, apart := false, narrowed := true }
def LoadNumbersUptoSaid : Prop := loadNumbersUptoRow.holds Tryz.pinned (OpenSpec.upto loadNumbersSpec)

/-- 'asterismlaw16.IndexNone', WHERE WHAT IT READS IS OF BULK AT MOST 1048576: true; the input reads as it did. -/
def indexNoneUptoRow : OpenClaim := { program := "ytbmpmjljbiepiaagreat", sum := "266cd592571ad359fe2ba7b9f3e4c4a8f9c1ee7435cf515f25d6344eb2ae43b7", func := "asterism/asterismlaw16.IndexNone", spec := "indexNone", inPlace := ["slices.overlaps[asterism/omap.pair[asterism/api.Value, []int]]", "slices.overlaps[asterism/omap.pair[asterism/api.Value, asterism/bitmap.Map]]", "internal/bytealg.abigen_runtime_cmpstring", "slices.overlaps[asterism/omap.pair[string, int]]"], unfollowed := true, recurses := true, apart := false, narrowed := true }
def IndexNoneUptoSaid : Prop := indexNoneUptoRow.holds Tryz.pinned (OpenSpec.upto indexNoneSpec)

end Rows
end Go.Proofs.YtbmpmjljbiepiaaGreat
