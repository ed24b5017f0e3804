/-
  No cell of these rows narrows 'for every input' (looked for: loops, veiled, ifaces, maps, wideKeys, modest, calm, conditions, laid).
  DERIVED. THE GIVEN ROWS OF THIS SEAT. 6 by the template 'for every input the law returns true; each argument reads behind the call as it read before'; 0 by the template 'total and deterministic' (their statements: YtmhdgdehbkjhhaaGreatTotals.lean).
  GIVEN WITH THE SEED: the statements are not yours to turn. If you find one false, say at which input.
  Laid BY PROGRAM, IN A SANDBOX (cutbox-rows.mjs): the forced cells as the released guide's own fill.sh prints them over the translation 3b676456abe13910… (all of the seat's roots in one cut). By AI agents, Wed Nov 11 2026. No macro, syntax, notation, axiom, sorry.
-/
import Derived.Test.YtmhdgdehbkjhhaaGreatChecked
import GoSem.Claim
import GoSem.ClaimJoined
import GoSem.ClaimMapViews
import Derived.JoinedTies
import Derived.KernelRfl
namespace Go.Proofs.YtmhdgdehbkjhhaaGreat
/- THE CELL 'sum', in the pinned program and in every row, IS THE sha256 OF THE DUMP (.gsa) THAT YtmhdgdehbkjhhaaGreatProg.lean LOADS. Nothing in Lean hashes anything: it is a label: what it is worth is what the hold of that sum in a sandbox is worth. -/
noncomputable def Tryz.pinned : Pinned := { name := "ytmhdgdehbkjhhaagreat", sum := "3b676456abe139101eeda67f507d639e5bfe544d87ef4fe87749b426cefbcafc", checked := Tryz.checked }
namespace Rows
def none {H : Type} : Left H := { results := [], args := [] }

/-- 'asterismlaw12.DataAll': WHATEVER THE INPUT: true; the input reads as it did. -/
def dataAllSpec : ChangeSpec := { name := "dataAll", fn := fun _ => fun
  | [d1, d2, d3, d4] => { results := [.lit (.bool true)], args := [d1, d2, d3, d4] }
  | _ => none }
def dataAllRow : OpenClaim := { program := "ytmhdgdehbkjhhaagreat", sum := "3b676456abe139101eeda67f507d639e5bfe544d87ef4fe87749b426cefbcafc", func := "asterism/asterismlaw12.DataAll", spec := "dataAll", inPlace := ["internal/bytealg.abigen_runtime_cmpstring", "slices.overlaps[asterism/omap.pair[string, int]]"], unfollowed := true, recurses := true, apart := false }
def DataAllSaid : Prop := dataAllRow.holds Tryz.pinned (OpenSpec.ofChange dataAllSpec)

/-- ITS FALSE NEIGHBOUR: 'it returns false'. Refute it at one input. -/
def dataAllWrong : ChangeSpec := { name := "dataAll", fn := fun _ => fun
  | [d1, d2, d3, d4] => { results := [.lit (.bool false)], args := [d1, d2, d3, d4] }
  | _ => none }
def DataAllWrongFalsely : Prop := dataAllRow.holds Tryz.pinned (OpenSpec.ofChange dataAllWrong)

/-- 'asterismlaw12.DataWays': WHATEVER THE INPUT: true; the input reads as it did. -/
def dataWaysSpec : ChangeSpec := { name := "dataWays", fn := fun _ => fun
  | [d] => { results := [.lit (.bool true)], args := [d] }
  | _ => none }
def dataWaysRow : OpenClaim := { program := "ytmhdgdehbkjhhaagreat", sum := "3b676456abe139101eeda67f507d639e5bfe544d87ef4fe87749b426cefbcafc", func := "asterism/asterismlaw12.DataWays", spec := "dataWays", inPlace := ["internal/bytealg.abigen_runtime_cmpstring", "slices.overlaps[asterism/omap.pair[string, int]]"], unfollowed := true, recurses := true, apart := false }
def DataWaysSaid : Prop := dataWaysRow.holds Tryz.pinned (OpenSpec.ofChange dataWaysSpec)

/-- ITS FALSE NEIGHBOUR: 'it returns false'. Refute it at one input. -/
def dataWaysWrong : ChangeSpec := { name := "dataWays", fn := fun _ => fun
  | [d] => { results := [.lit (.bool false)], args := [d] }
  | _ => none }
def DataWaysWrongFalsely : Prop := dataWaysRow.holds Tryz.pinned (OpenSpec.ofChange dataWaysWrong)

/-- 'asterismlaw12.DataCopy': WHATEVER THE INPUT: true; the input reads as it did. -/
def dataCopySpec : ChangeSpec := { name := "dataCopy", fn := fun _ => fun
  | [d1, d2] => { results := [.lit (.bool true)], args := [d1, d2] }
  | _ => none }
def dataCopyRow : OpenClaim := { program := "ytmhdgdehbkjhhaagreat", sum := "3b676456abe139101eeda67f507d639e5bfe544d87ef4fe87749b426cefbcafc", func := "asterism/asterismlaw12.DataCopy", spec := "dataCopy", inPlace := ["internal/bytealg.abigen_runtime_cmpstring", "slices.overlaps[asterism/omap.pair[string, int]]"], unfollowed := true, recurses := true, apart := false }
def DataCopySaid : Prop := dataCopyRow.holds Tryz.pinned (OpenSpec.ofChange dataCopySpec)

/-- ITS FALSE NEIGHBOUR: 'it returns false'. Refute it at one input. -/
def dataCopyWrong : ChangeSpec := { name := "dataCopy", fn := fun _ => fun
  | [d1, d2] => { results := [.lit (.bool false)], args := [d1, d2] }
  | _ => none }
def DataCopyWrongFalsely : Prop := dataCopyRow.holds Tryz.pinned (OpenSpec.ofChange dataCopyWrong)

/-- 'asterismlaw13.BatchAll': WHATEVER THE INPUT: true; the input reads as it did. -/
def batchAllSpec : ChangeSpec := { name := "batchAll", fn := fun _ => fun
  | [d1, d2] => { results := [.lit (.bool true)], args := [d1, d2] }
  | _ => none }
def batchAllRow : OpenClaim := { program := "ytmhdgdehbkjhhaagreat", sum := "3b676456abe139101eeda67f507d639e5bfe544d87ef4fe87749b426cefbcafc", func := "asterism/asterismlaw13.BatchAll", spec := "batchAll", inPlace := ["internal/bytealg.abigen_runtime_cmpstring", "slices.overlaps[asterism/omap.pair[string, int]]"], unfollowed := true, recurses := true, apart := false }
def BatchAllSaid : Prop := batchAllRow.holds Tryz.pinned (OpenSpec.ofChange batchAllSpec)

/-- ITS FALSE NEIGHBOUR: 'it returns false'. Refute it at one input. -/
def batchAllWrong : ChangeSpec := { name := "batchAll", fn := fun _ => fun
  | [d1, d2] => { results := [.lit (.bool false)], args := [d1, d2] }
  | _ => none }
def BatchAllWrongFalsely : Prop := batchAllRow.holds Tryz.pinned (OpenSpec.ofChange batchAllWrong)

/-- 'asterismlaw13.BatchMany': WHATEVER THE INPUT: true; the input reads as it did. -/
def batchManySpec : ChangeSpec := { name := "batchMany", fn := fun _ => fun
  | [d] => { results := [.lit (.bool true)], args := [d] }
  | _ => none }
def batchManyRow : OpenClaim := { program := "ytmhdgdehbkjhhaagreat", sum := "3b676456abe139101eeda67f507d639e5bfe544d87ef4fe87749b426cefbcafc", func := "asterism/asterismlaw13.BatchMany", spec := "batchMany", inPlace := ["internal/bytealg.abigen_runtime_cmpstring", "slices.overlaps[asterism/omap.pair[string, int]]"], unfollowed := true, recurses := true, apart := false }
def BatchManySaid : Prop := batchManyRow.holds Tryz.pinned (OpenSpec.ofChange batchManySpec)

/-- ITS FALSE NEIGHBOUR: 'it returns false'. Refute it at one input. -/
def batchManyWrong : ChangeSpec := { name := "batchMany", fn := fun _ => fun
  | [d] => { results := [.lit (.bool false)], args := [d] }
  | _ => none }
def BatchManyWrongFalsely : Prop := batchManyRow.holds Tryz.pinned (OpenSpec.ofChange batchManyWrong)

/-- 'asterismlaw13.BatchNone': WHATEVER THE INPUT: true; the input reads as it did. -/
def batchNoneSpec : ChangeSpec := { name := "batchNone", fn := fun _ => fun
  | [] => { results := [.lit (.bool true)], args := [] }
  | _ => none }
def batchNoneRow : OpenClaim := { program := "ytmhdgdehbkjhhaagreat", sum := "3b676456abe139101eeda67f507d639e5bfe544d87ef4fe87749b426cefbcafc", func := "asterism/asterismlaw13.BatchNone", spec := "batchNone", inPlace := ["internal/bytealg.abigen_runtime_cmpstring", "slices.overlaps[asterism/omap.pair[string, int]]"], unfollowed := true, recurses := true, apart := false }
def BatchNoneSaid : Prop := batchNoneRow.holds Tryz.pinned (OpenSpec.ofChange batchNoneSpec)

/-- ITS FALSE NEIGHBOUR: 'it returns false'. Refute it at one input. -/
def batchNoneWrong : ChangeSpec := { name := "batchNone", fn := fun _ => fun
  | [] => { results := [.lit (.bool false)], args := [] }
  | _ => none }
def BatchNoneWrongFalsely : Prop := batchNoneRow.holds Tryz.pinned (OpenSpec.ofChange batchNoneWrong)

/- THE SECOND FORM. 'bulk': how many values and letters a reading holds, each counted each time it is reached (what is shared counts as often as it is met; a slice's spare places count too). A statement '..UptoSaid' is the law's where the arguments, and the package variables that the reading takes, are together of bulk at most 1048576: NARROWER than '..Said'. Prove '..Said' where nothing that the law and all that it calls make is longer than what came in: it says more and counts as full. Else prove '..UptoSaid'. A law counts once. -/
mutual
def uptoBulk {H : Type} : DataW H → Nat
  | .lit (.string bytes) => bytes.length + 1
  | .lit _ => 1
  | .nil => 1
  | .ptr d => uptoBulk d + 1
  | .slice elems spare => uptoBulkAll elems + uptoBulkAll spare + 1
  | .agg parts => uptoBulkAll parts + 1
  | .iface _ d => uptoBulk d + 1
  | .map entries => uptoBulkEntries entries + 1
  | .held _ => 1
def uptoBulkAll {H : Type} : List (DataW H) → Nat
  | [] => 0
  | d :: r => uptoBulk d + uptoBulkAll r
def uptoBulkEntries {H : Type} : List (Lit × DataW H) → Nat
  | [] => 0
  | x :: r => uptoBulkEntry x + uptoBulkEntries r
def uptoBulkEntry {H : Type} : Lit × DataW H → Nat
  | (.string bytes, d) => bytes.length + uptoBulk d + 1
  | (_, d) => uptoBulk d + 1
 end
def uptoSmall : (H : Type) → List (DataW H) → Bool := fun _ ds => decide (uptoBulkAll ds ≤ 1048576)
def OpenSpec.upto (s : _root_.Go.ChangeSpec) : _root_.Go.OpenSpec := { _root_.Go.OpenSpec.ofChange s with cond := some uptoSmall }

/-- 'asterismlaw12.DataAll', WHERE WHAT IT READS IS OF BULK AT MOST 1048576: true; the input reads as it did. -/
def dataAllUptoRow : OpenClaim := { program := "ytmhdgdehbkjhhaagreat", sum := "3b676456abe139101eeda67f507d639e5bfe544d87ef4fe87749b426cefbcafc", func := "asterism/asterismlaw12.DataAll", spec := "dataAll", inPlace := ["internal/bytealg.abigen_runtime_cmpstring", "slices.overlaps[asterism/omap.pair[string, int]]"], unfollowed := true, recurses := true, apart := false, narrowed := true }
def DataAllUptoSaid : Prop := dataAllUptoRow.holds Tryz.pinned (OpenSpec.upto dataAllSpec)

/-- 'asterismlaw12.DataWays', WHERE WHAT IT READS IS OF BULK AT MOST 1048576: true; the input reads as it did. -/
def dataWaysUptoRow : OpenClaim := { program := "ytmhdgdehbkjhhaagreat", sum := "3b676456abe139101eeda67f507d639e5bfe544d87ef4fe87749b426cefbcafc", func := "asterism/asterismlaw12.DataWays", spec := "dataWays", inPlace := ["internal/bytealg.abigen_runtime_cmpstring", "slices.overlaps[asterism/omap.pair[string, int]]"], unfollowed := true, recurses := true, apart := false, narrowed := true }
def DataWaysUptoSaid : Prop := dataWaysUptoRow.holds Tryz.pinned (OpenSpec.upto dataWaysSpec)

/-- 'asterismlaw12.DataCopy', WHERE WHAT IT READS IS OF BULK AT MOST 1048576: true; the input reads as it did. -/
def dataCopyUptoRow : OpenClaim := { program := "ytmhdgdehbkjhhaagreat", sum := "3b676456abe139101eeda67f507d639e5bfe544d87ef4fe87749b426cefbcafc", func := "asterism/asterismlaw12.DataCopy", spec := "dataCopy", inPlace := ["internal/bytealg.abigen_runtime_cmpstring", "slices.overlaps[asterism/omap.pair[string, int]]"], unfollowed := true, recurses := true, apart := false, narrowed := true }
def DataCopyUptoSaid : Prop := dataCopyUptoRow.holds Tryz.pinned (OpenSpec.upto dataCopySpec)

/-- 'asterismlaw13.BatchAll', WHERE WHAT IT READS IS OF BULK AT MOST 1048576: true; the input reads as it did. -/
def batchAllUptoRow : OpenClaim := { program := "ytmhdgdehbkjhhaagreat", sum := "3b676456abe139101eeda67f507d639e5bfe544d87ef4fe87749b426cefbcafc", func := "asterism/asterismlaw13.BatchAll", spec := "batchAll", inPlace := ["internal/bytealg.abigen_runtime_cmpstring", "slices.overlaps[asterism/omap.pair[string, int]]"], unfollowed := true, recurses := true, apart := false, narrowed := true }
def BatchAllUptoSaid : Prop := batchAllUptoRow.holds Tryz.pinned (OpenSpec.upto batchAllSpec)

/-- 'asterismlaw13.BatchMany', WHERE WHAT IT READS IS OF BULK AT MOST 1048576: true; the input reads as it did. -/
def batchManyUptoRow : OpenClaim := { program := "ytmhdgdehbkjhhaagreat", sum := "3b676456abe139101eeda67f507d639e5bfe544d87ef4fe87749b426cefbcafc", func := "asterism/asterismlaw13.BatchMany", spec := "batchMany", inPlace := ["internal/bytealg.abigen_runtime_cmpstring", "slices.overlaps[asterism/omap.pair[string, int]]"], unfollowed := true, recurses := true, apart := false, narrowed := true }
def BatchManyUptoSaid : Prop := batchManyUptoRow.holds Tryz.pinned (OpenSpec.upto batchManySpec)

/-- 'asterismlaw13.BatchNone', WHERE WHAT IT READS IS OF BULK AT MOST 1048576: true; the input reads as it did. -/
def batchNoneUptoRow : OpenClaim := { program := "ytmhdgdehbkjhhaagreat", sum := "3b676456abe139101eeda67f507d639e5bfe544d87ef4fe87749b426cefbcafc", func := "asterism/asterismlaw13.BatchNone", spec := "batchNone", inPlace := ["internal/bytealg.abigen_runtime_cmpstring", "slices.overlaps[asterism/omap.pair[string, int]]"], unfollowed := true, recurses := true, apart := false, narrowed := true }
def BatchNoneUptoSaid : Prop := batchNoneUptoRow.holds Tryz.pinned (OpenSpec.upto batchNoneSpec)

end Rows
end Go.Proofs.YtmhdgdehbkjhhaaGreat
