/-
  No cell of these rows narrows 'for every input' (looked for: loops, veiled, ifaces, maps, wideKeys, modest, calm, conditions, laid).
  DERIVED. THE GIVEN ROWS OF THIS SEAT. 10 by the template 'for every input the law returns true; each argument reads behind the call as it read before'; 0 by the template 'total and deterministic' (their statements: YtibfkfinghcpaaaTotals.lean).
  GIVEN WITH THE SEED: the statements are not yours to turn. If you find one false, say at which input.
  Laid BY PROGRAM, IN A SANDBOX (cutbox-rows.mjs): the forced cells as the released guide's own fill.sh prints them over the translation 35c670a68b736f9f… (all of the seat's roots in one cut). By AI agents, Wed Nov 11 2026. No macro, syntax, notation, axiom, sorry.
-/
import Derived.Test.YtibfkfinghcpaaaChecked
import GoSem.Claim
import GoSem.ClaimJoined
import GoSem.ClaimMapViews
import Derived.JoinedTies
import Derived.KernelRfl
namespace Go.Proofs.Ytibfkfinghcpaaa
/- THE CELL 'sum', in the pinned program and in every row, IS THE sha256 OF THE DUMP (.gsa) THAT YtibfkfinghcpaaaProg.lean LOADS. Nothing in Lean hashes anything: it is a label: what it is worth is what the hold of that sum in a sandbox is worth. -/
noncomputable def Try.pinned : Pinned := { name := "ytibfkfinghcpaaa", sum := "35c670a68b736f9f79ebd7414faf8957901f1976dad38f2035b66cd23f460f58", checked := Try.checked }
namespace Rows
def none {H : Type} : Left H := { results := [], args := [] }

/-- 'laws.FnUnpackBehind': WHATEVER THE INPUT: true; the input reads as it did. -/
def fnUnpackBehindSpec : ChangeSpec := { name := "fnUnpackBehind", fn := fun _ => fun
  | [d1, d2] => { results := [.lit (.bool true)], args := [d1, d2] }
  | _ => none }
def fnUnpackBehindRow : OpenClaim := { program := "ytibfkfinghcpaaa", sum := "35c670a68b736f9f79ebd7414faf8957901f1976dad38f2035b66cd23f460f58", func := "loop.example/soughtstreams/laws.FnUnpackBehind", spec := "fnUnpackBehind", recurses := true, apart := false }
def FnUnpackBehindSaid : Prop := fnUnpackBehindRow.holds Try.pinned (OpenSpec.ofChange fnUnpackBehindSpec)

/-- ITS FALSE NEIGHBOUR: 'it returns false'. Refute it at one input. -/
def fnUnpackBehindWrong : ChangeSpec := { name := "fnUnpackBehind", fn := fun _ => fun
  | [d1, d2] => { results := [.lit (.bool false)], args := [d1, d2] }
  | _ => none }
def FnUnpackBehindWrongFalsely : Prop := fnUnpackBehindRow.holds Try.pinned (OpenSpec.ofChange fnUnpackBehindWrong)

/-- 'laws.FnCodesPackUnpack': WHATEVER THE INPUT: true; the input reads as it did. -/
def fnCodesPackUnpackSpec : ChangeSpec := { name := "fnCodesPackUnpack", fn := fun _ => fun
  | [d] => { results := [.lit (.bool true)], args := [d] }
  | _ => none }
def fnCodesPackUnpackRow : OpenClaim := { program := "ytibfkfinghcpaaa", sum := "35c670a68b736f9f79ebd7414faf8957901f1976dad38f2035b66cd23f460f58", func := "loop.example/soughtstreams/laws.FnCodesPackUnpack", spec := "fnCodesPackUnpack", recurses := true, apart := false }
def FnCodesPackUnpackSaid : Prop := fnCodesPackUnpackRow.holds Try.pinned (OpenSpec.ofChange fnCodesPackUnpackSpec)

/-- ITS FALSE NEIGHBOUR: 'it returns false'. Refute it at one input. -/
def fnCodesPackUnpackWrong : ChangeSpec := { name := "fnCodesPackUnpack", fn := fun _ => fun
  | [d] => { results := [.lit (.bool false)], args := [d] }
  | _ => none }
def FnCodesPackUnpackWrongFalsely : Prop := fnCodesPackUnpackRow.holds Try.pinned (OpenSpec.ofChange fnCodesPackUnpackWrong)

/-- 'laws.FnDecompressCodes': WHATEVER THE INPUT: true; the input reads as it did. -/
def fnDecompressCodesSpec : ChangeSpec := { name := "fnDecompressCodes", fn := fun _ => fun
  | [d] => { results := [.lit (.bool true)], args := [d] }
  | _ => none }
def fnDecompressCodesRow : OpenClaim := { program := "ytibfkfinghcpaaa", sum := "35c670a68b736f9f79ebd7414faf8957901f1976dad38f2035b66cd23f460f58", func := "loop.example/soughtstreams/laws.FnDecompressCodes", spec := "fnDecompressCodes", recurses := true, apart := false }
def FnDecompressCodesSaid : Prop := fnDecompressCodesRow.holds Try.pinned (OpenSpec.ofChange fnDecompressCodesSpec)

/-- ITS FALSE NEIGHBOUR: 'it returns false'. Refute it at one input. -/
def fnDecompressCodesWrong : ChangeSpec := { name := "fnDecompressCodes", fn := fun _ => fun
  | [d] => { results := [.lit (.bool false)], args := [d] }
  | _ => none }
def FnDecompressCodesWrongFalsely : Prop := fnDecompressCodesRow.holds Try.pinned (OpenSpec.ofChange fnDecompressCodesWrong)

/-- 'laws.FnCodesUnpackPack': WHATEVER THE INPUT: true; the input reads as it did. -/
def fnCodesUnpackPackSpec : ChangeSpec := { name := "fnCodesUnpackPack", fn := fun _ => fun
  | [d] => { results := [.lit (.bool true)], args := [d] }
  | _ => none }
def fnCodesUnpackPackRow : OpenClaim := { program := "ytibfkfinghcpaaa", sum := "35c670a68b736f9f79ebd7414faf8957901f1976dad38f2035b66cd23f460f58", func := "loop.example/soughtstreams/laws.FnCodesUnpackPack", spec := "fnCodesUnpackPack", recurses := true, apart := false }
def FnCodesUnpackPackSaid : Prop := fnCodesUnpackPackRow.holds Try.pinned (OpenSpec.ofChange fnCodesUnpackPackSpec)

/-- ITS FALSE NEIGHBOUR: 'it returns false'. Refute it at one input. -/
def fnCodesUnpackPackWrong : ChangeSpec := { name := "fnCodesUnpackPack", fn := fun _ => fun
  | [d] => { results := [.lit (.bool false)], args := [d] }
  | _ => none }
def FnCodesUnpackPackWrongFalsely : Prop := fnCodesUnpackPackRow.holds Try.pinned (OpenSpec.ofChange fnCodesUnpackPackWrong)

/-- 'laws.FnRepack': WHATEVER THE INPUT: true; the input reads as it did. -/
def fnRepackSpec : ChangeSpec := { name := "fnRepack", fn := fun _ => fun
  | [d] => { results := [.lit (.bool true)], args := [d] }
  | _ => none }
def fnRepackRow : OpenClaim := { program := "ytibfkfinghcpaaa", sum := "35c670a68b736f9f79ebd7414faf8957901f1976dad38f2035b66cd23f460f58", func := "loop.example/soughtstreams/laws.FnRepack", spec := "fnRepack", recurses := true, apart := false }
def FnRepackSaid : Prop := fnRepackRow.holds Try.pinned (OpenSpec.ofChange fnRepackSpec)

/-- ITS FALSE NEIGHBOUR: 'it returns false'. Refute it at one input. -/
def fnRepackWrong : ChangeSpec := { name := "fnRepack", fn := fun _ => fun
  | [d] => { results := [.lit (.bool false)], args := [d] }
  | _ => none }
def FnRepackWrongFalsely : Prop := fnRepackRow.holds Try.pinned (OpenSpec.ofChange fnRepackWrong)

/-- 'laws.FnReadParts': WHATEVER THE INPUT: true; the input reads as it did. -/
def fnReadPartsSpec : ChangeSpec := { name := "fnReadParts", fn := fun _ => fun
  | [d1, d2] => { results := [.lit (.bool true)], args := [d1, d2] }
  | _ => none }
def fnReadPartsRow : OpenClaim := { program := "ytibfkfinghcpaaa", sum := "35c670a68b736f9f79ebd7414faf8957901f1976dad38f2035b66cd23f460f58", func := "loop.example/soughtstreams/laws.FnReadParts", spec := "fnReadParts", recurses := true, apart := false }
def FnReadPartsSaid : Prop := fnReadPartsRow.holds Try.pinned (OpenSpec.ofChange fnReadPartsSpec)

/-- ITS FALSE NEIGHBOUR: 'it returns false'. Refute it at one input. -/
def fnReadPartsWrong : ChangeSpec := { name := "fnReadParts", fn := fun _ => fun
  | [d1, d2] => { results := [.lit (.bool false)], args := [d1, d2] }
  | _ => none }
def FnReadPartsWrongFalsely : Prop := fnReadPartsRow.holds Try.pinned (OpenSpec.ofChange fnReadPartsWrong)

/-- 'laws.FnReaderEnded': WHATEVER THE INPUT: true; the input reads as it did. -/
def fnReaderEndedSpec : ChangeSpec := { name := "fnReaderEnded", fn := fun _ => fun
  | [d] => { results := [.lit (.bool true)], args := [d] }
  | _ => none }
def fnReaderEndedRow : OpenClaim := { program := "ytibfkfinghcpaaa", sum := "35c670a68b736f9f79ebd7414faf8957901f1976dad38f2035b66cd23f460f58", func := "loop.example/soughtstreams/laws.FnReaderEnded", spec := "fnReaderEnded", recurses := true, apart := false }
def FnReaderEndedSaid : Prop := fnReaderEndedRow.holds Try.pinned (OpenSpec.ofChange fnReaderEndedSpec)

/-- ITS FALSE NEIGHBOUR: 'it returns false'. Refute it at one input. -/
def fnReaderEndedWrong : ChangeSpec := { name := "fnReaderEnded", fn := fun _ => fun
  | [d] => { results := [.lit (.bool false)], args := [d] }
  | _ => none }
def FnReaderEndedWrongFalsely : Prop := fnReaderEndedRow.holds Try.pinned (OpenSpec.ofChange fnReaderEndedWrong)

/-- 'laws.FnReaderNeeds': WHATEVER THE INPUT: true; the input reads as it did. -/
def fnReaderNeedsSpec : ChangeSpec := { name := "fnReaderNeeds", fn := fun _ => fun
  | [d1, d2] => { results := [.lit (.bool true)], args := [d1, d2] }
  | _ => none }
def fnReaderNeedsRow : OpenClaim := { program := "ytibfkfinghcpaaa", sum := "35c670a68b736f9f79ebd7414faf8957901f1976dad38f2035b66cd23f460f58", func := "loop.example/soughtstreams/laws.FnReaderNeeds", spec := "fnReaderNeeds", recurses := true, apart := false }
def FnReaderNeedsSaid : Prop := fnReaderNeedsRow.holds Try.pinned (OpenSpec.ofChange fnReaderNeedsSpec)

/-- ITS FALSE NEIGHBOUR: 'it returns false'. Refute it at one input. -/
def fnReaderNeedsWrong : ChangeSpec := { name := "fnReaderNeeds", fn := fun _ => fun
  | [d1, d2] => { results := [.lit (.bool false)], args := [d1, d2] }
  | _ => none }
def FnReaderNeedsWrongFalsely : Prop := fnReaderNeedsRow.holds Try.pinned (OpenSpec.ofChange fnReaderNeedsWrong)

/-- 'laws.FnReadAll': WHATEVER THE INPUT: true; the input reads as it did. -/
def fnReadAllSpec : ChangeSpec := { name := "fnReadAll", fn := fun _ => fun
  | [d] => { results := [.lit (.bool true)], args := [d] }
  | _ => none }
def fnReadAllRow : OpenClaim := { program := "ytibfkfinghcpaaa", sum := "35c670a68b736f9f79ebd7414faf8957901f1976dad38f2035b66cd23f460f58", func := "loop.example/soughtstreams/laws.FnReadAll", spec := "fnReadAll", inPlace := ["internal/abi.NoEscape"], recurses := true, apart := false }
def FnReadAllSaid : Prop := fnReadAllRow.holds Try.pinned (OpenSpec.ofChange fnReadAllSpec)

/-- ITS FALSE NEIGHBOUR: 'it returns false'. Refute it at one input. -/
def fnReadAllWrong : ChangeSpec := { name := "fnReadAll", fn := fun _ => fun
  | [d] => { results := [.lit (.bool false)], args := [d] }
  | _ => none }
def FnReadAllWrongFalsely : Prop := fnReadAllRow.holds Try.pinned (OpenSpec.ofChange fnReadAllWrong)

/-- 'laws.FnExactReadAll': WHATEVER THE INPUT: true; the input reads as it did. -/
def fnExactReadAllSpec : ChangeSpec := { name := "fnExactReadAll", fn := fun _ => fun
  | [d1, d2] => { results := [.lit (.bool true)], args := [d1, d2] }
  | _ => none }
def fnExactReadAllRow : OpenClaim := { program := "ytibfkfinghcpaaa", sum := "35c670a68b736f9f79ebd7414faf8957901f1976dad38f2035b66cd23f460f58", func := "loop.example/soughtstreams/laws.FnExactReadAll", spec := "fnExactReadAll", inPlace := ["internal/abi.NoEscape"], recurses := true, apart := false }
def FnExactReadAllSaid : Prop := fnExactReadAllRow.holds Try.pinned (OpenSpec.ofChange fnExactReadAllSpec)

/-- ITS FALSE NEIGHBOUR: 'it returns false'. Refute it at one input. -/
def fnExactReadAllWrong : ChangeSpec := { name := "fnExactReadAll", fn := fun _ => fun
  | [d1, d2] => { results := [.lit (.bool false)], args := [d1, d2] }
  | _ => none }
def FnExactReadAllWrongFalsely : Prop := fnExactReadAllRow.holds Try.pinned (OpenSpec.ofChange fnExactReadAllWrong)

/- THE SECOND FORM. 'bulk': how many values and letters a reading holds, each counted each time it is reached (what is shared counts as often as it is met; a slice's spare places count too). A statement '..UptoSaid' is the law's where the arguments, and the package variables that the reading takes, are together of bulk at most 1048576: NARROWER than '..Said'. Prove '..Said' where nothing that the law and all that it calls make is longer than what came in: it says more and counts as full. Else prove '..UptoSaid'. A law counts once. -/
mutual
def uptoBulk {H : Type} : DataW H → Nat
  | .lit (.string bytes) => bytes.length + 1
  | .lit _ => 1
  | .nil => 1
  | .ptr d => uptoBulk d + 1
  | .slice elems spare => uptoBulkAll elems + uptoBulkAll spare + 1
  | .agg parts => uptoBulkAll parts + 1
  | .iface _ d => uptoBulk d + 1
  | .map entries => uptoBulkEntries entries + 1
  | .held _ => 1
def uptoBulkAll {H : Type} : List (DataW H) → Nat
  | [] => 0
  | d :: r => uptoBulk d + uptoBulkAll r
def uptoBulkEntries {H : Type} : List (Lit × DataW H) → Nat
  | [] => 0
  | x :: r => uptoBulkEntry x + uptoBulkEntries r
def uptoBulkEntry {H : Type} : Lit × DataW H → Nat
  | (.string bytes, d) => bytes.length + uptoBulk d + 1
  | (_, d) => uptoBulk d + 1
 end
def uptoSmall : (H : Type) → List (DataW H) → Bool := fun _ ds => decide (uptoBulkAll ds ≤ 1048576)
def OpenSpec.upto (s : _root_.Go.ChangeSpec) : _root_.Go.OpenSpec := { _root_.Go.OpenSpec.ofChange s with cond := some uptoSmall }

/-- 'laws.FnUnpackBehind', WHERE WHAT IT READS IS OF BULK AT MOST 1048576: true; the input reads as it did. -/
def fnUnpackBehindUptoRow : OpenClaim := { program := "ytibfkfinghcpaaa", sum := "35c670a68b736f9f79ebd7414faf8957901f1976dad38f2035b66cd23f460f58", func := "loop.example/soughtstreams/laws.FnUnpackBehind", spec := "fnUnpackBehind", recurses := true, apart := false, narrowed := true }
def FnUnpackBehindUptoSaid : Prop := fnUnpackBehindUptoRow.holds Try.pinned (OpenSpec.upto fnUnpackBehindSpec)

/-- 'laws.FnCodesPackUnpack', WHERE WHAT IT READS IS OF BULK AT MOST 1048576: true; the input reads as it did. -/
def fnCodesPackUnpackUptoRow : OpenClaim := { program := "ytibfkfinghcpaaa", sum := "35c670a68b736f9f79ebd7414faf8957901f1976dad38f2035b66cd23f460f58", func := "loop.example/soughtstreams/laws.FnCodesPackUnpack", spec := "fnCodesPackUnpack", recurses := true, apart := false, narrowed := true }
def FnCodesPackUnpackUptoSaid : Prop := fnCodesPackUnpackUptoRow.holds Try.pinned (OpenSpec.upto fnCodesPackUnpackSpec)

/-- 'laws.FnDecompressCodes', WHERE WHAT IT READS IS OF BULK AT MOST 1048576: true; the input reads as it did. -/
def fnDecompressCodesUptoRow : OpenClaim := { program := "ytibfkfinghcpaaa", sum := "35c670a68b736f9f79ebd7414faf8957901f1976dad38f2035b66cd23f460f58", func := "loop.example/soughtstreams/laws.FnDecompressCodes", spec := "fnDecompressCodes", recurses := true, apart := false, narrowed := true }
def FnDecompressCodesUptoSaid : Prop := fnDecompressCodesUptoRow.holds Try.pinned (OpenSpec.upto fnDecompressCodesSpec)

/-- 'laws.FnCodesUnpackPack', WHERE WHAT IT READS IS OF BULK AT MOST 1048576: true; the input reads as it did. -/
def fnCodesUnpackPackUptoRow : OpenClaim := { program := "ytibfkfinghcpaaa", sum := "35c670a68b736f9f79ebd7414faf8957901f1976dad38f2035b66cd23f460f58", func := "loop.example/soughtstreams/laws.FnCodesUnpackPack", spec := "fnCodesUnpackPack", recurses := true, apart := false, narrowed := true }
def FnCodesUnpackPackUptoSaid : Prop := fnCodesUnpackPackUptoRow.holds Try.pinned (OpenSpec.upto fnCodesUnpackPackSpec)

/-- 'laws.FnRepack', WHERE WHAT IT READS IS OF BULK AT MOST 1048576: true; the input reads as it did. -/
def fnRepackUptoRow : OpenClaim := { program := "ytibfkfinghcpaaa", sum := "35c670a68b736f9f79ebd7414faf8957901f1976dad38f2035b66cd23f460f58", func := "loop.example/soughtstreams/laws.FnRepack", spec := "fnRepack", recurses := true, apart := false, narrowed := true }
def FnRepackUptoSaid : Prop := fnRepackUptoRow.holds Try.pinned (OpenSpec.upto fnRepackSpec)

/-- 'laws.FnReadParts', WHERE WHAT IT READS IS OF BULK AT MOST 1048576: true; the input reads as it did. -/
def fnReadPartsUptoRow : OpenClaim := { program := "ytibfkfinghcpaaa", sum := "35c670a68b736f9f79ebd7414faf8957901f1976dad38f2035b66cd23f460f58", func := "loop.example/soughtstreams/laws.FnReadParts", spec := "fnReadParts", recurses := true, apart := false, narrowed := true }
def FnReadPartsUptoSaid : Prop := fnReadPartsUptoRow.holds Try.pinned (OpenSpec.upto fnReadPartsSpec)

/-- 'laws.FnReaderEnded', WHERE WHAT IT READS IS OF BULK AT MOST 1048576: true; the input reads as it did. -/
def fnReaderEndedUptoRow : OpenClaim := { program := "ytibfkfinghcpaaa", sum := "35c670a68b736f9f79ebd7414faf8957901f1976dad38f2035b66cd23f460f58", func := "loop.example/soughtstreams/laws.FnReaderEnded", spec := "fnReaderEnded", recurses := true, apart := false, narrowed := true }
def FnReaderEndedUptoSaid : Prop := fnReaderEndedUptoRow.holds Try.pinned (OpenSpec.upto fnReaderEndedSpec)

/-- 'laws.FnReaderNeeds', WHERE WHAT IT READS IS OF BULK AT MOST 1048576: true; the input reads as it did. -/
def fnReaderNeedsUptoRow : OpenClaim := { program := "ytibfkfinghcpaaa", sum := "35c670a68b736f9f79ebd7414faf8957901f1976dad38f2035b66cd23f460f58", func := "loop.example/soughtstreams/laws.FnReaderNeeds", spec := "fnReaderNeeds", recurses := true, apart := false, narrowed := true }
def FnReaderNeedsUptoSaid : Prop := fnReaderNeedsUptoRow.holds Try.pinned (OpenSpec.upto fnReaderNeedsSpec)

/-- 'laws.FnReadAll', WHERE WHAT IT READS IS OF BULK AT MOST 1048576: true; the input reads as it did. -/
def fnReadAllUptoRow : OpenClaim := { program := "ytibfkfinghcpaaa", sum := "35c670a68b736f9f79ebd7414faf8957901f1976dad38f2035b66cd23f460f58", func := "loop.example/soughtstreams/laws.FnReadAll", spec := "fnReadAll", inPlace := ["internal/abi.NoEscape"], recurses := true, apart := false, narrowed := true }
def FnReadAllUptoSaid : Prop := fnReadAllUptoRow.holds Try.pinned (OpenSpec.upto fnReadAllSpec)

/-- 'laws.FnExactReadAll', WHERE WHAT IT READS IS OF BULK AT MOST 1048576: true; the input reads as it did. -/
def fnExactReadAllUptoRow : OpenClaim := { program := "ytibfkfinghcpaaa", sum := "35c670a68b736f9f79ebd7414faf8957901f1976dad38f2035b66cd23f460f58", func := "loop.example/soughtstreams/laws.FnExactReadAll", spec := "fnExactReadAll", inPlace := ["internal/abi.NoEscape"], recurses := true, apart := false, narrowed := true }
def FnExactReadAllUptoSaid : Prop := fnExactReadAllUptoRow.holds Try.pinned (OpenSpec.upto fnExactReadAllSpec)

end Rows
end Go.Proofs.Ytibfkfinghcpaaa
