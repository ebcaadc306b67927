/-
  No cell of these rows narrows 'for every input' (looked for: loops, veiled, ifaces, maps, wideKeys, modest, calm, conditions, laid).
  DERIVED. THE GIVEN ROWS OF THIS SEAT. 12 by the template 'for every input the law returns true; each argument reads behind the call as it read before'; 0 by the template 'total and deterministic' (their statements: YtmenpflcmpihpaaTotals.lean).
  GIVEN WITH THE SEED: the statements are not yours to turn. If you find one false, say at which input.
  Laid BY PROGRAM, IN A SANDBOX (cutbox-rows.mjs): the forced cells as the released guide's own fill.sh prints them over the translation dddec7063f455174… (all of the seat's roots in one cut). By AI agents, Wed Nov 11 2026. No macro, syntax, notation, axiom, sorry.
-/
import Derived.Test.YtmenpflcmpihpaaChecked
import GoSem.Claim
import GoSem.ClaimJoined
import GoSem.ClaimMapViews
import Derived.JoinedTies
import Derived.KernelRfl
namespace Go.Proofs.Ytmenpflcmpihpaa
/- THE CELL 'sum', in the pinned program and in every row, IS THE sha256 OF THE DUMP (.gsa) THAT YtmenpflcmpihpaaProg.lean LOADS. Nothing in Lean hashes anything: it is a label: what it is worth is what the hold of that sum in a sandbox is worth. -/
noncomputable def Try.pinned : Pinned := { name := "ytmenpflcmpihpaa", sum := "dddec7063f455174cae49024d0f8b9f9e351dd11a9207a393ca6ebcacdca235e", checked := Try.checked }
namespace Rows
def none {H : Type} : Left H := { results := [], args := [] }

/-- 'laws.FnExactGreedyCodes': WHATEVER THE INPUT: true; the input reads as it did. -/
def fnExactGreedyCodesSpec : ChangeSpec := { name := "fnExactGreedyCodes", fn := fun _ => fun
  | [d1, d2] => { results := [.lit (.bool true)], args := [d1, d2] }
  | _ => none }
def fnExactGreedyCodesRow : OpenClaim := { program := "ytmenpflcmpihpaa", sum := "dddec7063f455174cae49024d0f8b9f9e351dd11a9207a393ca6ebcacdca235e", func := "loop.example/soughtstreams/laws.FnExactGreedyCodes", spec := "fnExactGreedyCodes", apart := false }
def FnExactGreedyCodesSaid : Prop := fnExactGreedyCodesRow.holds Try.pinned (OpenSpec.ofChange fnExactGreedyCodesSpec)

/-- ITS FALSE NEIGHBOUR: 'it returns false'. Refute it at one input. -/
def fnExactGreedyCodesWrong : ChangeSpec := { name := "fnExactGreedyCodes", fn := fun _ => fun
  | [d1, d2] => { results := [.lit (.bool false)], args := [d1, d2] }
  | _ => none }
def FnExactGreedyCodesWrongFalsely : Prop := fnExactGreedyCodesRow.holds Try.pinned (OpenSpec.ofChange fnExactGreedyCodesWrong)

/-- 'laws.FnExactWordUses': WHATEVER THE INPUT: true; the input reads as it did. -/
def fnExactWordUsesSpec : ChangeSpec := { name := "fnExactWordUses", fn := fun _ => fun
  | [d1, d2] => { results := [.lit (.bool true)], args := [d1, d2] }
  | _ => none }
def fnExactWordUsesRow : OpenClaim := { program := "ytmenpflcmpihpaa", sum := "dddec7063f455174cae49024d0f8b9f9e351dd11a9207a393ca6ebcacdca235e", func := "loop.example/soughtstreams/laws.FnExactWordUses", spec := "fnExactWordUses", apart := false }
def FnExactWordUsesSaid : Prop := fnExactWordUsesRow.holds Try.pinned (OpenSpec.ofChange fnExactWordUsesSpec)

/-- ITS FALSE NEIGHBOUR: 'it returns false'. Refute it at one input. -/
def fnExactWordUsesWrong : ChangeSpec := { name := "fnExactWordUses", fn := fun _ => fun
  | [d1, d2] => { results := [.lit (.bool false)], args := [d1, d2] }
  | _ => none }
def FnExactWordUsesWrongFalsely : Prop := fnExactWordUsesRow.holds Try.pinned (OpenSpec.ofChange fnExactWordUsesWrong)

/-- 'laws.FnExactPackCodes': WHATEVER THE INPUT: true; the input reads as it did. -/
def fnExactPackCodesSpec : ChangeSpec := { name := "fnExactPackCodes", fn := fun _ => fun
  | [d1, d2] => { results := [.lit (.bool true)], args := [d1, d2] }
  | _ => none }
def fnExactPackCodesRow : OpenClaim := { program := "ytmenpflcmpihpaa", sum := "dddec7063f455174cae49024d0f8b9f9e351dd11a9207a393ca6ebcacdca235e", func := "loop.example/soughtstreams/laws.FnExactPackCodes", spec := "fnExactPackCodes", recurses := true, apart := false }
def FnExactPackCodesSaid : Prop := fnExactPackCodesRow.holds Try.pinned (OpenSpec.ofChange fnExactPackCodesSpec)

/-- ITS FALSE NEIGHBOUR: 'it returns false'. Refute it at one input. -/
def fnExactPackCodesWrong : ChangeSpec := { name := "fnExactPackCodes", fn := fun _ => fun
  | [d1, d2] => { results := [.lit (.bool false)], args := [d1, d2] }
  | _ => none }
def FnExactPackCodesWrongFalsely : Prop := fnExactPackCodesRow.holds Try.pinned (OpenSpec.ofChange fnExactPackCodesWrong)

/-- 'laws.FnExactUnpackCodes': WHATEVER THE INPUT: true; the input reads as it did. -/
def fnExactUnpackCodesSpec : ChangeSpec := { name := "fnExactUnpackCodes", fn := fun _ => fun
  | [d1, d2] => { results := [.lit (.bool true)], args := [d1, d2] }
  | _ => none }
def fnExactUnpackCodesRow : OpenClaim := { program := "ytmenpflcmpihpaa", sum := "dddec7063f455174cae49024d0f8b9f9e351dd11a9207a393ca6ebcacdca235e", func := "loop.example/soughtstreams/laws.FnExactUnpackCodes", spec := "fnExactUnpackCodes", recurses := true, apart := false }
def FnExactUnpackCodesSaid : Prop := fnExactUnpackCodesRow.holds Try.pinned (OpenSpec.ofChange fnExactUnpackCodesSpec)

/-- ITS FALSE NEIGHBOUR: 'it returns false'. Refute it at one input. -/
def fnExactUnpackCodesWrong : ChangeSpec := { name := "fnExactUnpackCodes", fn := fun _ => fun
  | [d1, d2] => { results := [.lit (.bool false)], args := [d1, d2] }
  | _ => none }
def FnExactUnpackCodesWrongFalsely : Prop := fnExactUnpackCodesRow.holds Try.pinned (OpenSpec.ofChange fnExactUnpackCodesWrong)

/-- 'laws.FnExactDecompress': WHATEVER THE INPUT: true; the input reads as it did. -/
def fnExactDecompressSpec : ChangeSpec := { name := "fnExactDecompress", fn := fun _ => fun
  | [d1, d2] => { results := [.lit (.bool true)], args := [d1, d2] }
  | _ => none }
def fnExactDecompressRow : OpenClaim := { program := "ytmenpflcmpihpaa", sum := "dddec7063f455174cae49024d0f8b9f9e351dd11a9207a393ca6ebcacdca235e", func := "loop.example/soughtstreams/laws.FnExactDecompress", spec := "fnExactDecompress", recurses := true, apart := false }
def FnExactDecompressSaid : Prop := fnExactDecompressRow.holds Try.pinned (OpenSpec.ofChange fnExactDecompressSpec)

/-- ITS FALSE NEIGHBOUR: 'it returns false'. Refute it at one input. -/
def fnExactDecompressWrong : ChangeSpec := { name := "fnExactDecompress", fn := fun _ => fun
  | [d1, d2] => { results := [.lit (.bool false)], args := [d1, d2] }
  | _ => none }
def FnExactDecompressWrongFalsely : Prop := fnExactDecompressRow.holds Try.pinned (OpenSpec.ofChange fnExactDecompressWrong)

/-- 'laws.FnExactDecompressWith': WHATEVER THE INPUT: true; the input reads as it did. -/
def fnExactDecompressWithSpec : ChangeSpec := { name := "fnExactDecompressWith", fn := fun _ => fun
  | [d1, d2, d3] => { results := [.lit (.bool true)], args := [d1, d2, d3] }
  | _ => none }
def fnExactDecompressWithRow : OpenClaim := { program := "ytmenpflcmpihpaa", sum := "dddec7063f455174cae49024d0f8b9f9e351dd11a9207a393ca6ebcacdca235e", func := "loop.example/soughtstreams/laws.FnExactDecompressWith", spec := "fnExactDecompressWith", recurses := true, apart := false }
def FnExactDecompressWithSaid : Prop := fnExactDecompressWithRow.holds Try.pinned (OpenSpec.ofChange fnExactDecompressWithSpec)

/-- ITS FALSE NEIGHBOUR: 'it returns false'. Refute it at one input. -/
def fnExactDecompressWithWrong : ChangeSpec := { name := "fnExactDecompressWith", fn := fun _ => fun
  | [d1, d2, d3] => { results := [.lit (.bool false)], args := [d1, d2, d3] }
  | _ => none }
def FnExactDecompressWithWrongFalsely : Prop := fnExactDecompressWithRow.holds Try.pinned (OpenSpec.ofChange fnExactDecompressWithWrong)

/-- 'laws.FnExactRepackStream': WHATEVER THE INPUT: true; the input reads as it did. -/
def fnExactRepackStreamSpec : ChangeSpec := { name := "fnExactRepackStream", fn := fun _ => fun
  | [d1, d2] => { results := [.lit (.bool true)], args := [d1, d2] }
  | _ => none }
def fnExactRepackStreamRow : OpenClaim := { program := "ytmenpflcmpihpaa", sum := "dddec7063f455174cae49024d0f8b9f9e351dd11a9207a393ca6ebcacdca235e", func := "loop.example/soughtstreams/laws.FnExactRepackStream", spec := "fnExactRepackStream", recurses := true, apart := false }
def FnExactRepackStreamSaid : Prop := fnExactRepackStreamRow.holds Try.pinned (OpenSpec.ofChange fnExactRepackStreamSpec)

/-- ITS FALSE NEIGHBOUR: 'it returns false'. Refute it at one input. -/
def fnExactRepackStreamWrong : ChangeSpec := { name := "fnExactRepackStream", fn := fun _ => fun
  | [d1, d2] => { results := [.lit (.bool false)], args := [d1, d2] }
  | _ => none }
def FnExactRepackStreamWrongFalsely : Prop := fnExactRepackStreamRow.holds Try.pinned (OpenSpec.ofChange fnExactRepackStreamWrong)

/-- 'laws.FnExactCompress': WHATEVER THE INPUT: true; the input reads as it did. -/
def fnExactCompressSpec : ChangeSpec := { name := "fnExactCompress", fn := fun _ => fun
  | [d1, d2] => { results := [.lit (.bool true)], args := [d1, d2] }
  | _ => none }
def fnExactCompressRow : OpenClaim := { program := "ytmenpflcmpihpaa", sum := "dddec7063f455174cae49024d0f8b9f9e351dd11a9207a393ca6ebcacdca235e", func := "loop.example/soughtstreams/laws.FnExactCompress", spec := "fnExactCompress", recurses := true, apart := false }
def FnExactCompressSaid : Prop := fnExactCompressRow.holds Try.pinned (OpenSpec.ofChange fnExactCompressSpec)

/-- ITS FALSE NEIGHBOUR: 'it returns false'. Refute it at one input. -/
def fnExactCompressWrong : ChangeSpec := { name := "fnExactCompress", fn := fun _ => fun
  | [d1, d2] => { results := [.lit (.bool false)], args := [d1, d2] }
  | _ => none }
def FnExactCompressWrongFalsely : Prop := fnExactCompressRow.holds Try.pinned (OpenSpec.ofChange fnExactCompressWrong)

/-- 'laws.FnExactCompressWith': WHATEVER THE INPUT: true; the input reads as it did. -/
def fnExactCompressWithSpec : ChangeSpec := { name := "fnExactCompressWith", fn := fun _ => fun
  | [d1, d2, d3] => { results := [.lit (.bool true)], args := [d1, d2, d3] }
  | _ => none }
def fnExactCompressWithRow : OpenClaim := { program := "ytmenpflcmpihpaa", sum := "dddec7063f455174cae49024d0f8b9f9e351dd11a9207a393ca6ebcacdca235e", func := "loop.example/soughtstreams/laws.FnExactCompressWith", spec := "fnExactCompressWith", recurses := true, apart := false }
def FnExactCompressWithSaid : Prop := fnExactCompressWithRow.holds Try.pinned (OpenSpec.ofChange fnExactCompressWithSpec)

/-- ITS FALSE NEIGHBOUR: 'it returns false'. Refute it at one input. -/
def fnExactCompressWithWrong : ChangeSpec := { name := "fnExactCompressWith", fn := fun _ => fun
  | [d1, d2, d3] => { results := [.lit (.bool false)], args := [d1, d2, d3] }
  | _ => none }
def FnExactCompressWithWrongFalsely : Prop := fnExactCompressWithRow.holds Try.pinned (OpenSpec.ofChange fnExactCompressWithWrong)

/-- 'laws.FnExactDictGain': WHATEVER THE INPUT: true; the input reads as it did. -/
def fnExactDictGainSpec : ChangeSpec := { name := "fnExactDictGain", fn := fun _ => fun
  | [d1, d2, d3] => { results := [.lit (.bool true)], args := [d1, d2, d3] }
  | _ => none }
def fnExactDictGainRow : OpenClaim := { program := "ytmenpflcmpihpaa", sum := "dddec7063f455174cae49024d0f8b9f9e351dd11a9207a393ca6ebcacdca235e", func := "loop.example/soughtstreams/laws.FnExactDictGain", spec := "fnExactDictGain", recurses := true, apart := false }
def FnExactDictGainSaid : Prop := fnExactDictGainRow.holds Try.pinned (OpenSpec.ofChange fnExactDictGainSpec)

/-- ITS FALSE NEIGHBOUR: 'it returns false'. Refute it at one input. -/
def fnExactDictGainWrong : ChangeSpec := { name := "fnExactDictGain", fn := fun _ => fun
  | [d1, d2, d3] => { results := [.lit (.bool false)], args := [d1, d2, d3] }
  | _ => none }
def FnExactDictGainWrongFalsely : Prop := fnExactDictGainRow.holds Try.pinned (OpenSpec.ofChange fnExactDictGainWrong)

/-- 'laws.FnExactCloseWriter': WHATEVER THE INPUT: true; the input reads as it did. -/
def fnExactCloseWriterSpec : ChangeSpec := { name := "fnExactCloseWriter", fn := fun _ => fun
  | [d] => { results := [.lit (.bool true)], args := [d] }
  | _ => none }
def fnExactCloseWriterRow : OpenClaim := { program := "ytmenpflcmpihpaa", sum := "dddec7063f455174cae49024d0f8b9f9e351dd11a9207a393ca6ebcacdca235e", func := "loop.example/soughtstreams/laws.FnExactCloseWriter", spec := "fnExactCloseWriter", apart := false }
def FnExactCloseWriterSaid : Prop := fnExactCloseWriterRow.holds Try.pinned (OpenSpec.ofChange fnExactCloseWriterSpec)

/-- ITS FALSE NEIGHBOUR: 'it returns false'. Refute it at one input. -/
def fnExactCloseWriterWrong : ChangeSpec := { name := "fnExactCloseWriter", fn := fun _ => fun
  | [d] => { results := [.lit (.bool false)], args := [d] }
  | _ => none }
def FnExactCloseWriterWrongFalsely : Prop := fnExactCloseWriterRow.holds Try.pinned (OpenSpec.ofChange fnExactCloseWriterWrong)

/-- 'laws.FnExactReadStream': WHATEVER THE INPUT: true; the input reads as it did. -/
def fnExactReadStreamSpec : ChangeSpec := { name := "fnExactReadStream", fn := fun _ => fun
  | [d1, d2] => { results := [.lit (.bool true)], args := [d1, d2] }
  | _ => none }
def fnExactReadStreamRow : OpenClaim := { program := "ytmenpflcmpihpaa", sum := "dddec7063f455174cae49024d0f8b9f9e351dd11a9207a393ca6ebcacdca235e", func := "loop.example/soughtstreams/laws.FnExactReadStream", spec := "fnExactReadStream", recurses := true, apart := false }
def FnExactReadStreamSaid : Prop := fnExactReadStreamRow.holds Try.pinned (OpenSpec.ofChange fnExactReadStreamSpec)

/-- ITS FALSE NEIGHBOUR: 'it returns false'. Refute it at one input. -/
def fnExactReadStreamWrong : ChangeSpec := { name := "fnExactReadStream", fn := fun _ => fun
  | [d1, d2] => { results := [.lit (.bool false)], args := [d1, d2] }
  | _ => none }
def FnExactReadStreamWrongFalsely : Prop := fnExactReadStreamRow.holds Try.pinned (OpenSpec.ofChange fnExactReadStreamWrong)

/- THE SECOND FORM. 'bulk': how many values and letters a reading holds, each counted each time it is reached (what is shared counts as often as it is met; a slice's spare places count too). A statement '..UptoSaid' is the law's where the arguments, and the package variables that the reading takes, are together of bulk at most 1048576: NARROWER than '..Said'. Prove '..Said' where nothing that the law and all that it calls make is longer than what came in: it says more and counts as full. Else prove '..UptoSaid'. A law counts once. -/
mutual
def uptoBulk {H : Type} : DataW H → Nat
  | .lit (.string bytes) => bytes.length + 1
  | .lit _ => 1
  | .nil => 1
  | .ptr d => uptoBulk d + 1
  | .slice elems spare => uptoBulkAll elems + uptoBulkAll spare + 1
  | .agg parts => uptoBulkAll parts + 1
  | .iface _ d => uptoBulk d + 1
  | .map entries => uptoBulkEntries entries + 1
  | .held _ => 1
def uptoBulkAll {H : Type} : List (DataW H) → Nat
  | [] => 0
  | d :: r => uptoBulk d + uptoBulkAll r
def uptoBulkEntries {H : Type} : List (Lit × DataW H) → Nat
  | [] => 0
  | x :: r => uptoBulkEntry x + uptoBulkEntries r
def uptoBulkEntry {H : Type} : Lit × DataW H → Nat
  | (.string bytes, d) => bytes.length + uptoBulk d + 1
  | (_, d) => uptoBulk d + 1
 end
def uptoSmall : (H : Type) → List (DataW H) → Bool := fun _ ds => decide (uptoBulkAll ds ≤ 1048576)
def OpenSpec.upto (s : _root_.Go.ChangeSpec) : _root_.Go.OpenSpec := { _root_.Go.OpenSpec.ofChange s with cond := some uptoSmall }

/-- 'laws.FnExactGreedyCodes', WHERE WHAT IT READS IS OF BULK AT MOST 1048576: true; the input reads as it did. -/
def fnExactGreedyCodesUptoRow : OpenClaim := { program := "ytmenpflcmpihpaa", sum := "dddec7063f455174cae49024d0f8b9f9e351dd11a9207a393ca6ebcacdca235e", func := "loop.example/soughtstreams/laws.FnExactGreedyCodes", spec := "fnExactGreedyCodes", apart := false, narrowed := true }
def FnExactGreedyCodesUptoSaid : Prop := fnExactGreedyCodesUptoRow.holds Try.pinned (OpenSpec.upto fnExactGreedyCodesSpec)

/-- 'laws.FnExactWordUses', WHERE WHAT IT READS IS OF BULK AT MOST 1048576: true; the input reads as it did. -/
def fnExactWordUsesUptoRow : OpenClaim := { program := "ytmenpflcmpihpaa", sum := "dddec7063f455174cae49024d0f8b9f9e351dd11a9207a393ca6ebcacdca235e", func := "loop.example/soughtstreams/laws.FnExactWordUses", spec := "fnExactWordUses", apart := false, narrowed := true }
def FnExactWordUsesUptoSaid : Prop := fnExactWordUsesUptoRow.holds Try.pinned (OpenSpec.upto fnExactWordUsesSpec)

/-- 'laws.FnExactPackCodes', WHERE WHAT IT READS IS OF BULK AT MOST 1048576: true; the input reads as it did. -/
def fnExactPackCodesUptoRow : OpenClaim := { program := "ytmenpflcmpihpaa", sum := "dddec7063f455174cae49024d0f8b9f9e351dd11a9207a393ca6ebcacdca235e", func := "loop.example/soughtstreams/laws.FnExactPackCodes", spec := "fnExactPackCodes", recurses := true, apart := false, narrowed := true }
def FnExactPackCodesUptoSaid : Prop := fnExactPackCodesUptoRow.holds Try.pinned (OpenSpec.upto fnExactPackCodesSpec)

/-- 'laws.FnExactUnpackCodes', WHERE WHAT IT READS IS OF BULK AT MOST 1048576: true; the input reads as it did. -/
def fnExactUnpackCodesUptoRow : OpenClaim := { program := "ytmenpflcmpihpaa", sum := "dddec7063f455174cae49024d0f8b9f9e351dd11a9207a393ca6ebcacdca235e", func := "loop.example/soughtstreams/laws.FnExactUnpackCodes", spec := "fnExactUnpackCodes", recurses := true, apart := false, narrowed := true }
def FnExactUnpackCodesUptoSaid : Prop := fnExactUnpackCodesUptoRow.holds Try.pinned (OpenSpec.upto fnExactUnpackCodesSpec)

/-- 'laws.FnExactDecompress', WHERE WHAT IT READS IS OF BULK AT MOST 1048576: true; the input reads as it did. -/
def fnExactDecompressUptoRow : OpenClaim := { program := "ytmenpflcmpihpaa", sum := "dddec7063f455174cae49024d0f8b9f9e351dd11a9207a393ca6ebcacdca235e", func := "loop.example/soughtstreams/laws.FnExactDecompress", spec := "fnExactDecompress", recurses := true, apart := false, narrowed := true }
def FnExactDecompressUptoSaid : Prop := fnExactDecompressUptoRow.holds Try.pinned (OpenSpec.upto fnExactDecompressSpec)

/-- 'laws.FnExactDecompressWith', WHERE WHAT IT READS IS OF BULK AT MOST 1048576: true; the input reads as it did. -/
def fnExactDecompressWithUptoRow : OpenClaim := { program := "ytmenpflcmpihpaa", sum := "dddec7063f455174cae49024d0f8b9f9e351dd11a9207a393ca6ebcacdca235e", func := "loop.example/soughtstreams/laws.FnExactDecompressWith", spec := "fnExactDecompressWith", recurses := true, apart := false, narrowed := true }
def FnExactDecompressWithUptoSaid : Prop := fnExactDecompressWithUptoRow.holds Try.pinned (OpenSpec.upto fnExactDecompressWithSpec)

/-- 'laws.FnExactRepackStream', WHERE WHAT IT READS IS OF BULK AT MOST 1048576: true; the input reads as it did. -/
def fnExactRepackStreamUptoRow : OpenClaim := { program := "ytmenpflcmpihpaa", sum := "dddec7063f455174cae49024d0f8b9f9e351dd11a9207a393ca6ebcacdca235e", func := "loop.example/soughtstreams/laws.FnExactRepackStream", spec := "fnExactRepackStream", recurses := true, apart := false, narrowed := true }
def FnExactRepackStreamUptoSaid : Prop := fnExactRepackStreamUptoRow.holds Try.pinned (OpenSpec.upto fnExactRepackStreamSpec)

/-- 'laws.FnExactCompress', WHERE WHAT IT READS IS OF BULK AT MOST 1048576: true; the input reads as it did. -/
def fnExactCompressUptoRow : OpenClaim := { program := "ytmenpflcmpihpaa", sum := "dddec7063f455174cae49024d0f8b9f9e351dd11a9207a393ca6ebcacdca235e", func := "loop.example/soughtstreams/laws.FnExactCompress", spec := "fnExactCompress", recurses := true, apart := false, narrowed := true }
def FnExactCompressUptoSaid : Prop := fnExactCompressUptoRow.holds Try.pinned (OpenSpec.upto fnExactCompressSpec)

/-- 'laws.FnExactCompressWith', WHERE WHAT IT READS IS OF BULK AT MOST 1048576: true; the input reads as it did. -/
def fnExactCompressWithUptoRow : OpenClaim := { program := "ytmenpflcmpihpaa", sum := "dddec7063f455174cae49024d0f8b9f9e351dd11a9207a393ca6ebcacdca235e", func := "loop.example/soughtstreams/laws.FnExactCompressWith", spec := "fnExactCompressWith", recurses := true, apart := false, narrowed := true }
def FnExactCompressWithUptoSaid : Prop := fnExactCompressWithUptoRow.holds Try.pinned (OpenSpec.upto fnExactCompressWithSpec)

/-- 'laws.FnExactDictGain', WHERE WHAT IT READS IS OF BULK AT MOST 1048576: true; the input reads as it did. -/
def fnExactDictGainUptoRow : OpenClaim := { program := "ytmenpflcmpihpaa", sum := "dddec7063f455174cae49024d0f8b9f9e351dd11a9207a393ca6ebcacdca235e", func := "loop.example/soughtstreams/laws.FnExactDictGain", spec := "fnExactDictGain", recurses := true, apart := false, narrowed := true }
def FnExactDictGainUptoSaid : Prop := fnExactDictGainUptoRow.holds Try.pinned (OpenSpec.upto fnExactDictGainSpec)

/-- 'laws.FnExactCloseWriter', WHERE WHAT IT READS IS OF BULK AT MOST 1048576: true; the input reads as it did. -/
def fnExactCloseWriterUptoRow : OpenClaim := { program := "ytmenpflcmpihpaa", sum := "dddec7063f455174cae49024d0f8b9f9e351dd11a9207a393ca6ebcacdca235e", func := "loop.example/soughtstreams/laws.FnExactCloseWriter", spec := "fnExactCloseWriter", apart := false, narrowed := true }
def FnExactCloseWriterUptoSaid : Prop := fnExactCloseWriterUptoRow.holds Try.pinned (OpenSpec.upto fnExactCloseWriterSpec)

/-- 'laws.FnExactReadStream', WHERE WHAT IT READS IS OF BULK AT MOST 1048576: true; the input reads as it did. -/
def fnExactReadStreamUptoRow : OpenClaim := { program := "ytmenpflcmpihpaa", sum := "dddec7063f455174cae49024d0f8b9f9e351dd11a9207a393ca6ebcacdca235e", func := "loop.example/soughtstreams/laws.FnExactReadStream", spec := "fnExactReadStream", recurses := true, apart := false, narrowed := true }
def FnExactReadStreamUptoSaid : Prop := fnExactReadStreamUptoRow.holds Try.pinned (OpenSpec.upto fnExactReadStreamSpec)

end Rows
end Go.Proofs.Ytmenpflcmpihpaa
