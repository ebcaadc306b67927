/-
  No cell of these rows narrows 'for every input' (looked for: loops, veiled, ifaces, maps, wideKeys, modest, calm, conditions, laid).
  DERIVED. THE GIVEN ROWS OF THIS SEAT. 12 by the template 'for every input the law returns true; each argument reads behind the call as it read before'; 0 by the template 'total and deterministic' (their statements: YtbedikodiboofaaTotals.lean).
  GIVEN WITH THE SEED: the statements are not yours to turn. If you find one false, say at which input.
  Laid BY PROGRAM, IN A SANDBOX (cutbox-rows.mjs): the forced cells as the released guide's own fill.sh prints them over the translation 4d961d5996c20597… (all of the seat's roots in one cut). By AI agents, Wed Nov 11 2026. No macro, syntax, notation, axiom, sorry.
-/
import Derived.Test.YtbedikodiboofaaChecked
import GoSem.Claim
import GoSem.ClaimJoined
import GoSem.ClaimMapViews
import Derived.JoinedTies
import Derived.KernelRfl
namespace Go.Proofs.Ytbedikodiboofaa
/- THE CELL 'sum', in the pinned program and in every row, IS THE sha256 OF THE DUMP (.gsa) THAT YtbedikodiboofaaProg.lean LOADS. Nothing in Lean hashes anything: it is a label: what it is worth is what the hold of that sum in a sandbox is worth. -/
noncomputable def Try.pinned : Pinned := { name := "ytbedikodiboofaa", sum := "4d961d5996c205976992511bc4305f7af67a2f41550f817c5bf06267fe7df252", checked := Try.checked }
namespace Rows
def none {H : Type} : Left H := { results := [], args := [] }

/-- 'laws.FnExactNewWriter': WHATEVER THE INPUT: true; the input reads as it did. -/
def fnExactNewWriterSpec : ChangeSpec := { name := "fnExactNewWriter", fn := fun _ => fun
  | [d] => { results := [.lit (.bool true)], args := [d] }
  | _ => none }
def fnExactNewWriterRow : OpenClaim := { program := "ytbedikodiboofaa", sum := "4d961d5996c205976992511bc4305f7af67a2f41550f817c5bf06267fe7df252", func := "loop.example/soughtstreams/laws.FnExactNewWriter", spec := "fnExactNewWriter", apart := false }
def FnExactNewWriterSaid : Prop := fnExactNewWriterRow.holds Try.pinned (OpenSpec.ofChange fnExactNewWriterSpec)

/-- ITS FALSE NEIGHBOUR: 'it returns false'. Refute it at one input. -/
def fnExactNewWriterWrong : ChangeSpec := { name := "fnExactNewWriter", fn := fun _ => fun
  | [d] => { results := [.lit (.bool false)], args := [d] }
  | _ => none }
def FnExactNewWriterWrongFalsely : Prop := fnExactNewWriterRow.holds Try.pinned (OpenSpec.ofChange fnExactNewWriterWrong)

/-- 'laws.FnExactNewReader': WHATEVER THE INPUT: true; the input reads as it did. -/
def fnExactNewReaderSpec : ChangeSpec := { name := "fnExactNewReader", fn := fun _ => fun
  | [d] => { results := [.lit (.bool true)], args := [d] }
  | _ => none }
def fnExactNewReaderRow : OpenClaim := { program := "ytbedikodiboofaa", sum := "4d961d5996c205976992511bc4305f7af67a2f41550f817c5bf06267fe7df252", func := "loop.example/soughtstreams/laws.FnExactNewReader", spec := "fnExactNewReader", apart := false }
def FnExactNewReaderSaid : Prop := fnExactNewReaderRow.holds Try.pinned (OpenSpec.ofChange fnExactNewReaderSpec)

/-- ITS FALSE NEIGHBOUR: 'it returns false'. Refute it at one input. -/
def fnExactNewReaderWrong : ChangeSpec := { name := "fnExactNewReader", fn := fun _ => fun
  | [d] => { results := [.lit (.bool false)], args := [d] }
  | _ => none }
def FnExactNewReaderWrongFalsely : Prop := fnExactNewReaderRow.holds Try.pinned (OpenSpec.ofChange fnExactNewReaderWrong)

/-- 'laws.FnExactKnownWords': WHATEVER THE INPUT: true; the input reads as it did. -/
def fnExactKnownWordsSpec : ChangeSpec := { name := "fnExactKnownWords", fn := fun _ => fun
  | [d] => { results := [.lit (.bool true)], args := [d] }
  | _ => none }
def fnExactKnownWordsRow : OpenClaim := { program := "ytbedikodiboofaa", sum := "4d961d5996c205976992511bc4305f7af67a2f41550f817c5bf06267fe7df252", func := "loop.example/soughtstreams/laws.FnExactKnownWords", spec := "fnExactKnownWords", apart := false }
def FnExactKnownWordsSaid : Prop := fnExactKnownWordsRow.holds Try.pinned (OpenSpec.ofChange fnExactKnownWordsSpec)

/-- ITS FALSE NEIGHBOUR: 'it returns false'. Refute it at one input. -/
def fnExactKnownWordsWrong : ChangeSpec := { name := "fnExactKnownWords", fn := fun _ => fun
  | [d] => { results := [.lit (.bool false)], args := [d] }
  | _ => none }
def FnExactKnownWordsWrongFalsely : Prop := fnExactKnownWordsRow.holds Try.pinned (OpenSpec.ofChange fnExactKnownWordsWrong)

/-- 'laws.FnExactCodeOfWord': WHATEVER THE INPUT: true; the input reads as it did. -/
def fnExactCodeOfWordSpec : ChangeSpec := { name := "fnExactCodeOfWord", fn := fun _ => fun
  | [d1, d2] => { results := [.lit (.bool true)], args := [d1, d2] }
  | _ => none }
def fnExactCodeOfWordRow : OpenClaim := { program := "ytbedikodiboofaa", sum := "4d961d5996c205976992511bc4305f7af67a2f41550f817c5bf06267fe7df252", func := "loop.example/soughtstreams/laws.FnExactCodeOfWord", spec := "fnExactCodeOfWord", apart := false }
def FnExactCodeOfWordSaid : Prop := fnExactCodeOfWordRow.holds Try.pinned (OpenSpec.ofChange fnExactCodeOfWordSpec)

/-- ITS FALSE NEIGHBOUR: 'it returns false'. Refute it at one input. -/
def fnExactCodeOfWordWrong : ChangeSpec := { name := "fnExactCodeOfWord", fn := fun _ => fun
  | [d1, d2] => { results := [.lit (.bool false)], args := [d1, d2] }
  | _ => none }
def FnExactCodeOfWordWrongFalsely : Prop := fnExactCodeOfWordRow.holds Try.pinned (OpenSpec.ofChange fnExactCodeOfWordWrong)

/-- 'laws.FnExactSharedWords': WHATEVER THE INPUT: true; the input reads as it did. -/
def fnExactSharedWordsSpec : ChangeSpec := { name := "fnExactSharedWords", fn := fun _ => fun
  | [d1, d2] => { results := [.lit (.bool true)], args := [d1, d2] }
  | _ => none }
def fnExactSharedWordsRow : OpenClaim := { program := "ytbedikodiboofaa", sum := "4d961d5996c205976992511bc4305f7af67a2f41550f817c5bf06267fe7df252", func := "loop.example/soughtstreams/laws.FnExactSharedWords", spec := "fnExactSharedWords", apart := false }
def FnExactSharedWordsSaid : Prop := fnExactSharedWordsRow.holds Try.pinned (OpenSpec.ofChange fnExactSharedWordsSpec)

/-- ITS FALSE NEIGHBOUR: 'it returns false'. Refute it at one input. -/
def fnExactSharedWordsWrong : ChangeSpec := { name := "fnExactSharedWords", fn := fun _ => fun
  | [d1, d2] => { results := [.lit (.bool false)], args := [d1, d2] }
  | _ => none }
def FnExactSharedWordsWrongFalsely : Prop := fnExactSharedWordsRow.holds Try.pinned (OpenSpec.ofChange fnExactSharedWordsWrong)

/-- 'laws.FnExactLongestWord': WHATEVER THE INPUT: true; the input reads as it did. -/
def fnExactLongestWordSpec : ChangeSpec := { name := "fnExactLongestWord", fn := fun _ => fun
  | [d1, d2] => { results := [.lit (.bool true)], args := [d1, d2] }
  | _ => none }
def fnExactLongestWordRow : OpenClaim := { program := "ytbedikodiboofaa", sum := "4d961d5996c205976992511bc4305f7af67a2f41550f817c5bf06267fe7df252", func := "loop.example/soughtstreams/laws.FnExactLongestWord", spec := "fnExactLongestWord", apart := false }
def FnExactLongestWordSaid : Prop := fnExactLongestWordRow.holds Try.pinned (OpenSpec.ofChange fnExactLongestWordSpec)

/-- ITS FALSE NEIGHBOUR: 'it returns false'. Refute it at one input. -/
def fnExactLongestWordWrong : ChangeSpec := { name := "fnExactLongestWord", fn := fun _ => fun
  | [d1, d2] => { results := [.lit (.bool false)], args := [d1, d2] }
  | _ => none }
def FnExactLongestWordWrongFalsely : Prop := fnExactLongestWordRow.holds Try.pinned (OpenSpec.ofChange fnExactLongestWordWrong)

/-- 'laws.FnExactTrimDict': WHATEVER THE INPUT: true; the input reads as it did. -/
def fnExactTrimDictSpec : ChangeSpec := { name := "fnExactTrimDict", fn := fun _ => fun
  | [d1, d2] => { results := [.lit (.bool true)], args := [d1, d2] }
  | _ => none }
def fnExactTrimDictRow : OpenClaim := { program := "ytbedikodiboofaa", sum := "4d961d5996c205976992511bc4305f7af67a2f41550f817c5bf06267fe7df252", func := "loop.example/soughtstreams/laws.FnExactTrimDict", spec := "fnExactTrimDict", apart := false }
def FnExactTrimDictSaid : Prop := fnExactTrimDictRow.holds Try.pinned (OpenSpec.ofChange fnExactTrimDictSpec)

/-- ITS FALSE NEIGHBOUR: 'it returns false'. Refute it at one input. -/
def fnExactTrimDictWrong : ChangeSpec := { name := "fnExactTrimDict", fn := fun _ => fun
  | [d1, d2] => { results := [.lit (.bool false)], args := [d1, d2] }
  | _ => none }
def FnExactTrimDictWrongFalsely : Prop := fnExactTrimDictRow.holds Try.pinned (OpenSpec.ofChange fnExactTrimDictWrong)

/-- 'laws.FnExactReaderValid': WHATEVER THE INPUT: true; the input reads as it did. -/
def fnExactReaderValidSpec : ChangeSpec := { name := "fnExactReaderValid", fn := fun _ => fun
  | [d] => { results := [.lit (.bool true)], args := [d] }
  | _ => none }
def fnExactReaderValidRow : OpenClaim := { program := "ytbedikodiboofaa", sum := "4d961d5996c205976992511bc4305f7af67a2f41550f817c5bf06267fe7df252", func := "loop.example/soughtstreams/laws.FnExactReaderValid", spec := "fnExactReaderValid", apart := false }
def FnExactReaderValidSaid : Prop := fnExactReaderValidRow.holds Try.pinned (OpenSpec.ofChange fnExactReaderValidSpec)

/-- ITS FALSE NEIGHBOUR: 'it returns false'. Refute it at one input. -/
def fnExactReaderValidWrong : ChangeSpec := { name := "fnExactReaderValid", fn := fun _ => fun
  | [d] => { results := [.lit (.bool false)], args := [d] }
  | _ => none }
def FnExactReaderValidWrongFalsely : Prop := fnExactReaderValidRow.holds Try.pinned (OpenSpec.ofChange fnExactReaderValidWrong)

/-- 'laws.FnExactReaderNeeds': WHATEVER THE INPUT: true; the input reads as it did. -/
def fnExactReaderNeedsSpec : ChangeSpec := { name := "fnExactReaderNeeds", fn := fun _ => fun
  | [d] => { results := [.lit (.bool true)], args := [d] }
  | _ => none }
def fnExactReaderNeedsRow : OpenClaim := { program := "ytbedikodiboofaa", sum := "4d961d5996c205976992511bc4305f7af67a2f41550f817c5bf06267fe7df252", func := "loop.example/soughtstreams/laws.FnExactReaderNeeds", spec := "fnExactReaderNeeds", apart := false }
def FnExactReaderNeedsSaid : Prop := fnExactReaderNeedsRow.holds Try.pinned (OpenSpec.ofChange fnExactReaderNeedsSpec)

/-- ITS FALSE NEIGHBOUR: 'it returns false'. Refute it at one input. -/
def fnExactReaderNeedsWrong : ChangeSpec := { name := "fnExactReaderNeeds", fn := fun _ => fun
  | [d] => { results := [.lit (.bool false)], args := [d] }
  | _ => none }
def FnExactReaderNeedsWrongFalsely : Prop := fnExactReaderNeedsRow.holds Try.pinned (OpenSpec.ofChange fnExactReaderNeedsWrong)

/-- 'laws.FnExactWriterValid': WHATEVER THE INPUT: true; the input reads as it did. -/
def fnExactWriterValidSpec : ChangeSpec := { name := "fnExactWriterValid", fn := fun _ => fun
  | [d] => { results := [.lit (.bool true)], args := [d] }
  | _ => none }
def fnExactWriterValidRow : OpenClaim := { program := "ytbedikodiboofaa", sum := "4d961d5996c205976992511bc4305f7af67a2f41550f817c5bf06267fe7df252", func := "loop.example/soughtstreams/laws.FnExactWriterValid", spec := "fnExactWriterValid", apart := false }
def FnExactWriterValidSaid : Prop := fnExactWriterValidRow.holds Try.pinned (OpenSpec.ofChange fnExactWriterValidSpec)

/-- ITS FALSE NEIGHBOUR: 'it returns false'. Refute it at one input. -/
def fnExactWriterValidWrong : ChangeSpec := { name := "fnExactWriterValid", fn := fun _ => fun
  | [d] => { results := [.lit (.bool false)], args := [d] }
  | _ => none }
def FnExactWriterValidWrongFalsely : Prop := fnExactWriterValidRow.holds Try.pinned (OpenSpec.ofChange fnExactWriterValidWrong)

/-- 'laws.FnExactStartWith': WHATEVER THE INPUT: true; the input reads as it did. -/
def fnExactStartWithSpec : ChangeSpec := { name := "fnExactStartWith", fn := fun _ => fun
  | [d1, d2] => { results := [.lit (.bool true)], args := [d1, d2] }
  | _ => none }
def fnExactStartWithRow : OpenClaim := { program := "ytbedikodiboofaa", sum := "4d961d5996c205976992511bc4305f7af67a2f41550f817c5bf06267fe7df252", func := "loop.example/soughtstreams/laws.FnExactStartWith", spec := "fnExactStartWith", apart := false }
def FnExactStartWithSaid : Prop := fnExactStartWithRow.holds Try.pinned (OpenSpec.ofChange fnExactStartWithSpec)

/-- ITS FALSE NEIGHBOUR: 'it returns false'. Refute it at one input. -/
def fnExactStartWithWrong : ChangeSpec := { name := "fnExactStartWith", fn := fun _ => fun
  | [d1, d2] => { results := [.lit (.bool false)], args := [d1, d2] }
  | _ => none }
def FnExactStartWithWrongFalsely : Prop := fnExactStartWithRow.holds Try.pinned (OpenSpec.ofChange fnExactStartWithWrong)

/-- 'laws.FnExactLearnKnown': WHATEVER THE INPUT: true; the input reads as it did. -/
def fnExactLearnKnownSpec : ChangeSpec := { name := "fnExactLearnKnown", fn := fun _ => fun
  | [d1, d2] => { results := [.lit (.bool true)], args := [d1, d2] }
  | _ => none }
def fnExactLearnKnownRow : OpenClaim := { program := "ytbedikodiboofaa", sum := "4d961d5996c205976992511bc4305f7af67a2f41550f817c5bf06267fe7df252", func := "loop.example/soughtstreams/laws.FnExactLearnKnown", spec := "fnExactLearnKnown", apart := false }
def FnExactLearnKnownSaid : Prop := fnExactLearnKnownRow.holds Try.pinned (OpenSpec.ofChange fnExactLearnKnownSpec)

/-- ITS FALSE NEIGHBOUR: 'it returns false'. Refute it at one input. -/
def fnExactLearnKnownWrong : ChangeSpec := { name := "fnExactLearnKnown", fn := fun _ => fun
  | [d1, d2] => { results := [.lit (.bool false)], args := [d1, d2] }
  | _ => none }
def FnExactLearnKnownWrongFalsely : Prop := fnExactLearnKnownRow.holds Try.pinned (OpenSpec.ofChange fnExactLearnKnownWrong)

/- THE SECOND FORM. 'bulk': how many values and letters a reading holds, each counted each time it is reached (what is shared counts as often as it is met; a slice's spare places count too). A statement '..UptoSaid' is the law's where the arguments, and the package variables that the reading takes, are together of bulk at most 1048576: NARROWER than '..Said'. Prove '..Said' where nothing that the law and all that it calls make is longer than what came in: it says more and counts as full. Else prove '..UptoSaid'. A law counts once. -/
mutual
def uptoBulk {H : Type} : DataW H → Nat
  | .lit (.string bytes) => bytes.length + 1
  | .lit _ => 1
  | .nil => 1
  | .ptr d => uptoBulk d + 1
  | .slice elems spare => uptoBulkAll elems + uptoBulkAll spare + 1
  | .agg parts => uptoBulkAll parts + 1
  | .iface _ d => uptoBulk d + 1
  | .map entries => uptoBulkEntries entries + 1
  | .held _ => 1
def uptoBulkAll {H : Type} : List (DataW H) → Nat
  | [] => 0
  | d :: r => uptoBulk d + uptoBulkAll r
def uptoBulkEntries {H : Type} : List (Lit × DataW H) → Nat
  | [] => 0
  | x :: r => uptoBulkEntry x + uptoBulkEntries r
def uptoBulkEntry {H : Type} : Lit × DataW H → Nat
  | (.string bytes, d) => bytes.length + uptoBulk d + 1
  | (_, d) => uptoBulk d + 1
 end
def uptoSmall : (H : Type) → List (DataW H) → Bool := fun _ ds => decide (uptoBulkAll ds ≤ 1048576)
def OpenSpec.upto (s : _root_.Go.ChangeSpec) : _root_.Go.OpenSpec := { _root_.Go.OpenSpec.ofChange s with cond := some uptoSmall }

/-- 'laws.FnExactNewWriter', WHERE WHAT IT READS IS OF BULK AT MOST 1048576: true; the input reads as it did. -/
def fnExactNewWriterUptoRow : OpenClaim := { program := "ytbedikodiboofaa", sum := "4d961d5996c205976992511bc4305f7af67a2f41550f817c5bf06267fe7df252", func := "loop.example/soughtstreams/laws.FnExactNewWriter", spec := "fnExactNewWriter", apart := false, narrowed := true }
def FnExactNewWriterUptoSaid : Prop := fnExactNewWriterUptoRow.holds Try.pinned (OpenSpec.upto fnExactNewWriterSpec)

/-- 'laws.FnExactNewReader', WHERE WHAT IT READS IS OF BULK AT MOST 1048576: true; the input reads as it did. -/
def fnExactNewReaderUptoRow : OpenClaim := { program := "ytbedikodiboofaa", sum := "4d961d5996c205976992511bc4305f7af67a2f41550f817c5bf06267fe7df252", func := "loop.example/soughtstreams/laws.FnExactNewReader", spec := "fnExactNewReader", apart := false, narrowed := true }
def FnExactNewReaderUptoSaid : Prop := fnExactNewReaderUptoRow.holds Try.pinned (OpenSpec.upto fnExactNewReaderSpec)

/-- 'laws.FnExactKnownWords', WHERE WHAT IT READS IS OF BULK AT MOST 1048576: true; the input reads as it did. -/
def fnExactKnownWordsUptoRow : OpenClaim := { program := "ytbedikodiboofaa", sum := "4d961d5996c205976992511bc4305f7af67a2f41550f817c5bf06267fe7df252", func := "loop.example/soughtstreams/laws.FnExactKnownWords", spec := "fnExactKnownWords", apart := false, narrowed := true }
def FnExactKnownWordsUptoSaid : Prop := fnExactKnownWordsUptoRow.holds Try.pinned (OpenSpec.upto fnExactKnownWordsSpec)

/-- 'laws.FnExactCodeOfWord', WHERE WHAT IT READS IS OF BULK AT MOST 1048576: true; the input reads as it did. -/
def fnExactCodeOfWordUptoRow : OpenClaim := { program := "ytbedikodiboofaa", sum := "4d961d5996c205976992511bc4305f7af67a2f41550f817c5bf06267fe7df252", func := "loop.example/soughtstreams/laws.FnExactCodeOfWord", spec := "fnExactCodeOfWord", apart := false, narrowed := true }
def FnExactCodeOfWordUptoSaid : Prop := fnExactCodeOfWordUptoRow.holds Try.pinned (OpenSpec.upto fnExactCodeOfWordSpec)

/-- 'laws.FnExactSharedWords', WHERE WHAT IT READS IS OF BULK AT MOST 1048576: true; the input reads as it did. -/
def fnExactSharedWordsUptoRow : OpenClaim := { program := "ytbedikodiboofaa", sum := "4d961d5996c205976992511bc4305f7af67a2f41550f817c5bf06267fe7df252", func := "loop.example/soughtstreams/laws.FnExactSharedWords", spec := "fnExactSharedWords", apart := false, narrowed := true }
def FnExactSharedWordsUptoSaid : Prop := fnExactSharedWordsUptoRow.holds Try.pinned (OpenSpec.upto fnExactSharedWordsSpec)

/-- 'laws.FnExactLongestWord', WHERE WHAT IT READS IS OF BULK AT MOST 1048576: true; the input reads as it did. -/
def fnExactLongestWordUptoRow : OpenClaim := { program := "ytbedikodiboofaa", sum := "4d961d5996c205976992511bc4305f7af67a2f41550f817c5bf06267fe7df252", func := "loop.example/soughtstreams/laws.FnExactLongestWord", spec := "fnExactLongestWord", apart := false, narrowed := true }
def FnExactLongestWordUptoSaid : Prop := fnExactLongestWordUptoRow.holds Try.pinned (OpenSpec.upto fnExactLongestWordSpec)

/-- 'laws.FnExactTrimDict', WHERE WHAT IT READS IS OF BULK AT MOST 1048576: true; the input reads as it did. -/
def fnExactTrimDictUptoRow : OpenClaim := { program := "ytbedikodiboofaa", sum := "4d961d5996c205976992511bc4305f7af67a2f41550f817c5bf06267fe7df252", func := "loop.example/soughtstreams/laws.FnExactTrimDict", spec := "fnExactTrimDict", apart := false, narrowed := true }
def FnExactTrimDictUptoSaid : Prop := fnExactTrimDictUptoRow.holds Try.pinned (OpenSpec.upto fnExactTrimDictSpec)

/-- 'laws.FnExactReaderValid', WHERE WHAT IT READS IS OF BULK AT MOST 1048576: true; the input reads as it did. -/
def fnExactReaderValidUptoRow : OpenClaim := { program := "ytbedikodiboofaa", sum := "4d961d5996c205976992511bc4305f7af67a2f41550f817c5bf06267fe7df252", func := "loop.example/soughtstreams/laws.FnExactReaderValid", spec := "fnExactReaderValid", apart := false, narrowed := true }
def FnExactReaderValidUptoSaid : Prop := fnExactReaderValidUptoRow.holds Try.pinned (OpenSpec.upto fnExactReaderValidSpec)

/-- 'laws.FnExactReaderNeeds', WHERE WHAT IT READS IS OF BULK AT MOST 1048576: true; the input reads as it did. -/
def fnExactReaderNeedsUptoRow : OpenClaim := { program := "ytbedikodiboofaa", sum := "4d961d5996c205976992511bc4305f7af67a2f41550f817c5bf06267fe7df252", func := "loop.example/soughtstreams/laws.FnExactReaderNeeds", spec := "fnExactReaderNeeds", apart := false, narrowed := true }
def FnExactReaderNeedsUptoSaid : Prop := fnExactReaderNeedsUptoRow.holds Try.pinned (OpenSpec.upto fnExactReaderNeedsSpec)

/-- 'laws.FnExactWriterValid', WHERE WHAT IT READS IS OF BULK AT MOST 1048576: true; the input reads as it did. -/
def fnExactWriterValidUptoRow : OpenClaim := { program := "ytbedikodiboofaa", sum := "4d961d5996c205976992511bc4305f7af67a2f41550f817c5bf06267fe7df252", func := "loop.example/soughtstreams/laws.FnExactWriterValid", spec := "fnExactWriterValid", apart := false, narrowed := true }
def FnExactWriterValidUptoSaid : Prop := fnExactWriterValidUptoRow.holds Try.pinned (OpenSpec.upto fnExactWriterValidSpec)

/-- 'laws.FnExactStartWith', WHERE WHAT IT READS IS OF BULK AT MOST 1048576: true; the input reads as it did. -/
def fnExactStartWithUptoRow : OpenClaim := { program := "ytbedikodiboofaa", sum := "4d961d5996c205976992511bc4305f7af67a2f41550f817c5bf06267fe7df252", func := "loop.example/soughtstreams/laws.FnExactStartWith", spec := "fnExactStartWith", apart := false, narrowed := true }
def FnExactStartWithUptoSaid : Prop := fnExactStartWithUptoRow.holds Try.pinned (OpenSpec.upto fnExactStartWithSpec)

/-- 'laws.FnExactLearnKnown', WHERE WHAT IT READS IS OF BULK AT MOST 1048576: true; the input reads as it did. -/
def fnExactLearnKnownUptoRow : OpenClaim := { program := "ytbedikodiboofaa", sum := "4d961d5996c205976992511bc4305f7af67a2f41550f817c5bf06267fe7df252", func := "loop.example/soughtstreams/laws.FnExactLearnKnown", spec := "fnExactLearnKnown", apart := false, narrowed := true }
def FnExactLearnKnownUptoSaid : Prop := fnExactLearnKnownUptoRow.holds Try.pinned (OpenSpec.upto fnExactLearnKnownSpec)

end Rows
end Go.Proofs.Ytbedikodiboofaa
