/-
  No cell of these rows narrows 'for every input' (looked for: loops, veiled, ifaces, maps, wideKeys, modest, calm, conditions, laid).
  DERIVED. THE GIVEN ROWS OF THIS SEAT. 11 by the template 'for every input the law returns true; each argument reads behind the call as it read before'; 0 by the template 'total and deterministic' (their statements: YtlihhlihcjncoaaTotals.lean).
  GIVEN WITH THE SEED: the statements are not yours to turn. If you find one false, say at which input.
  Laid BY PROGRAM, IN A SANDBOX (cutbox-rows.mjs): the forced cells as the released guide's own fill.sh prints them over the translation 29c7b0978d232e50… (all of the seat's roots in one cut). By AI agents, Wed Nov 11 2026. No macro, syntax, notation, axiom, sorry.
-/
import Derived.Test.YtlihhlihcjncoaaChecked
import GoSem.Claim
import GoSem.ClaimJoined
import GoSem.ClaimMapViews
import Derived.JoinedTies
import Derived.KernelRfl
namespace Go.Proofs.Ytlihhlihcjncoaa
/- THE CELL 'sum', in the pinned program and in every row, IS THE sha256 OF THE DUMP (.gsa) THAT YtlihhlihcjncoaaProg.lean LOADS. Nothing in Lean hashes anything: it is a label: what it is worth is what the hold of that sum in a sandbox is worth. -/
noncomputable def Try.pinned : Pinned := { name := "ytlihhlihcjncoaa", sum := "29c7b0978d232e50829796fb6070ceb26192b1d1fefa96502989ef6f1fdab572", checked := Try.checked }
namespace Rows
def none {H : Type} : Left H := { results := [], args := [] }

/-- 'laws.FnLongestWord': WHATEVER THE INPUT: true; the input reads as it did. -/
def fnLongestWordSpec : ChangeSpec := { name := "fnLongestWord", fn := fun _ => fun
  | [d] => { results := [.lit (.bool true)], args := [d] }
  | _ => none }
def fnLongestWordRow : OpenClaim := { program := "ytlihhlihcjncoaa", sum := "29c7b0978d232e50829796fb6070ceb26192b1d1fefa96502989ef6f1fdab572", func := "loop.example/soughtstreams/laws.FnLongestWord", spec := "fnLongestWord", apart := false }
def FnLongestWordSaid : Prop := fnLongestWordRow.holds Try.pinned (OpenSpec.ofChange fnLongestWordSpec)

/-- ITS FALSE NEIGHBOUR: 'it returns false'. Refute it at one input. -/
def fnLongestWordWrong : ChangeSpec := { name := "fnLongestWord", fn := fun _ => fun
  | [d] => { results := [.lit (.bool false)], args := [d] }
  | _ => none }
def FnLongestWordWrongFalsely : Prop := fnLongestWordRow.holds Try.pinned (OpenSpec.ofChange fnLongestWordWrong)

/-- 'laws.FnCodeOfWord': WHATEVER THE INPUT: true; the input reads as it did. -/
def fnCodeOfWordSpec : ChangeSpec := { name := "fnCodeOfWord", fn := fun _ => fun
  | [d] => { results := [.lit (.bool true)], args := [d] }
  | _ => none }
def fnCodeOfWordRow : OpenClaim := { program := "ytlihhlihcjncoaa", sum := "29c7b0978d232e50829796fb6070ceb26192b1d1fefa96502989ef6f1fdab572", func := "loop.example/soughtstreams/laws.FnCodeOfWord", spec := "fnCodeOfWord", recurses := true, apart := false }
def FnCodeOfWordSaid : Prop := fnCodeOfWordRow.holds Try.pinned (OpenSpec.ofChange fnCodeOfWordSpec)

/-- ITS FALSE NEIGHBOUR: 'it returns false'. Refute it at one input. -/
def fnCodeOfWordWrong : ChangeSpec := { name := "fnCodeOfWord", fn := fun _ => fun
  | [d] => { results := [.lit (.bool false)], args := [d] }
  | _ => none }
def FnCodeOfWordWrongFalsely : Prop := fnCodeOfWordRow.holds Try.pinned (OpenSpec.ofChange fnCodeOfWordWrong)

/-- 'laws.FnLearnBegin': WHATEVER THE INPUT: true; the input reads as it did. -/
def fnLearnBeginSpec : ChangeSpec := { name := "fnLearnBegin", fn := fun _ => fun
  | [d1, d2] => { results := [.lit (.bool true)], args := [d1, d2] }
  | _ => none }
def fnLearnBeginRow : OpenClaim := { program := "ytlihhlihcjncoaa", sum := "29c7b0978d232e50829796fb6070ceb26192b1d1fefa96502989ef6f1fdab572", func := "loop.example/soughtstreams/laws.FnLearnBegin", spec := "fnLearnBegin", apart := false }
def FnLearnBeginSaid : Prop := fnLearnBeginRow.holds Try.pinned (OpenSpec.ofChange fnLearnBeginSpec)

/-- ITS FALSE NEIGHBOUR: 'it returns false'. Refute it at one input. -/
def fnLearnBeginWrong : ChangeSpec := { name := "fnLearnBegin", fn := fun _ => fun
  | [d1, d2] => { results := [.lit (.bool false)], args := [d1, d2] }
  | _ => none }
def FnLearnBeginWrongFalsely : Prop := fnLearnBeginRow.holds Try.pinned (OpenSpec.ofChange fnLearnBeginWrong)

/-- 'laws.FnTrim': WHATEVER THE INPUT: true; the input reads as it did. -/
def fnTrimSpec : ChangeSpec := { name := "fnTrim", fn := fun _ => fun
  | [d] => { results := [.lit (.bool true)], args := [d] }
  | _ => none }
def fnTrimRow : OpenClaim := { program := "ytlihhlihcjncoaa", sum := "29c7b0978d232e50829796fb6070ceb26192b1d1fefa96502989ef6f1fdab572", func := "loop.example/soughtstreams/laws.FnTrim", spec := "fnTrim", apart := false }
def FnTrimSaid : Prop := fnTrimRow.holds Try.pinned (OpenSpec.ofChange fnTrimSpec)

/-- ITS FALSE NEIGHBOUR: 'it returns false'. Refute it at one input. -/
def fnTrimWrong : ChangeSpec := { name := "fnTrim", fn := fun _ => fun
  | [d] => { results := [.lit (.bool false)], args := [d] }
  | _ => none }
def FnTrimWrongFalsely : Prop := fnTrimRow.holds Try.pinned (OpenSpec.ofChange fnTrimWrong)

/-- 'laws.FnLearn': WHATEVER THE INPUT: true; the input reads as it did. -/
def fnLearnSpec : ChangeSpec := { name := "fnLearn", fn := fun _ => fun
  | [d] => { results := [.lit (.bool true)], args := [d] }
  | _ => none }
def fnLearnRow : OpenClaim := { program := "ytlihhlihcjncoaa", sum := "29c7b0978d232e50829796fb6070ceb26192b1d1fefa96502989ef6f1fdab572", func := "loop.example/soughtstreams/laws.FnLearn", spec := "fnLearn", apart := false }
def FnLearnSaid : Prop := fnLearnRow.holds Try.pinned (OpenSpec.ofChange fnLearnSpec)

/-- ITS FALSE NEIGHBOUR: 'it returns false'. Refute it at one input. -/
def fnLearnWrong : ChangeSpec := { name := "fnLearn", fn := fun _ => fun
  | [d] => { results := [.lit (.bool false)], args := [d] }
  | _ => none }
def FnLearnWrongFalsely : Prop := fnLearnRow.holds Try.pinned (OpenSpec.ofChange fnLearnWrong)

/-- 'laws.FnStartWith': WHATEVER THE INPUT: true; the input reads as it did. -/
def fnStartWithSpec : ChangeSpec := { name := "fnStartWith", fn := fun _ => fun
  | [d] => { results := [.lit (.bool true)], args := [d] }
  | _ => none }
def fnStartWithRow : OpenClaim := { program := "ytlihhlihcjncoaa", sum := "29c7b0978d232e50829796fb6070ceb26192b1d1fefa96502989ef6f1fdab572", func := "loop.example/soughtstreams/laws.FnStartWith", spec := "fnStartWith", recurses := true, apart := false }
def FnStartWithSaid : Prop := fnStartWithRow.holds Try.pinned (OpenSpec.ofChange fnStartWithSpec)

/-- ITS FALSE NEIGHBOUR: 'it returns false'. Refute it at one input. -/
def fnStartWithWrong : ChangeSpec := { name := "fnStartWith", fn := fun _ => fun
  | [d] => { results := [.lit (.bool false)], args := [d] }
  | _ => none }
def FnStartWithWrongFalsely : Prop := fnStartWithRow.holds Try.pinned (OpenSpec.ofChange fnStartWithWrong)

/-- 'laws.FnUses': WHATEVER THE INPUT: true; the input reads as it did. -/
def fnUsesSpec : ChangeSpec := { name := "fnUses", fn := fun _ => fun
  | [d] => { results := [.lit (.bool true)], args := [d] }
  | _ => none }
def fnUsesRow : OpenClaim := { program := "ytlihhlihcjncoaa", sum := "29c7b0978d232e50829796fb6070ceb26192b1d1fefa96502989ef6f1fdab572", func := "loop.example/soughtstreams/laws.FnUses", spec := "fnUses", apart := false }
def FnUsesSaid : Prop := fnUsesRow.holds Try.pinned (OpenSpec.ofChange fnUsesSpec)

/-- ITS FALSE NEIGHBOUR: 'it returns false'. Refute it at one input. -/
def fnUsesWrong : ChangeSpec := { name := "fnUses", fn := fun _ => fun
  | [d] => { results := [.lit (.bool false)], args := [d] }
  | _ => none }
def FnUsesWrongFalsely : Prop := fnUsesRow.holds Try.pinned (OpenSpec.ofChange fnUsesWrong)

/-- 'laws.FnGreedyLongest': WHATEVER THE INPUT: true; the input reads as it did. -/
def fnGreedyLongestSpec : ChangeSpec := { name := "fnGreedyLongest", fn := fun _ => fun
  | [d] => { results := [.lit (.bool true)], args := [d] }
  | _ => none }
def fnGreedyLongestRow : OpenClaim := { program := "ytlihhlihcjncoaa", sum := "29c7b0978d232e50829796fb6070ceb26192b1d1fefa96502989ef6f1fdab572", func := "loop.example/soughtstreams/laws.FnGreedyLongest", spec := "fnGreedyLongest", recurses := true, apart := false }
def FnGreedyLongestSaid : Prop := fnGreedyLongestRow.holds Try.pinned (OpenSpec.ofChange fnGreedyLongestSpec)

/-- ITS FALSE NEIGHBOUR: 'it returns false'. Refute it at one input. -/
def fnGreedyLongestWrong : ChangeSpec := { name := "fnGreedyLongest", fn := fun _ => fun
  | [d] => { results := [.lit (.bool false)], args := [d] }
  | _ => none }
def FnGreedyLongestWrongFalsely : Prop := fnGreedyLongestRow.holds Try.pinned (OpenSpec.ofChange fnGreedyLongestWrong)

/-- 'laws.FnGreedy': WHATEVER THE INPUT: true; the input reads as it did. -/
def fnGreedySpec : ChangeSpec := { name := "fnGreedy", fn := fun _ => fun
  | [d] => { results := [.lit (.bool true)], args := [d] }
  | _ => none }
def fnGreedyRow : OpenClaim := { program := "ytlihhlihcjncoaa", sum := "29c7b0978d232e50829796fb6070ceb26192b1d1fefa96502989ef6f1fdab572", func := "loop.example/soughtstreams/laws.FnGreedy", spec := "fnGreedy", recurses := true, apart := false }
def FnGreedySaid : Prop := fnGreedyRow.holds Try.pinned (OpenSpec.ofChange fnGreedySpec)

/-- ITS FALSE NEIGHBOUR: 'it returns false'. Refute it at one input. -/
def fnGreedyWrong : ChangeSpec := { name := "fnGreedy", fn := fun _ => fun
  | [d] => { results := [.lit (.bool false)], args := [d] }
  | _ => none }
def FnGreedyWrongFalsely : Prop := fnGreedyRow.holds Try.pinned (OpenSpec.ofChange fnGreedyWrong)

/-- 'laws.FnShared': WHATEVER THE INPUT: true; the input reads as it did. -/
def fnSharedSpec : ChangeSpec := { name := "fnShared", fn := fun _ => fun
  | [d] => { results := [.lit (.bool true)], args := [d] }
  | _ => none }
def fnSharedRow : OpenClaim := { program := "ytlihhlihcjncoaa", sum := "29c7b0978d232e50829796fb6070ceb26192b1d1fefa96502989ef6f1fdab572", func := "loop.example/soughtstreams/laws.FnShared", spec := "fnShared", apart := false }
def FnSharedSaid : Prop := fnSharedRow.holds Try.pinned (OpenSpec.ofChange fnSharedSpec)

/-- ITS FALSE NEIGHBOUR: 'it returns false'. Refute it at one input. -/
def fnSharedWrong : ChangeSpec := { name := "fnShared", fn := fun _ => fun
  | [d] => { results := [.lit (.bool false)], args := [d] }
  | _ => none }
def FnSharedWrongFalsely : Prop := fnSharedRow.holds Try.pinned (OpenSpec.ofChange fnSharedWrong)

/-- 'laws.FnExactSharedWords': WHATEVER THE INPUT: true; the input reads as it did. -/
def fnExactSharedWordsSpec : ChangeSpec := { name := "fnExactSharedWords", fn := fun _ => fun
  | [d1, d2] => { results := [.lit (.bool true)], args := [d1, d2] }
  | _ => none }
def fnExactSharedWordsRow : OpenClaim := { program := "ytlihhlihcjncoaa", sum := "29c7b0978d232e50829796fb6070ceb26192b1d1fefa96502989ef6f1fdab572", func := "loop.example/soughtstreams/laws.FnExactSharedWords", spec := "fnExactSharedWords", apart := false }
def FnExactSharedWordsSaid : Prop := fnExactSharedWordsRow.holds Try.pinned (OpenSpec.ofChange fnExactSharedWordsSpec)

/-- ITS FALSE NEIGHBOUR: 'it returns false'. Refute it at one input. -/
def fnExactSharedWordsWrong : ChangeSpec := { name := "fnExactSharedWords", fn := fun _ => fun
  | [d1, d2] => { results := [.lit (.bool false)], args := [d1, d2] }
  | _ => none }
def FnExactSharedWordsWrongFalsely : Prop := fnExactSharedWordsRow.holds Try.pinned (OpenSpec.ofChange fnExactSharedWordsWrong)

/- THE SECOND FORM. 'bulk': how many values and letters a reading holds, each counted each time it is reached (what is shared counts as often as it is met; a slice's spare places count too). A statement '..UptoSaid' is the law's where the arguments, and the package variables that the reading takes, are together of bulk at most 1048576: NARROWER than '..Said'. Prove '..Said' where nothing that the law and all that it calls make is longer than what came in: it says more and counts as full. Else prove '..UptoSaid'. A law counts once. -/
mutual
def uptoBulk {H : Type} : DataW H → Nat
  | .lit (.string bytes) => bytes.length + 1
  | .lit _ => 1
  | .nil => 1
  | .ptr d => uptoBulk d + 1
  | .slice elems spare => uptoBulkAll elems + uptoBulkAll spare + 1
  | .agg parts => uptoBulkAll parts + 1
  | .iface _ d => uptoBulk d + 1
  | .map entries => uptoBulkEntries entries + 1
  | .held _ => 1
def uptoBulkAll {H : Type} : List (DataW H) → Nat
  | [] => 0
  | d :: r => uptoBulk d + uptoBulkAll r
def uptoBulkEntries {H : Type} : List (Lit × DataW H) → Nat
  | [] => 0
  | x :: r => uptoBulkEntry x + uptoBulkEntries r
def uptoBulkEntry {H : Type} : Lit × DataW H → Nat
  | (.string bytes, d) => bytes.length + uptoBulk d + 1
  | (_, d) => uptoBulk d + 1
 end
def uptoSmall : (H : Type) → List (DataW H) → Bool := fun _ ds => decide (uptoBulkAll ds ≤ 1048576)
def OpenSpec.upto (s : _root_.Go.ChangeSpec) : _root_.Go.OpenSpec := { _root_.Go.OpenSpec.ofChange s with cond := some uptoSmall }

/-- 'laws.FnLongestWord', WHERE WHAT IT READS IS OF BULK AT MOST 1048576: true; the input reads as it did. -/
def fnLongestWordUptoRow : OpenClaim := { program := "ytlihhlihcjncoaa", sum := "29c7b0978d232e50829796fb6070ceb26192b1d1fefa96502989ef6f1fdab572", func := "loop.example/soughtstreams/laws.FnLongestWord", spec := "fnLongestWord", apart := false, narrowed := true }
def FnLongestWordUptoSaid : Prop := fnLongestWordUptoRow.holds Try.pinned (OpenSpec.upto fnLongestWordSpec)

/-- 'laws.FnCodeOfWord', WHERE WHAT IT READS IS OF BULK AT MOST 1048576: true; the input reads as it did. -/
def fnCodeOfWordUptoRow : OpenClaim := { program := "ytlihhlihcjncoaa", sum := "29c7b0978d232e50829796fb6070ceb26192b1d1fefa96502989ef6f1fdab572", func := "loop.example/soughtstreams/laws.FnCodeOfWord", spec := "fnCodeOfWord", recurses := true, apart := false, narrowed := true }
def FnCodeOfWordUptoSaid : Prop := fnCodeOfWordUptoRow.holds Try.pinned (OpenSpec.upto fnCodeOfWordSpec)

/-- 'laws.FnLearnBegin', WHERE WHAT IT READS IS OF BULK AT MOST 1048576: true; the input reads as it did. -/
def fnLearnBeginUptoRow : OpenClaim := { program := "ytlihhlihcjncoaa", sum := "29c7b0978d232e50829796fb6070ceb26192b1d1fefa96502989ef6f1fdab572", func := "loop.example/soughtstreams/laws.FnLearnBegin", spec := "fnLearnBegin", apart := false, narrowed := true }
def FnLearnBeginUptoSaid : Prop := fnLearnBeginUptoRow.holds Try.pinned (OpenSpec.upto fnLearnBeginSpec)

/-- 'laws.FnTrim', WHERE WHAT IT READS IS OF BULK AT MOST 1048576: true; the input reads as it did. -/
def fnTrimUptoRow : OpenClaim := { program := "ytlihhlihcjncoaa", sum := "29c7b0978d232e50829796fb6070ceb26192b1d1fefa96502989ef6f1fdab572", func := "loop.example/soughtstreams/laws.FnTrim", spec := "fnTrim", apart := false, narrowed := true }
def FnTrimUptoSaid : Prop := fnTrimUptoRow.holds Try.pinned (OpenSpec.upto fnTrimSpec)

/-- 'laws.FnLearn', WHERE WHAT IT READS IS OF BULK AT MOST 1048576: true; the input reads as it did. -/
def fnLearnUptoRow : OpenClaim := { program := "ytlihhlihcjncoaa", sum := "29c7b0978d232e50829796fb6070ceb26192b1d1fefa96502989ef6f1fdab572", func := "loop.example/soughtstreams/laws.FnLearn", spec := "fnLearn", apart := false, narrowed := true }
def FnLearnUptoSaid : Prop := fnLearnUptoRow.holds Try.pinned (OpenSpec.upto fnLearnSpec)

/-- 'laws.FnStartWith', WHERE WHAT IT READS IS OF BULK AT MOST 1048576: true; the input reads as it did. -/
def fnStartWithUptoRow : OpenClaim := { program := "ytlihhlihcjncoaa", sum := "29c7b0978d232e50829796fb6070ceb26192b1d1fefa96502989ef6f1fdab572", func := "loop.example/soughtstreams/laws.FnStartWith", spec := "fnStartWith", recurses := true, apart := false, narrowed := true }
def FnStartWithUptoSaid : Prop := fnStartWithUptoRow.holds Try.pinned (OpenSpec.upto fnStartWithSpec)

/-- 'laws.FnUses', WHERE WHAT IT READS IS OF BULK AT MOST 1048576: true; the input reads as it did. -/
def fnUsesUptoRow : OpenClaim := { program := "ytlihhlihcjncoaa", sum := "29c7b0978d232e50829796fb6070ceb26192b1d1fefa96502989ef6f1fdab572", func := "loop.example/soughtstreams/laws.FnUses", spec := "fnUses", apart := false, narrowed := true }
def FnUsesUptoSaid : Prop := fnUsesUptoRow.holds Try.pinned (OpenSpec.upto fnUsesSpec)

/-- 'laws.FnGreedyLongest', WHERE WHAT IT READS IS OF BULK AT MOST 1048576: true; the input reads as it did. -/
def fnGreedyLongestUptoRow : OpenClaim := { program := "ytlihhlihcjncoaa", sum := "29c7b0978d232e50829796fb6070ceb26192b1d1fefa96502989ef6f1fdab572", func := "loop.example/soughtstreams/laws.FnGreedyLongest", spec := "fnGreedyLongest", recurses := true, apart := false, narrowed := true }
def FnGreedyLongestUptoSaid : Prop := fnGreedyLongestUptoRow.holds Try.pinned (OpenSpec.upto fnGreedyLongestSpec)

/-- 'laws.FnGreedy', WHERE WHAT IT READS IS OF BULK AT MOST 1048576: true; the input reads as it did. -/
def fnGreedyUptoRow : OpenClaim := { program := "ytlihhlihcjncoaa", sum := "29c7b0978d232e50829796fb6070ceb26192b1d1fefa96502989ef6f1fdab572", func := "loop.example/soughtstreams/laws.FnGreedy", spec := "fnGreedy", recurses := true, apart := false, narrowed := true }
def FnGreedyUptoSaid : Prop := fnGreedyUptoRow.holds Try.pinned (OpenSpec.upto fnGreedySpec)

/-- 'laws.FnShared', WHERE WHAT IT READS IS OF BULK AT MOST 1048576: true; the input reads as it did. -/
def fnSharedUptoRow : OpenClaim := { program := "ytlihhlihcjncoaa", sum := "29c7b0978d232e50829796fb6070ceb26192b1d1fefa96502989ef6f1fdab572", func := "loop.example/soughtstreams/laws.FnShared", spec := "fnShared", apart := false, narrowed := true }
def FnSharedUptoSaid : Prop := fnSharedUptoRow.holds Try.pinned (OpenSpec.upto fnSharedSpec)

/-- 'laws.FnExactSharedWords', WHERE WHAT IT READS IS OF BULK AT MOST 1048576: true; the input reads as it did. -/
def fnExactSharedWordsUptoRow : OpenClaim := { program := "ytlihhlihcjncoaa", sum := "29c7b0978d232e50829796fb6070ceb26192b1d1fefa96502989ef6f1fdab572", func := "loop.example/soughtstreams/laws.FnExactSharedWords", spec := "fnExactSharedWords", apart := false, narrowed := true }
def FnExactSharedWordsUptoSaid : Prop := fnExactSharedWordsUptoRow.holds Try.pinned (OpenSpec.upto fnExactSharedWordsSpec)

end Rows
end Go.Proofs.Ytlihhlihcjncoaa
