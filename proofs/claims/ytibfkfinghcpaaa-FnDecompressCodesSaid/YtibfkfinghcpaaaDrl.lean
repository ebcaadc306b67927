/- Draws: DrawGreedyCodes, DrawLearnKnown. -/
import Derived.Test.YtibfkfinghcpaaaDrj
namespace Go.Proofs.Ytibfkfinghcpaaa
open Go.RowKit
set_option linter.unusedVariables false
set_option linter.unusedSimpArgs false

/-- the same, and where the pairs lie -/
def RetKl (w : World) (e : Ending) (w' : World) : Prop := ∃ (o l m : Int) (pa : Option Addr) (pc : Nat) (ps : List Pr) (base last : Int) (s : ByteArray),
  e = .returned (.tuple #[.agg #[.int .i64 o, .int .i64 l, .int .i64 m, .slice pa ps.length pc, .int .i64 base, .int .i64 last], .string s]) ∧ ps.length ≤ 3000 ∧ s.size ≤ 5000 ∧ RdP w' pa pc ps ∧ (∃ x, w' = plus w x) ∧ ∀ X, pa = some X → w.heap.size < X.block

end Go.Proofs.Ytibfkfinghcpaaa
