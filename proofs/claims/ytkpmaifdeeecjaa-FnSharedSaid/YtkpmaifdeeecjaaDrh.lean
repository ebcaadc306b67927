/- Draws: DrawStartWith, DrawTrimDict. -/
import Derived.Test.YtkpmaifdeeecjaaDrg
namespace Go.Proofs.Ytkpmaifdeeecjaa
open Go.RowKit
set_option linter.unusedVariables false
set_option linter.unusedSimpArgs false

/-- what DrawStartWith returns -/
def RetSw (w : World) (e : Ending) (w' : World) : Prop := ∃ (o l m : Int) (s : ByteArray), e = .returned (.tuple #[.agg #[.int .i64 o, .int .i64 l, .int .i64 m], .string s]) ∧ s.size ≤ 3001 ∧ ∃ x, w' = plus w x

end Go.Proofs.Ytkpmaifdeeecjaa
