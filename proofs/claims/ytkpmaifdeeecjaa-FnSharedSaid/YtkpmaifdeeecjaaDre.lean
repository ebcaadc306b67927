/- Draws: l2Pick. -/
import Derived.Test.YtkpmaifdeeecjaaDrd
import Derived.Test.YtkpmaifdeeecjaaGf
namespace Go.Proofs.Ytkpmaifdeeecjaa
open Go.RowKit
set_option linter.unusedVariables false
set_option linter.unusedSimpArgs false

/-- a draw of a code that can follow -/
def RetC (w : World) (B n : Nat) (l m : Int) (k : Nat) (last : Int) (e : Ending) (w' : World) : Prop := ∃ c : Int, e = .returned (.int .i64 c) ∧ Okc l m k last c ∧ c ≠ two l ∧ Drn w B n w'

end Go.Proofs.Ytkpmaifdeeecjaa
