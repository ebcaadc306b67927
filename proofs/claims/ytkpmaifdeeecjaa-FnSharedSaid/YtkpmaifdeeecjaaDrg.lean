/- Draws: l4Dict, l4Some, DrawStartWith, DrawTrimDict. -/
import Derived.Test.YtkpmaifdeeecjaaDrd
import Derived.Test.YtkpmaifdeeecjaaGf
namespace Go.Proofs.Ytkpmaifdeeecjaa
open Go.RowKit
set_option linter.unusedVariables false
set_option linter.unusedSimpArgs false

theorem ext_from (s : ByteArray) (v : Nat) : (s.extract v s.size).size = s.size - v := by
  rw [← bytes_len, ext_drop, List.length_drop, bytes_len]

/-- a draw of a setting and two texts -/
def RetS4 (w : World) (B n : Nat) (e : Ending) (w' : World) : Prop := ∃ (o l m : Int) (s1 s2 : ByteArray), e = .returned (.tuple #[.agg #[.int .i64 o, .int .i64 l, .int .i64 m], .string s1, .string s2]) ∧ s1.size ≤ 3001 ∧ s2.size ≤ 3001 ∧ Drn w B n w'

end Go.Proofs.Ytkpmaifdeeecjaa
