/- The word of a code, by the program: the walk of wordText. -/
import Derived.Test.YtkpmaifdeeecjaaFol
namespace Go.Proofs.Ytkpmaifdeeecjaa
open Go.RowKit
set_option linter.unusedVariables false
set_option linter.unusedSimpArgs false

theorem rd_under {α : Type} {E : Enc α} {w w' : World} {a : Option Addr} {cap : Nat} {xs : List α} (h : Rd E w a cap xs) (hb : Below w.heap.size w w') : Rd E w' a cap xs :=
  h.of_block fun A hA hl => ⟨by have := hb.size; omega, hb.block _ hl⟩

end Go.Proofs.Ytkpmaifdeeecjaa
