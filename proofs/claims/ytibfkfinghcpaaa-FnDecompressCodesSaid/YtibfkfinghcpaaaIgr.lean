/- The walk of impl.greedy: codes of the longest words. -/
import Derived.Test.YtibfkfinghcpaaaGrp
import Derived.Test.YtibfkfinghcpaaaTbn
namespace Go.Proofs.Ytibfkfinghcpaaa
open Go.RowKit
set_option linter.unusedVariables false
set_option linter.unusedSimpArgs false

/-- integers of the call's own -/
def RetIs (w : World) (xs : List Int) (e : Ending) (w' : World) : Prop :=
  ∃ a c, e = .returned (.slice a xs.length c) ∧ Own encI 3 w' a c xs w.heap.size ∧ ∃ x, w' = plus w x

theorem below_size {B : Nat} {w w' : World} (h : Below B w w') : w.heap.size ≤ w'.heap.size := h.size

end Go.Proofs.Ytibfkfinghcpaaa
