/- What UnpackCodes leaves; how many bytes are used. -/
import Derived.Test.YtibfkfinghcpaaaIrs
namespace Go.Proofs.Ytibfkfinghcpaaa
open Go.RowKit
set_option linter.unusedVariables false
set_option linter.unusedSimpArgs false

/-- what UnpackCodes leaves -/
def RetUn (w : World) (xs : List Int) (en u : Int) (e : Ending) (w' : World) : Prop :=
  ∃ a c, e = .returned (.tuple #[.slice a xs.length c, .int .i64 en, .int .i64 u]) ∧ Own encI 3 w' a c xs w.heap.size ∧ ∃ x, w' = plus w x

/-- how many bytes are used -/
def usedV (n : Nat) (R : Rg) : Int := if R.e = 1 then (n : Int) else ((R.p : Int) + 7) / 8

end Go.Proofs.Ytibfkfinghcpaaa
