/- Draws: l1Data, l1Wild. -/
import Derived.Test.YtibfkfinghcpaaaDra
namespace Go.Proofs.Ytibfkfinghcpaaa
open Go.RowKit
set_option linter.unusedVariables false
set_option linter.unusedSimpArgs false

/-- a draw of a string -/
def RetT (w : World) (B n k : Nat) (e : Ending) (w' : World) : Prop := ∃ s : ByteArray, e = .returned (.string s) ∧ s.size ≤ k ∧ Drn w B n w'

theorem dsrc_pat {w w' : World} {B n : Nat} {cur : Array Value} {x : Ext} (h : Dsrc (plus (patch w B (.cells cur 128)) x) B n) : Dsrc (plus (patch w B (.cells cur 128)) x) B n := h

end Go.Proofs.Ytibfkfinghcpaaa
