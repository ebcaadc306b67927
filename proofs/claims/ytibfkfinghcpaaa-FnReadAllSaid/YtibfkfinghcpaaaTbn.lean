/- A tree and a slice beside it: what the calls on the tree leave of both. -/
import Derived.Test.YtibfkfinghcpaaaGe
import Derived.Test.YtibfkfinghcpaaaGd

namespace Go.Proofs.Ytibfkfinghcpaaa
open Go.RowKit
set_option linter.unusedVariables false
set_option linter.unusedSimpArgs false

theorem Within.off {a a' : Option Addr} {n k : Nat} (h : Within a a' n) (ho : Off a k) (hk : k < n) : Off a' k := fun X hX e => by
  rcases h X hX with ⟨Y, hY, he⟩ | he
  · exact ho Y hY (by omega)
  · omega

section
variable {α : Type} {E : Enc α} {e : TypeId} {av : List Nat} {w w' : World} {t lo : Nat} {o l m : Int} {ps ps' : List Pr} {base last last' : Int} {A : Option Addr} {cap : Nat} {xs : List α}

end

end Go.Proofs.Ytibfkfinghcpaaa
