/- The walks of unpack, UnpackCodes (program). -/
import Derived.Test.YtmddcbebaijjkaaGreatDoorIrc
import Derived.Test.YtmddcbebaijjkaaGreatDoorGb1
import Derived.Test.YtmddcbebaijjkaaGreatDoorGs
namespace Go.Proofs.YtmddcbebaijjkaaGreatDoor
open Go.RowKit
set_option linter.unusedVariables false
set_option linter.unusedSimpArgs false

theorem rdc_p {o l m : Int} {b sz ct : Nat} {bits : List UInt8} : ∀ (f : Nat) (ps : List Pr) (last : Int) (p : Nat) (C : List Int) (D : List UInt8), p ≤ bits.length → (rdc o l m b sz ct bits f ps last p C D).p ≤ bits.length
  | 0, ps, last, p, C, D, hp => hp
  | f + 1, ps, last, p, C, D, hp => by
    unfold rdc
    by_cases hn : bits.length - p < (wd l m ps.length last).toNat
    · rw [if_pos hn]; exact hp
    · rw [if_neg hn]
      have h2 : p + (wd l m ps.length last).toNat ≤ bits.length := by omega
      repeat' split
      all_goals first | exact h2 | exact rdc_p f _ _ _ _ _ h2

end Go.Proofs.YtmddcbebaijjkaaGreatDoor
