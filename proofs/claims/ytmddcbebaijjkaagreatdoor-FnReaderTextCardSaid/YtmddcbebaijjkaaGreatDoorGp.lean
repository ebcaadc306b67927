/- Lemmas and walks, part Gp. -/
import Derived.Test.YtmddcbebaijjkaaGreatDoorGi
import Derived.Test.YtmddcbebaijjkaaGreatDoorPck
import Derived.Test.YtmddcbebaijjkaaGreatDoorGb1
import Derived.Test.YtmddcbebaijjkaaGreatDoorUnc

/- Bits of numbers and bytes, there and back, in plain Lean. -/
namespace Go.Proofs.YtmddcbebaijjkaaGreatDoor
open Go.RowKit
set_option linter.unusedVariables false
set_option linter.unusedSimpArgs false

theorem BV.take {bs : List UInt8} (h : BV bs) (k : Nat) : BV (bs.take k) := fun b hb => h b (List.mem_of_mem_take hb)

theorem BV.drop {bs : List UInt8} (h : BV bs) (k : Nat) : BV (bs.drop k) := fun b hb => h b (List.mem_of_mem_drop hb)

theorem unpL_bv (o : Int) (bs : List UInt8) : BV (unpL o bs) := by
  intro b hb
  obtain ⟨x, _, hx⟩ := List.mem_flatMap.1 hb
  exact bitsL_bv o _ _ b hx

end Go.Proofs.YtmddcbebaijjkaaGreatDoor

/- Reading codes from bits: from more bits, from fewer, from what was packed; in plain Lean. -/
namespace Go.Proofs.YtmddcbebaijjkaaGreatDoor
open Go.RowKit
set_option linter.unusedVariables false
set_option linter.unusedSimpArgs false

theorem wd_pos {o l m base last : Int} {ps : List Pr} (h : KV o l m ps base last) : 2 ≤ (wd l m ps.length last).toNat ∧ (wd l m ps.length last).toNat ≤ 11 := by
  obtain ⟨l1, l2, _⟩ := h.lim.bds
  have := need_bd (gt l m ps.length last)
  unfold wd
  omega

end Go.Proofs.YtmddcbebaijjkaaGreatDoor

/- Unpacking what was packed, in plain Lean. -/
namespace Go.Proofs.YtmddcbebaijjkaaGreatDoor
open Go.RowKit
set_option linter.unusedVariables false
set_option linter.unusedSimpArgs false

end Go.Proofs.YtmddcbebaijjkaaGreatDoor
