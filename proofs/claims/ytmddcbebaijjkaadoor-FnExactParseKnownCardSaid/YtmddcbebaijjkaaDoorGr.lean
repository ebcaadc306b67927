/- Lemmas and walks, part Gr. -/
import Derived.Test.YtmddcbebaijjkaaDoorGc
import Derived.Test.YtmddcbebaijjkaaDoorGb

/- Walks: ReaderValid and ReaderNeeds of the program and of the reference. -/
namespace Go.Proofs.YtmddcbebaijjkaaDoor
open Go.RowKit
set_option linter.unusedVariables false
set_option linter.unusedSimpArgs false

/-- what a valid reader is, beside what it knows -/
structure RV (l m n last : Int) (s : ByteArray) (z c e : Int) : Prop where
  bits : bitsB s = true
  z0 : 0 ≤ z
  z1 : z ≤ 2000
  c0 : 0 ≤ c
  c1 : c ≤ 3100
  e : (e = 1 ∧ (s.size : Int) < wd l m n last ∧ c < 3100) ∨ ((e = 0 ∨ e = 2 ∨ e = 3) ∧ s.size = 0)

noncomputable def rvb (l m n last : Int) (s : ByteArray) (z c e : Int) : Bool := @decide (RV l m n last s z c e) (Classical.propDecidable _)

theorem rvb_iff {l m n last : Int} {s : ByteArray} {z c e : Int} : rvb l m n last s z c e = true ↔ RV l m n last s z c e := by simp [rvb]

/-- a valid reader -/
noncomputable def rdb (o l m : Int) (ps : List Pr) (base last : Int) (s : ByteArray) (z c e : Int) : Bool := kvb o l m ps base last && rvb l m ps.length last s z c e

end Go.Proofs.YtmddcbebaijjkaaDoor

/- Walks: ReaderNeeds of the program and of the reference; the laws' sizes and copies of readers. -/
namespace Go.Proofs.YtmddcbebaijjkaaDoor
open Go.RowKit
set_option linter.unusedVariables false
set_option linter.unusedSimpArgs false

end Go.Proofs.YtmddcbebaijjkaaDoor
