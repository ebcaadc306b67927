/- The walks of TrimDict, of the program and of the reference. -/
import Derived.Test.YtkpmaifdeeecjaaTmp
import Derived.Test.YtkpmaifdeeecjaaSwi
namespace Go.Proofs.Ytkpmaifdeeecjaa
open Go.RowKit
set_option linter.unusedVariables false
set_option linter.unusedSimpArgs false

theorem dfB_len {o l m : Int} {s : ByteArray} (h : dfB o l m s = true) : s.size ≤ 2000 := by
  unfold dfB at h
  simp only [Bool.and_eq_true, decide_eq_true_eq] at h
  omega

end Go.Proofs.Ytkpmaifdeeecjaa
