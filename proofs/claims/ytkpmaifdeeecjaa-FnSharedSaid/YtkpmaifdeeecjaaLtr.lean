/- The law Trim: a trimmed dictionary, in plain Lean, and the walk. -/
import Derived.Test.YtkpmaifdeeecjaaDrh
import Derived.Test.YtkpmaifdeeecjaaTrd
import Derived.Test.YtkpmaifdeeecjaaSwi
import Derived.Test.YtkpmaifdeeecjaaTmp
namespace Go.Proofs.Ytkpmaifdeeecjaa
open Go.RowKit
set_option linter.unusedVariables false
set_option linter.unusedSimpArgs false

theorem ext_pre (s : ByteArray) (n : Nat) : (s.extract 0 n).data.toList = s.data.toList.take n := by
  have := bstr_pre s.data.toList n
  rw [bstr_bytes] at this
  rw [this, bytes_bstr]

/-- what is learned from a text -/
noncomputable def lrn0 (l m : Int) (s : ByteArray) : List Pr := (lrn l m s.size [] (-1) s.data.toList).1

/-- how much of a text is needed -/
noncomputable def ned0 (l m : Int) (s : ByteArray) : Int := ned l m s.size [] (-1) s.data.toList 0 0

theorem lrn_pre {o l m : Int} {s : ByteArray} (hs : sv o l m = true) (hd : dfB o l m s = true) {n : Nat} (hn : n ≤ s.size) :
    (∃ r, lrn0 l m s = lrn0 l m (s.extract 0 n) ++ r) ∧ ((lrn0 l m s).length = (lrn0 l m (s.extract 0 n)).length ↔ ned0 l m s ≤ n) ∧ 0 ≤ ned0 l m s ∧ ned0 l m s ≤ s.size ∧ dfB o l m (s.extract 0 n) = true ∧ (s.extract 0 n).size = n := by
  have hTx : Tx o l m 0 [] (-1) s.data.toList := ⟨kv_start hs, by rw [bstr_bytes]; exact hd⟩
  obtain ⟨q1, q2, q3, q4, _⟩ := trim_main s.size [] (-1) s.data.toList n 0 0 hTx (by rw [bytes_len]; omega) (by rw [bytes_len]; exact hn) (by omega)
  have hz : (s.extract 0 n).size = n := by rw [← bytes_len, ext_pre, List.length_take, bytes_len]; omega
  have e : (lrn l m s.size [] (-1) (s.data.toList.take n)).1 = lrn0 l m (s.extract 0 n) := by
    unfold lrn0
    rw [hz, ext_pre]
    rw [lrn_fuel s.size n [] (-1) (s.data.toList.take n) (hTx.take n) (by rw [List.length_take, bytes_len]; omega) (by rw [List.length_take]; omega)]
  rw [e] at q1 q2
  rw [bytes_len] at q3
  refine ⟨q1, ?_, q4, by unfold ned0; omega, ?_, hz⟩
  · unfold ned0
    rw [Int.zero_add] at q2
    exact q2
  · have := dfB_pre (d := s.data.toList) (by rw [bstr_bytes]; exact hd) n
    rw [← ext_pre, bstr_bytes] at this
    exact this

/-- the trimmed part is trimmed -/
theorem ned_ned {o l m : Int} {s : ByteArray} (hs : sv o l m = true) (hd : dfB o l m s = true) {N : Nat} (hN : ned0 l m s = N) : ned0 l m (s.extract 0 N) = N := by
  obtain ⟨_, a1, a2, a3, a4, a5⟩ := lrn_pre hs hd (n := N) (by
    obtain ⟨_, _, _, b3, _⟩ := lrn_pre hs hd (n := 0) (by omega)
    omega)
  have hNs : N ≤ s.size := by omega
  obtain ⟨_, _, b2, b3, _, _⟩ := lrn_pre hs a4 (n := 0) (by omega)
  rw [a5] at b3
  obtain ⟨M, hM⟩ : ∃ M : Nat, ned0 l m (s.extract 0 N) = M := ⟨(ned0 l m (s.extract 0 N)).toNat, by omega⟩
  have hMN : M ≤ N := by omega
  obtain ⟨_, c1, _, _, _, _⟩ := lrn_pre hs a4 (n := M) (by rw [a5]; omega)
  have e : (s.extract 0 N).extract 0 M = s.extract 0 M := by
    rw [← bstr_bytes ((s.extract 0 N).extract 0 M), ext_pre, ext_pre, List.take_take, Nat.min_eq_left hMN, ← ext_pre, bstr_bytes]
  rw [e] at c1
  obtain ⟨_, d1, _⟩ := lrn_pre hs hd (n := M) (by omega)
  have h1 := a1.2 (by omega)
  have h2 := c1.2 (by omega)
  have h3 := d1.1 (h1.trans h2)
  omega

end Go.Proofs.Ytkpmaifdeeecjaa
