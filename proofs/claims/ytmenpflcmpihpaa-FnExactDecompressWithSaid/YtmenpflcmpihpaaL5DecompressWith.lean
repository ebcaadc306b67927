/- The law of DecompressWith walked. -/
import Derived.Test.YtmenpflcmpihpaaRng
import Derived.Test.YtmenpflcmpihpaaGa
namespace Go.Proofs.Ytmenpflcmpihpaa
open Go.RowKit
set_option linter.unusedVariables false
set_option linter.unusedSimpArgs false

set_option maxRecDepth 100000 in
set_option maxHeartbeats 8000000 in
theorem lawDecompressWith_fit (o l m : Int) (s1 : ByteArray) (s2 : ByteArray) (w : World) (r1 : ByteArray) (r2 : Int) (r3 : Int) (hs1 : s1.size ≤ 1048576) (hs2 : s2.size ≤ 1048576) (hS : ∀ (W : World), Calls Try.prog 33 #[.agg #[.int .i64 o, .int .i64 l, .int .i64 m], .string s1, .string s2] W (Ret W (.tuple #[.string r1, .int .i64 r2, .int .i64 r3]))) (hI : ∀ (W : World), Calls Try.prog 35 #[.agg #[.int .i64 o, .int .i64 l, .int .i64 m], .string s1, .string s2] W (Ret W (.tuple #[.string r1, .int .i64 r2, .int .i64 r3]))) :
    Calls Try.prog 8 #[.agg #[.int .i64 o, .int .i64 l, .int .i64 m], .string s1, .string s2] w fun e w' => e = .returned (.bool true) ∧ Below w.heap.size w w' := by
  have HS := Lib.hid hS
  have HI := Lib.hid hI
  clear hS hI
  have e1 : (r1.toList != r1.toList) = false := by simp
  have e2 : (r2 != r2) = false := by simp
  have e3 : (r3 != r3) = false := by simp
  go_enter Try.func8, Try.ntmps8
  go_wp2_with fail
  refine (toSetting_any _ _ _ _).mono ?_
  rintro e w' ⟨rfl, xTA, rfl⟩
  go_wp2_with fail
  refine (HS.out _).mono ?_
  rintro e w' ⟨rfl, xW, rfl⟩
  go_wp2_with fail
  refine (toSetting_any _ _ _ _).mono ?_
  rintro e w' ⟨rfl, xTX, rfl⟩
  go_wp2_with fail
  refine (HI.out _).mono ?_
  rintro e w' ⟨rfl, xG, rfl⟩
  go_wp2_with fail
  go_ret
  exact ⟨rfl, (by repeat (first | exact Below.refl _ _ | refine below_plus ?_ (by first | omega | (simp <;> omega)) _ | refine Below.alloc ?_ (by first | omega | (simp <;> omega)) _ | refine below_patch ?_ (by omega) _ | refine Below.drew ?_))⟩

theorem lawDecompressWith_long1 (o l m : Int) (s1 : ByteArray) (s2 : ByteArray) (w : World) (hb : 1048576 < s1.size) (hm : ∀ x, x ∈ [s1, s2] → x.size ≤ maxLen) :
    Calls Try.prog 8 #[.agg #[.int .i64 o, .int .i64 l, .int .i64 m], .string s1, .string s2] w fun e w' => e = .returned (.bool true) ∧ Below w.heap.size w w' := by
  have hm1 := hm s1 (by simp)
  have hm2 := hm s2 (by simp)
  unfold maxLen at hm1 hm2
  rcases Nat.lt_or_ge 1048576 s2.size with g2 | g2
  all_goals
    go_enter Try.func8, Try.ntmps8
    go_wp2
    go_ret
    exact ⟨rfl, (by repeat (first | exact Below.refl _ _ | refine below_plus ?_ (by first | omega | (simp <;> omega)) _ | refine Below.alloc ?_ (by first | omega | (simp <;> omega)) _ | refine below_patch ?_ (by omega) _ | refine Below.drew ?_))⟩

theorem lawDecompressWith_long2 (o l m : Int) (s1 : ByteArray) (s2 : ByteArray) (w : World) (hb : 1048576 < s2.size) (hm : ∀ x, x ∈ [s1, s2] → x.size ≤ maxLen) :
    Calls Try.prog 8 #[.agg #[.int .i64 o, .int .i64 l, .int .i64 m], .string s1, .string s2] w fun e w' => e = .returned (.bool true) ∧ Below w.heap.size w w' := by
  have hm1 := hm s1 (by simp)
  have hm2 := hm s2 (by simp)
  unfold maxLen at hm1 hm2
  rcases Nat.lt_or_ge 1048576 s1.size with g1 | g1
  all_goals
    go_enter Try.func8, Try.ntmps8
    go_wp2
    go_ret
    exact ⟨rfl, (by repeat (first | exact Below.refl _ _ | refine below_plus ?_ (by first | omega | (simp <;> omega)) _ | refine Below.alloc ?_ (by first | omega | (simp <;> omega)) _ | refine below_patch ?_ (by omega) _ | refine Below.drew ?_))⟩

theorem lawDecompressWith_sizes (o l m : Int) (s1 : ByteArray) (s2 : ByteArray) (w : World) (r1 : ByteArray) (r2 : Int) (r3 : Int) (hm1 : s1.size ≤ maxLen) (hm2 : s2.size ≤ maxLen) (hS : ∀ (W : World), Calls Try.prog 33 #[.agg #[.int .i64 o, .int .i64 l, .int .i64 m], .string s1, .string s2] W (Ret W (.tuple #[.string r1, .int .i64 r2, .int .i64 r3]))) (hI : ∀ (W : World), Calls Try.prog 35 #[.agg #[.int .i64 o, .int .i64 l, .int .i64 m], .string s1, .string s2] W (Ret W (.tuple #[.string r1, .int .i64 r2, .int .i64 r3]))) :
    Calls Try.prog 8 #[.agg #[.int .i64 o, .int .i64 l, .int .i64 m], .string s1, .string s2] w fun e w' => e = .returned (.bool true) ∧ Below w.heap.size w w' := by
  have hm : ∀ x, x ∈ [s1, s2] → x.size ≤ maxLen := by intro x hx; simp at hx; rcases hx with rfl | rfl <;> assumption
  by_cases bs1 : s1.size ≤ 1048576
  case neg => exact lawDecompressWith_long1 o l m s1 s2 w (by omega) hm
  by_cases bs2 : s2.size ≤ 1048576
  case neg => exact lawDecompressWith_long2 o l m s1 s2 w (by omega) hm
  exact lawDecompressWith_fit o l m s1 s2 w r1 r2 r3 bs1 bs2 hS hI

end Go.Proofs.Ytmenpflcmpihpaa
