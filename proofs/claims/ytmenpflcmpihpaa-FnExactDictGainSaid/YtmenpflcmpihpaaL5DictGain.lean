/- The law of DictGain walked. -/
import Derived.Test.YtmenpflcmpihpaaRng
import Derived.Test.YtmenpflcmpihpaaGa
namespace Go.Proofs.Ytmenpflcmpihpaa
open Go.RowKit
set_option linter.unusedVariables false
set_option linter.unusedSimpArgs false

set_option maxRecDepth 100000 in
set_option maxHeartbeats 8000000 in
theorem lawDictGain_fit (o l m : Int) (s1 : ByteArray) (s2 : ByteArray) (w : World) (r1 : Int) (r2 : Bool) (hs1 : s1.size ≤ 1048576) (hs2 : s2.size ≤ 1048576) (hS : ∀ (W : World), Calls Try.prog 42 #[.agg #[.int .i64 o, .int .i64 l, .int .i64 m], .string s1, .string s2] W (Ret W (.tuple #[.int .i64 r1, .bool r2]))) (hI : ∀ (W : World), Calls Try.prog 43 #[.agg #[.int .i64 o, .int .i64 l, .int .i64 m], .string s1, .string s2] W (Ret W (.tuple #[.int .i64 r1, .bool r2]))) :
    Calls Try.prog 12 #[.agg #[.int .i64 o, .int .i64 l, .int .i64 m], .string s1, .string s2] w fun e w' => e = .returned (.bool true) ∧ Below w.heap.size w w' := by
  have HS := Lib.hid hS
  have HI := Lib.hid hI
  clear hS hI
  have e1 : (r1 != r1) = false := by simp
  have e2 : (r2 != r2) = false := by simp
  go_enter Try.func12, Try.ntmps12
  go_wp2_with fail
  refine (toSetting_any _ _ _ _).mono ?_
  rintro e w' ⟨rfl, xTA, rfl⟩
  go_wp2_with fail
  refine (HS.out _).mono ?_
  rintro e w' ⟨rfl, xW, rfl⟩
  go_wp2_with fail
  refine (toSetting_any _ _ _ _).mono ?_
  rintro e w' ⟨rfl, xTX, rfl⟩
  go_wp2_with fail
  refine (HI.out _).mono ?_
  rintro e w' ⟨rfl, xG, rfl⟩
  go_wp2_with fail
  go_ret
  exact ⟨rfl, (by repeat (first | exact Below.refl _ _ | refine below_plus ?_ (by first | omega | (simp <;> omega)) _ | refine Below.alloc ?_ (by first | omega | (simp <;> omega)) _ | refine below_patch ?_ (by omega) _ | refine Below.drew ?_))⟩

theorem lawDictGain_long1 (o l m : Int) (s1 : ByteArray) (s2 : ByteArray) (w : World) (hb : 1048576 < s1.size) (hm : ∀ x, x ∈ [s1, s2] → x.size ≤ maxLen) :
    Calls Try.prog 12 #[.agg #[.int .i64 o, .int .i64 l, .int .i64 m], .string s1, .string s2] w fun e w' => e = .returned (.bool true) ∧ Below w.heap.size w w' := by
  have hm1 := hm s1 (by simp)
  have hm2 := hm s2 (by simp)
  unfold maxLen at hm1 hm2
  rcases Nat.lt_or_ge 1048576 s2.size with g2 | g2
  all_goals
    go_enter Try.func12, Try.ntmps12
    go_wp2
    go_ret
    exact ⟨rfl, (by repeat (first | exact Below.refl _ _ | refine below_plus ?_ (by first | omega | (simp <;> omega)) _ | refine Below.alloc ?_ (by first | omega | (simp <;> omega)) _ | refine below_patch ?_ (by omega) _ | refine Below.drew ?_))⟩

theorem lawDictGain_long2 (o l m : Int) (s1 : ByteArray) (s2 : ByteArray) (w : World) (hb : 1048576 < s2.size) (hm : ∀ x, x ∈ [s1, s2] → x.size ≤ maxLen) :
    Calls Try.prog 12 #[.agg #[.int .i64 o, .int .i64 l, .int .i64 m], .string s1, .string s2] w fun e w' => e = .returned (.bool true) ∧ Below w.heap.size w w' := by
  have hm1 := hm s1 (by simp)
  have hm2 := hm s2 (by simp)
  unfold maxLen at hm1 hm2
  rcases Nat.lt_or_ge 1048576 s1.size with g1 | g1
  all_goals
    go_enter Try.func12, Try.ntmps12
    go_wp2
    go_ret
    exact ⟨rfl, (by repeat (first | exact Below.refl _ _ | refine below_plus ?_ (by first | omega | (simp <;> omega)) _ | refine Below.alloc ?_ (by first | omega | (simp <;> omega)) _ | refine below_patch ?_ (by omega) _ | refine Below.drew ?_))⟩

theorem lawDictGain_sizes (o l m : Int) (s1 : ByteArray) (s2 : ByteArray) (w : World) (r1 : Int) (r2 : Bool) (hm1 : s1.size ≤ maxLen) (hm2 : s2.size ≤ maxLen) (hS : ∀ (W : World), Calls Try.prog 42 #[.agg #[.int .i64 o, .int .i64 l, .int .i64 m], .string s1, .string s2] W (Ret W (.tuple #[.int .i64 r1, .bool r2]))) (hI : ∀ (W : World), Calls Try.prog 43 #[.agg #[.int .i64 o, .int .i64 l, .int .i64 m], .string s1, .string s2] W (Ret W (.tuple #[.int .i64 r1, .bool r2]))) :
    Calls Try.prog 12 #[.agg #[.int .i64 o, .int .i64 l, .int .i64 m], .string s1, .string s2] w fun e w' => e = .returned (.bool true) ∧ Below w.heap.size w w' := by
  have hm : ∀ x, x ∈ [s1, s2] → x.size ≤ maxLen := by intro x hx; simp at hx; rcases hx with rfl | rfl <;> assumption
  by_cases bs1 : s1.size ≤ 1048576
  case neg => exact lawDictGain_long1 o l m s1 s2 w (by omega) hm
  by_cases bs2 : s2.size ≤ 1048576
  case neg => exact lawDictGain_long2 o l m s1 s2 w (by omega) hm
  exact lawDictGain_fit o l m s1 s2 w r1 r2 bs1 bs2 hS hI

end Go.Proofs.Ytmenpflcmpihpaa
