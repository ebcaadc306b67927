/- The law of TrimDict walked. -/
import Derived.Test.YtbedikodiboofaaRng
import Derived.Test.YtbedikodiboofaaGa
namespace Go.Proofs.Ytbedikodiboofaa
open Go.RowKit
set_option linter.unusedVariables false
set_option linter.unusedSimpArgs false

set_option maxRecDepth 100000 in
set_option maxHeartbeats 8000000 in
theorem lawTrimDict_fit (o l m : Int) (s1 : ByteArray) (w : World) (r1 : ByteArray) (r2 : Bool) (hs1 : s1.size ≤ 1048576) (hS : ∀ (W : World), Calls Try.prog 40 #[.agg #[.int .i64 o, .int .i64 l, .int .i64 m], .string s1] W (Ret W (.tuple #[.string r1, .bool r2]))) (hI : ∀ (W : World), Calls Try.prog 42 #[.agg #[.int .i64 o, .int .i64 l, .int .i64 m], .string s1] W (Ret W (.tuple #[.string r1, .bool r2]))) :
    Calls Try.prog 9 #[.agg #[.int .i64 o, .int .i64 l, .int .i64 m], .string s1] w fun e w' => e = .returned (.bool true) ∧ Below w.heap.size w w' := by
  have HS := Lib.hid hS
  have HI := Lib.hid hI
  clear hS hI
  have e1 : (r1.toList != r1.toList) = false := by simp
  have e2 : (r2 != r2) = false := by simp
  go_enter Try.func9, Try.ntmps9
  go_wp2_with fail
  refine (toSetting_any _ _ _ _).mono ?_
  rintro e w' ⟨rfl, xTA, rfl⟩
  go_wp2_with fail
  refine (HS.out _).mono ?_
  rintro e w' ⟨rfl, xW, rfl⟩
  go_wp2_with fail
  refine (toSetting_any _ _ _ _).mono ?_
  rintro e w' ⟨rfl, xTX, rfl⟩
  go_wp2_with fail
  refine (HI.out _).mono ?_
  rintro e w' ⟨rfl, xG, rfl⟩
  go_wp2_with fail
  go_ret
  exact ⟨rfl, (by repeat (first | exact Below.refl _ _ | refine below_plus ?_ (by first | omega | (simp <;> omega)) _ | refine Below.alloc ?_ (by first | omega | (simp <;> omega)) _ | refine below_patch ?_ (by omega) _ | refine Below.drew ?_))⟩

theorem lawTrimDict_long1 (o l m : Int) (s1 : ByteArray) (w : World) (hb : 1048576 < s1.size) (hm : ∀ x, x ∈ [s1] → x.size ≤ maxLen) :
    Calls Try.prog 9 #[.agg #[.int .i64 o, .int .i64 l, .int .i64 m], .string s1] w fun e w' => e = .returned (.bool true) ∧ Below w.heap.size w w' := by
  have hm1 := hm s1 (by simp)
  unfold maxLen at hm1
  all_goals
    go_enter Try.func9, Try.ntmps9
    go_wp2
    go_ret
    exact ⟨rfl, (by repeat (first | exact Below.refl _ _ | refine below_plus ?_ (by first | omega | (simp <;> omega)) _ | refine Below.alloc ?_ (by first | omega | (simp <;> omega)) _ | refine below_patch ?_ (by omega) _ | refine Below.drew ?_))⟩

theorem lawTrimDict_sizes (o l m : Int) (s1 : ByteArray) (w : World) (r1 : ByteArray) (r2 : Bool) (hm1 : s1.size ≤ maxLen) (hS : ∀ (W : World), Calls Try.prog 40 #[.agg #[.int .i64 o, .int .i64 l, .int .i64 m], .string s1] W (Ret W (.tuple #[.string r1, .bool r2]))) (hI : ∀ (W : World), Calls Try.prog 42 #[.agg #[.int .i64 o, .int .i64 l, .int .i64 m], .string s1] W (Ret W (.tuple #[.string r1, .bool r2]))) :
    Calls Try.prog 9 #[.agg #[.int .i64 o, .int .i64 l, .int .i64 m], .string s1] w fun e w' => e = .returned (.bool true) ∧ Below w.heap.size w w' := by
  have hm : ∀ x, x ∈ [s1] → x.size ≤ maxLen := by intro x hx; simp at hx; rw [hx]; exact hm1
  by_cases bs1 : s1.size ≤ 1048576
  case neg => exact lawTrimDict_long1 o l m s1 w (by omega) hm
  exact lawTrimDict_fit o l m s1 w r1 r2 bs1 hS hI

end Go.Proofs.Ytbedikodiboofaa
