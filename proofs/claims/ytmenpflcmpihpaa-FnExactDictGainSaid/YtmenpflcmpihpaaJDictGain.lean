/- The law of DictGain, for every argument. -/
import Derived.Test.YtmenpflcmpihpaaL5DictGain
import Derived.Test.YtmenpflcmpihpaaCwi
namespace Go.Proofs.Ytmenpflcmpihpaa
open Go.RowKit
set_option linter.unusedVariables false
set_option linter.unusedSimpArgs false

/-- the bytes that a dictionary saves -/
def gainV (y0 y1 : ByteArray) (b0 b1 : Bool) : Int := if b0 = true ∧ b1 = true then (y0.size : Int) - y1.size else 0

set_option maxRecDepth 100000 in
theorem implDictGain_any (o l m : Int) (s1 s2 : ByteArray) (w : World) (y0 y1 : ByteArray) (b0 b1 : Bool) (hy0 : y0.size ≤ 4000) (hy1 : y1.size ≤ 4000)
    (h0 : ∀ W : World, Calls Try.prog 41 #[.agg #[.int .i64 o, .int .i64 l, .int .i64 m], .string ⟨#[]⟩, .string s2] W (Ret W (.tuple #[.string y0, .bool b0])))
    (h1 : ∀ W : World, Calls Try.prog 41 #[.agg #[.int .i64 o, .int .i64 l, .int .i64 m], .string s1, .string s2] W (Ret W (.tuple #[.string y1, .bool b1]))) :
    Calls Try.prog 43 #[.agg #[.int .i64 o, .int .i64 l, .int .i64 m], .string s1, .string s2] w (Ret w (.tuple #[.int .i64 (gainV y0 y1 b0 b1), .bool (b0 && b1)])) := by
  have H0 := Lib.hid h0
  have H1 := Lib.hid h1
  clear h0 h1
  cases b1
  · have HG := Lib.hid (show gainV y0 y1 b0 false = 0 by simp [gainV])
    go_enter Try.func43, Try.ntmps43
    go_wp2_with (go_at_call 41; first | (refine (H1.out _).mono ?_; rintro e w' ⟨rfl, xc, rfl⟩) | (refine (H0.out _).mono ?_; rintro e w' ⟨rfl, xc, rfl⟩))
    go_ret2
    exact ⟨by rw [HG.out]; simp, (show More w _ from (by repeat (first | exact More.refl _ | apply More.plus | apply More.alloc | apply More.drew | apply More.drewN)))⟩
  · cases b0
    · have HG := Lib.hid (show gainV y0 y1 false true = 0 by simp [gainV])
      go_enter Try.func43, Try.ntmps43
      go_wp2_with fail
      refine (H1.out _).mono ?_
      rintro e w' ⟨rfl, x1, rfl⟩
      go_wp2_with fail
      refine (H0.out _).mono ?_
      rintro e w' ⟨rfl, x2, rfl⟩
      go_wp2_with fail
      go_ret2
      exact ⟨by rw [HG.out]; simp, (show More w _ from (by repeat (first | exact More.refl _ | apply More.plus | apply More.alloc | apply More.drew | apply More.drewN)))⟩
    · have HG := Lib.hid (show gainV y0 y1 true true = (y0.size : Int) - y1.size by simp [gainV])
      go_enter Try.func43, Try.ntmps43
      go_wp2_with fail
      refine (H1.out _).mono ?_
      rintro e w' ⟨rfl, x1, rfl⟩
      go_wp2_with fail
      refine (H0.out _).mono ?_
      rintro e w' ⟨rfl, x2, rfl⟩
      go_wp2_with fail
      go_ret2
      exact ⟨by rw [HG.out]; simp, (show More w _ from (by repeat (first | exact More.refl _ | apply More.plus | apply More.alloc | apply More.drew | apply More.drewN)))⟩

set_option maxRecDepth 100000 in
theorem specDictGain_any (o l m : Int) (s1 s2 : ByteArray) (w : World) (y0 y1 : ByteArray) (b0 b1 : Bool) (hy0 : y0.size ≤ 4000) (hy1 : y1.size ≤ 4000)
    (h0 : ∀ W : World, Calls Try.prog 40 #[.agg #[.int .i64 o, .int .i64 l, .int .i64 m], .string ⟨#[]⟩, .string s2] W (Ret W (.tuple #[.string y0, .bool b0])))
    (h1 : ∀ W : World, Calls Try.prog 40 #[.agg #[.int .i64 o, .int .i64 l, .int .i64 m], .string s1, .string s2] W (Ret W (.tuple #[.string y1, .bool b1]))) :
    Calls Try.prog 42 #[.agg #[.int .i64 o, .int .i64 l, .int .i64 m], .string s1, .string s2] w (Ret w (.tuple #[.int .i64 (gainV y0 y1 b0 b1), .bool (b0 && b1)])) := by
  have H0 := Lib.hid h0
  have H1 := Lib.hid h1
  clear h0 h1
  have HG := Lib.hid (show gainV y0 y1 b0 b1 = if b0 = true ∧ b1 = true then (y0.size : Int) - y1.size else 0 from rfl)
  cases b0 <;> cases b1
  all_goals
    go_enter Try.func42, Try.ntmps42
    go_wp2_with fail
    refine (H0.out _).mono ?_
    rintro e w' ⟨rfl, x1, rfl⟩
    go_wp2_with fail
    refine (H1.out _).mono ?_
    rintro e w' ⟨rfl, x2, rfl⟩
    go_wp2_with fail
    go_ret2
    exact ⟨by rw [HG.out]; simp, (show More w _ from (by repeat (first | exact More.refl _ | apply More.plus | apply More.alloc | apply More.drew | apply More.drewN)))⟩

theorem lawDictGain_any (o l m : Int) (s1 s2 : ByteArray) (w : World) (hm1 : s1.size ≤ maxLen) (hm2 : s2.size ≤ maxLen) :
    Calls Try.prog 12 #[.agg #[.int .i64 o, .int .i64 l, .int .i64 m], .string s1, .string s2] w fun e w' => e = .returned (.bool true) ∧ Below w.heap.size w w' := by
  obtain ⟨y1, b1, hy1, hI1, hS1⟩ := cwi_ex o l m s1 s2 hm1 hm2
  obtain ⟨y0, b0, hy0, hI0, hS0⟩ := cwi_ex o l m ⟨#[]⟩ s2 (show (0 : Nat) ≤ maxLen by omega) hm2
  exact lawDictGain_sizes o l m s1 s2 w _ _ hm1 hm2 (fun W => specDictGain_any o l m s1 s2 W y0 y1 b0 b1 hy0 hy1 hS0 hS1) (fun W => implDictGain_any o l m s1 s2 W y0 y1 b0 b1 hy0 hy1 hI0 hI1)

end Go.Proofs.Ytmenpflcmpihpaa
