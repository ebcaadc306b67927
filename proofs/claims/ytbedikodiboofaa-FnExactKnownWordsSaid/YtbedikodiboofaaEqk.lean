/- Walks: looks at marks; comparisons and marks of what is known, of writers and readers. -/
import Derived.Test.YtbedikodiboofaaEqs
namespace Go.Proofs.Ytbedikodiboofaa
open Go.RowKit
set_option linter.unusedVariables false
set_option linter.unusedSimpArgs false

set_option maxHeartbeats 800000 in
theorem heldPairS_yes (a : Option Addr) (cap n : Nat) (k : Int) (w : World) (hr : RdP w a cap (marks k n)) (hn2 : n ≤ 2000000) (hk0 : 0 ≤ k) (hk1 : k ≤ 4000000000) :
    Calls Try.prog 86 #[.slice a n cap, .int .i64 k] w (Ret w (.int .i64 (k + 2 * n))) := by
  obtain ⟨r1, r2, r3⟩ := hr.open
  rw [marks_len] at r1
  go_enter Try.func86, Try.ntmps86
  go_wp2
  go_loopw [1, 5] (fun q i wr => ∃ (j : Nat), j ≤ n ∧ i = .int .i64 j ∧ q = .int .i64 (k + 2 * j) ∧ wr = w) (fun _ i _ => n - (intOf i).toNat)
  case atStart => exact ⟨0, Nat.zero_le _, rfl, by simp, rfl⟩
  case round =>
    obtain ⟨j, hj, rfl, rfl, rfl⟩ := hrel
    rcases dec (j < n) with ⟨hlt, blt⟩ | ⟨hlt, blt⟩
    · rcases r3 with rfl | ⟨b, off, rfl, hb, hc⟩
      · exact absurd hlt (by omega)
      obtain ⟨c1, c2⟩ := hc j _ (marks_get k n j hlt)
      have k1 : (j : Int) < (n : Int) := by omega
      have e1 : (k + 2 * (j : Int) != k + 2 * (j : Int)) = false := by simp
      have e2 : (k + 2 * (j : Int) + 1 != k + 2 * (j : Int) + 1) = false := by simp
      clear hc hr
      go_wp2
      go_roundw
      case rel => exact ⟨j + 1, by omega, by go_num, int_val (by omega), by first | rfl | trivial⟩
      case measure => simp [intOf]; omega
    · have : j = n := by omega
      subst this
      clear hr
      go_wp2
      go_ret
      exact Ret.mk (by repeat (first | exact More.refl _ | apply More.plus | apply More.alloc | apply More.drew | apply More.drewN))

theorem markKnown_nil (o l m : Int) (a : Option Addr) (cap : Nat) (base last : Int) (k : Int) (w : World) :
    Calls Try.prog 21 #[.agg #[.int .i64 o, .int .i64 l, .int .i64 m, .slice a 0 cap, .int .i64 base, .int .i64 last], .int .i64 k] w (Ret w (.int .i64 k)) := by
  go_enter Try.func21, Try.ntmps21
  go_wp2_with (go_at_call 66; refine (markPairS_nil _ _ _ _).mono ?_; rintro e w' ⟨rfl, xc, rfl⟩)
  go_ret
  exact Ret.mk (by repeat (first | exact More.refl _ | apply More.plus | apply More.alloc | apply More.drew | apply More.drewN))

theorem heldKnown_yes (o l m : Int) (a : Option Addr) (cap n : Nat) (base last : Int) (k : Int) (w : World) (hr : RdP w a cap (marks k n)) (hn2 : n ≤ 2000000) (hk0 : 0 ≤ k) (hk1 : k ≤ 4000000000) :
    Calls Try.prog 55 #[.agg #[.int .i64 o, .int .i64 l, .int .i64 m, .slice a n cap, .int .i64 base, .int .i64 last], .int .i64 k] w (Ret w (.int .i64 (k + 2 * n))) := by
  have q : decide (k + 2 * (n : Int) < 0) = false := by simp; omega
  go_enter Try.func55, Try.ntmps55
  go_wp2_with (go_at_call 86; refine (heldPairS_yes _ _ _ _ _ (by repeat (first | exact hr | apply rd_seq | apply Rd.plus | apply Rd.alloc | apply Rd.drew | apply Rd.drewN | refine rd_patch ?_ _ _ (by intro A hA; first | (cases hA; show _ ≠ _; omega) | (have := hal A hA; omega)))) hn2 hk0 hk1).mono ?_; rintro e w' ⟨rfl, xc, rfl⟩)
  go_ret
  exact Ret.mk (by repeat (first | exact More.refl _ | apply More.plus | apply More.alloc | apply More.drew | apply More.drewN))

set_option maxHeartbeats 800000 in
theorem eqKnown_any (o l m : Int) (a : Option Addr) (cap : Nat) (ps : List Pr) (base last : Int) (o' l' m' : Int) (a' : Option Addr) (cap' : Nat) (qs : List Pr) (base' last' : Int) (w : World) (hr : RdP w a cap ps) (hr' : RdP w a' cap' qs) :
    Calls Try.prog 20 #[.agg #[.int .i64 o, .int .i64 l, .int .i64 m, .slice a ps.length cap, .int .i64 base, .int .i64 last], .agg #[.int .i64 o', .int .i64 l', .int .i64 m', .slice a' qs.length cap', .int .i64 base', .int .i64 last']] w
      (Ret w (.bool (decide ((o = o' ∧ l = l' ∧ m = m') ∧ ps = qs ∧ base = base' ∧ last = last')))) := by
  cases h1 : decide (o = o' ∧ l = l' ∧ m = m') <;> cases h2 : decide (ps = qs) <;> by_cases h3 : base = base' <;> by_cases h4 : last = last'
  all_goals
    have b3 : (base != base') = !decide (base = base') := rfl
    have b4 : (last != last') = !decide (last = last') := rfl
    simp only [h3, h4, decide_true, decide_false, Bool.not_true, Bool.not_false] at b3 b4
    have H1 := Lib.hid h1
    have H2 := Lib.hid h2
    go_enter Try.func20, Try.ntmps20
    go_wp2_with (first | (go_at_call 64; refine (eqSetting_any _ _ _ _ _ _ _).mono ?_; rintro e w' ⟨rfl, xc, rfl⟩) | (go_at_call 65; refine (eqPairS_any _ _ _ _ _ _ _ (by repeat (first | exact hr | apply rd_seq | apply Rd.plus | apply Rd.alloc | apply Rd.drew | apply Rd.drewN | refine rd_patch ?_ _ _ (by intro A hA; first | (cases hA; show _ ≠ _; omega) | (have := hal A hA; omega)))) (by repeat (first | exact hr' | apply rd_seq | apply Rd.plus | apply Rd.alloc | apply Rd.drew | apply Rd.drewN | refine rd_patch ?_ _ _ (by intro A hA; first | (cases hA; show _ ≠ _; omega) | (have := hal A hA; omega))))).mono ?_; rintro e w' ⟨rfl, xc, rfl⟩))
    go_ret
    exact ret_of (bool_ret (by have := H1.out; have := H2.out; simp_all)) (by repeat (first | exact More.refl _ | apply More.plus | apply More.alloc | apply More.drew | apply More.drewN))

end Go.Proofs.Ytbedikodiboofaa
