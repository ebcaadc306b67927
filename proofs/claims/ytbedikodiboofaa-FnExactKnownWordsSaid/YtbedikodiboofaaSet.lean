/- The walks of the functions on settings: valid exactly as sv says; the codes of a valid setting. -/
import Derived.Test.YtbedikodiboofaaBase
namespace Go.Proofs.Ytbedikodiboofaa
open Go.RowKit
set_option linter.unusedVariables false
set_option linter.unusedSimpArgs false

theorem orderValid_any (o : Int) (w : World) : Calls Try.prog 116 #[.int .i64 o] w (Ret w (.bool (ov o))) := by
  by_cases h0 : o = 0 <;> by_cases h1 : o = 1
  all_goals
    have a0 : (o == 0) = decide (o = 0) := rfl
    have a1 : (o == 1) = decide (o = 1) := rfl
    simp only [h0, h1, decide_true, decide_false] at a0 a1
    go_enter Try.func116, Try.ntmps116
    go_wp2
    go_ret
    exact ret_of (by simp [ov]; omega) (by repeat (first | exact More.refl _ | apply More.plus | apply More.alloc | apply More.drew | apply More.drewN))

theorem l1Order_any (o : Int) (w : World) : Calls Try.prog 114 #[.int .i64 o] w (Ret w (.bool (ov o))) := by
  by_cases h0 : o = 0 <;> by_cases h1 : o = 1
  all_goals
    have a0 : (o == 0) = decide (o = 0) := rfl
    have a1 : (o == 1) = decide (o = 1) := rfl
    simp only [h0, h1, decide_true, decide_false] at a0 a1
    go_enter Try.func114, Try.ntmps114
    go_wp2
    go_ret
    exact ret_of (by simp [ov]; omega) (by repeat (first | exact More.refl _ | apply More.plus | apply More.alloc | apply More.drew | apply More.drewN))

theorem l1In_any (n a b : Int) (w : World) : Calls Try.prog 81 #[.int .i64 n, .int .i64 a, .int .i64 b] w (Ret w (.bool (inB a n b))) := by
  by_cases h0 : a ≤ n <;> by_cases h1 : n ≤ b
  all_goals
    go_enter Try.func81, Try.ntmps81
    go_wp2
    go_ret
    exact ret_of (by simp [inB]; omega) (by repeat (first | exact More.refl _ | apply More.plus | apply More.alloc | apply More.drew | apply More.drewN))

set_option maxHeartbeats 1000000 in
theorem SettingValid_any (o l m : Int) (w : World) : Calls Try.prog 94 #[.agg #[.int .i64 o, .int .i64 l, .int .i64 m]] w (Ret w (.bool (sv o l m))) := by
  cases h0 : ov o <;> rcases dec (1 ≤ l) with ⟨h1, b1⟩ | ⟨h1, b1⟩ <;> rcases dec (l ≤ 8) with ⟨h2, b2⟩ | ⟨h2, b2⟩ <;> rcases dec (l + 2 ≤ m) with ⟨h3, b3⟩ | ⟨h3, b3⟩ <;> rcases dec (m ≤ 10) with ⟨h4, b4⟩ | ⟨h4, b4⟩
  all_goals try (exfalso; omega)
  all_goals
    go_enter Try.func94, Try.ntmps94
    go_wp2_with (go_at_call 116; refine (orderValid_any _ _).mono ?_; rintro e w' ⟨rfl, xc, rfl⟩)
    go_ret
    refine ret_of ?_ (by repeat (first | exact More.refl _ | apply More.plus | apply More.alloc | apply More.drew | apply More.drewN))
    simp only [ov_iff, ov_no] at h0
    first | (refine bool_ret (sv_iff.2 ?_).symm; omega) | (refine bool_ret (sv_no.2 ?_).symm; omega)

set_option maxHeartbeats 1000000 in
theorem specSettingValid_any (o l m : Int) (w : World) : Calls Try.prog 88 #[.agg #[.int .i64 o, .int .i64 l, .int .i64 m]] w (Ret w (.bool (sv o l m))) := by
  cases h0 : ov o <;> cases h1 : inB 1 l 8 <;> cases h3 : inB (l + 2) m 10
  all_goals
    go_enter Try.func88, Try.ntmps88
    have h1' : inB 1 l 8 = true → 1 ≤ l ∧ l ≤ 8 := inB_iff.1
    rw [h1] at h1'
    try obtain ⟨h5, h6⟩ := h1' rfl
    clear h1'
    go_wp2_with (first | (go_at_call 114; refine (l1Order_any _ _).mono ?_; rintro e w' ⟨rfl, xc, rfl⟩) | (go_at_call 81; refine (l1In_any _ _ _ _).mono ?_; rintro e w' ⟨rfl, xc, rfl⟩))
    go_ret
    refine ret_of ?_ (by repeat (first | exact More.refl _ | apply More.plus | apply More.alloc | apply More.drew | apply More.drewN))
    simp only [ov_iff, ov_no] at h0
    simp only [inB_iff, inB_no] at h1 h3
    first | (refine bool_ret (sv_iff.2 ?_).symm; omega) | (refine bool_ret (sv_no.2 ?_).symm; omega)

theorem l1Two_any (n : Int) (h0 : 0 ≤ n) (h1 : n ≤ 10) (w : World) : Calls Try.prog 115 #[.int .i64 n] w (Ret w (.int .i64 (two n))) := by
  go_enter Try.func115, Try.ntmps115
  go_wp2
  go_ret
  exact ret_of (int_val (two_wrap h0 h1)) (by repeat (first | exact More.refl _ | apply More.plus | apply More.alloc | apply More.drew | apply More.drewN))

theorem l1Clear_any (o l m : Int) (h0 : 0 ≤ l) (h1 : l ≤ 10) (w : World) : Calls Try.prog 92 #[.agg #[.int .i64 o, .int .i64 l, .int .i64 m]] w (Ret w (.int .i64 (two l))) := by
  go_enter Try.func92, Try.ntmps92
  go_wp2_with (go_at_call 115; refine (l1Two_any _ h0 h1 _).mono ?_; rintro e w' ⟨rfl, xc, rfl⟩)
  go_ret
  exact Ret.mk (by repeat (first | exact More.refl _ | apply More.plus | apply More.alloc | apply More.drew | apply More.drewN))

theorem l1End_any (o l m : Int) (h0 : 0 ≤ l) (h1 : l ≤ 10) (w : World) : Calls Try.prog 90 #[.agg #[.int .i64 o, .int .i64 l, .int .i64 m]] w (Ret w (.int .i64 (two l + 1))) := by
  obtain ⟨t1, t2⟩ := two_bd h0 h1
  go_enter Try.func90, Try.ntmps90
  go_wp2_with (go_at_call 115; refine (l1Two_any _ h0 h1 _).mono ?_; rintro e w' ⟨rfl, xc, rfl⟩)
  go_ret
  exact Ret.mk (by repeat (first | exact More.refl _ | apply More.plus | apply More.alloc | apply More.drew | apply More.drewN))

theorem l1Last_any (o l m : Int) (h0 : 0 ≤ m) (h1 : m ≤ 10) (w : World) : Calls Try.prog 89 #[.agg #[.int .i64 o, .int .i64 l, .int .i64 m]] w (Ret w (.int .i64 (two m - 1))) := by
  obtain ⟨t1, t2⟩ := two_bd h0 h1
  go_enter Try.func89, Try.ntmps89
  go_wp2_with (go_at_call 115; refine (l1Two_any _ h0 h1 _).mono ?_; rintro e w' ⟨rfl, xc, rfl⟩)
  go_ret
  exact Ret.mk (by repeat (first | exact More.refl _ | apply More.plus | apply More.alloc | apply More.drew | apply More.drewN))

theorem ClearCode_no (o l m : Int) (h : sv o l m = false) (w : World) : Calls Try.prog 97 #[.agg #[.int .i64 o, .int .i64 l, .int .i64 m]] w (Ret w (.int .i64 (-1))) := by
  go_enter Try.func97, Try.ntmps97
  go_wp2_with (go_at_call 94; refine (SettingValid_any _ _ _ _).mono ?_; rintro e w' ⟨rfl, xc, rfl⟩)
  go_ret
  exact Ret.mk (by repeat (first | exact More.refl _ | apply More.plus | apply More.alloc | apply More.drew | apply More.drewN))

theorem ClearCode_yes (o l m : Int) (h : sv o l m = true) (w : World) : Calls Try.prog 97 #[.agg #[.int .i64 o, .int .i64 l, .int .i64 m]] w (Ret w (.int .i64 (two l))) := by
  obtain ⟨h0, h1, h2, h3, h4⟩ := sv_iff.1 h
  go_enter Try.func97, Try.ntmps97
  go_wp2_with (go_at_call 94; refine (SettingValid_any _ _ _ _).mono ?_; rintro e w' ⟨rfl, xc, rfl⟩)
  go_ret
  exact ret_of (int_val (two_wrap (by omega) (by omega))) (by repeat (first | exact More.refl _ | apply More.plus | apply More.alloc | apply More.drew | apply More.drewN))

theorem EndCode_yes (o l m : Int) (h : sv o l m = true) (w : World) : Calls Try.prog 68 #[.agg #[.int .i64 o, .int .i64 l, .int .i64 m]] w (Ret w (.int .i64 (two l + 1))) := by
  obtain ⟨h0, h1, h2, h3, h4⟩ := sv_iff.1 h
  obtain ⟨t1, t2⟩ := two_lit h1 h2
  go_enter Try.func68, Try.ntmps68
  go_wp2_with (go_at_call 94; refine (SettingValid_any _ _ _ _).mono ?_; rintro e w' ⟨rfl, xc, rfl⟩)
  go_ret
  refine ret_of (int_val ?_) (by repeat (first | exact More.refl _ | apply More.plus | apply More.alloc | apply More.drew | apply More.drewN))
  rw [two_wrap (by omega) (by omega)]
  exact wrap64_of (by omega) (by omega)

theorem LastCode_yes (o l m : Int) (h : sv o l m = true) (w : World) : Calls Try.prog 95 #[.agg #[.int .i64 o, .int .i64 l, .int .i64 m]] w (Ret w (.int .i64 (two m - 1))) := by
  obtain ⟨h0, h1, h2, h3, h4⟩ := sv_iff.1 h
  obtain ⟨t1, t2⟩ := two_bd (n := m) (by omega) (by omega)
  go_enter Try.func95, Try.ntmps95
  go_wp2_with (go_at_call 94; refine (SettingValid_any _ _ _ _).mono ?_; rintro e w' ⟨rfl, xc, rfl⟩)
  go_ret
  refine ret_of (int_val ?_) (by repeat (first | exact More.refl _ | apply More.plus | apply More.alloc | apply More.drew | apply More.drewN))
  rw [two_wrap (by omega) (by omega)]
  exact wrap64_of (by omega) (by omega)

set_option maxHeartbeats 1000000 in
theorem hasWord_yes (o l m n c : Int) (h : sv o l m = true) (hn : 0 ≤ n) (hn' : n ≤ 1000000) (w : World) :
    Calls Try.prog 96 #[.agg #[.int .i64 o, .int .i64 l, .int .i64 m], .int .i64 n, .int .i64 c] w (Ret w (.bool (hw l n c))) := by
  obtain ⟨h0, h1, h2, h3, h4⟩ := sv_iff.1 h
  obtain ⟨t1, t2⟩ := two_lit h1 h2
  clear h0
  rcases dec (0 ≤ c) with ⟨a1, b1⟩ | ⟨a1, b1⟩ <;> rcases dec (c < two l) with ⟨a2, b2⟩ | ⟨a2, b2⟩ <;> rcases dec (two l + 1 < c) with ⟨a3, b3⟩ | ⟨a3, b3⟩ <;> rcases dec (c ≤ two l + 1 + n) with ⟨a4, b4⟩ | ⟨a4, b4⟩
  all_goals try (exfalso; omega)
  all_goals
    go_enter Try.func96, Try.ntmps96
    go_wp2_with (first | (go_at_call 68; refine (EndCode_yes _ _ _ h _).mono ?_; rintro e w' ⟨rfl, xc, rfl⟩) | (go_at_call 97; refine (ClearCode_yes _ _ _ h _).mono ?_; rintro e w' ⟨rfl, xc, rfl⟩))
    go_ret
    refine ret_of ?_ (by repeat (first | exact More.refl _ | apply More.plus | apply More.alloc | apply More.drew | apply More.drewN))
    first | (refine bool_ret (hw_iff.2 ?_).symm; omega) | (refine bool_ret (hw_no.2 ?_).symm; omega)

end Go.Proofs.Ytbedikodiboofaa
