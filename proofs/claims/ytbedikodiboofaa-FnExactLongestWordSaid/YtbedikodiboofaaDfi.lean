/- The walks of DataFits and LongestWord, of the program and of the reference. -/
import Derived.Test.YtbedikodiboofaaSlo
namespace Go.Proofs.Ytbedikodiboofaa
open Go.RowKit
set_option linter.unusedVariables false
set_option linter.unusedSimpArgs false

def isLit (l : Int) (x : UInt8) : Bool := decide ((x.toNat : Int) < two l)

/-- all bytes are literals -/
def litB (l : Int) (s : ByteArray) : Bool := s.data.toList.all (isLit l)

/-- data that fits a setting -/
def dfB (o l m : Int) (s : ByteArray) : Bool := sv o l m && (decide ((s.size : Int) ≤ 2000) && litB l s)

theorem all_snoc {s : ByteArray} {k : Nat} (p : UInt8 → Bool) (h : k < s.size) : (s.data.toList.take (k + 1)).all p = ((s.data.toList.take k).all p && p s[k]) := by
  rw [take_one_snoc (by rw [bytes_len]; exact h), bytes_get h]
  simp

theorem all_bad {s : ByteArray} {k : Nat} (p : UInt8 → Bool) (h : k < s.size) (hb : p s[k] = false) : s.data.toList.all p = false := by
  rw [Bool.eq_false_iff]
  intro he
  rw [List.all_eq_true] at he
  have := he s[k] (by rw [← bytes_get h]; exact List.getElem_mem _)
  rw [hb] at this
  cases this

set_option maxHeartbeats 1000000 in
theorem l1Fits_any (o l m : Int) (s : ByteArray) (w : World) (hs : sv o l m = true) (hs2 : s.size ≤ maxLen) : Calls Try.prog 103 #[.agg #[.int .i64 o, .int .i64 l, .int .i64 m], .string s] w (Ret w (.bool (litB l s))) := by
  unfold maxLen at hs2
  obtain ⟨_, l1, l2, _, _⟩ := sv_iff.1 hs
  obtain ⟨t1, t2⟩ := two_lit l1 l2
  have la : 0 ≤ l := by omega
  have lb : l ≤ 10 := by omega
  go_enter Try.func103, Try.ntmps103
  go_wp2
  go_loopw [5] (fun i wr => ∃ k : Nat, k ≤ s.size ∧ i = .int .i64 k ∧ (s.data.toList.take k).all (isLit l) = true ∧ ∃ x, wr = plus (w.alloc (.cells #[.int .i64 o, .int .i64 l, .int .i64 m] 28)) x) (fun i _ => s.size - (intOf i).toNat)
  case atStart => exact ⟨0, Nat.zero_le _, rfl, by simp, (by repeat (first | exact More.refl _ | apply More.plus | apply More.alloc | apply More.drew | apply More.drewN))⟩
  case round =>
    obtain ⟨k, hk, rfl, hall, x, rfl⟩ := hrel
    by_cases hlt : k < s.size
    · have hb := s[k].toNat_lt
      cases hc : isLit l s[k]
      · have HN := Lib.hid (all_bad (isLit l) hlt hc)
        have v1 : decide (two l ≤ (s[k].toNat : Int)) = true := by unfold isLit at hc; simp at hc; simp; omega
        clear hall hc
        go_wp2
        (refine wp_region_calm (by kernel_rfl) (by kernel_rfl) ?_
         repeat (first | go_big_quiet_skip | (go_big_quiet_want; go_big_quiet_op; first | go_big_quiet_on | (apply Exists.intro; refine ⟨fun _ => ?_, ?_⟩; (focus ((first | (go_at_call 92; first | refine calm_of (l1Clear_any _ _ _ la lb _) | refine calm_seq (l1Clear_any _ _ _ la lb _))))); go_big_quiet_on)))
         refine wpQuiet_nil ?_
         intro _ hw'
         obtain ⟨xq, hw''⟩ := hw'
         subst hw'')
        go_wp2
        go_ret
        exact ret_of (bool_ret HN.out.symm) (by repeat (first | exact More.refl _ | apply More.plus | apply More.alloc | apply More.drew | apply More.drewN))
      · have HS := Lib.hid (show (s.data.toList.take (k + 1)).all (isLit l) = true by rw [all_snoc _ hlt, hall, hc]; rfl)
        have v1 : decide (two l ≤ (s[k].toNat : Int)) = false := by unfold isLit at hc; simp at hc; simp; omega
        clear hall hc
        go_wp2
        (refine wp_region_calm (by kernel_rfl) (by kernel_rfl) ?_
         repeat (first | go_big_quiet_skip | (go_big_quiet_want; go_big_quiet_op; first | go_big_quiet_on | (apply Exists.intro; refine ⟨fun _ => ?_, ?_⟩; (focus ((first | (go_at_call 92; first | refine calm_of (l1Clear_any _ _ _ la lb _) | refine calm_seq (l1Clear_any _ _ _ la lb _))))); go_big_quiet_on)))
         refine wpQuiet_nil ?_
         intro _ hw'
         obtain ⟨xq, hw''⟩ := hw'
         subst hw'')
        go_wp2
        go_roundw
        case rel => exact ⟨k + 1, by omega, by go_num, HS.out, (by repeat (first | exact More.refl _ | apply More.plus | apply More.alloc | apply More.drew | apply More.drewN))⟩
        case measure => simp [intOf]; omega
    · have HS := Lib.hid (show litB l s = true by
        rw [List.take_of_length_le (by rw [bytes_len]; omega)] at hall
        exact hall)
      clear hall
      go_wp2
      go_ret
      exact ret_of (bool_ret HS.out.symm) (by repeat (first | exact More.refl _ | apply More.plus | apply More.alloc | apply More.drew | apply More.drewN))

theorem dfB_no {o l m : Int} {s : ByteArray} (h : sv o l m = false) : dfB o l m s = false := by unfold dfB; rw [h]; rfl

theorem dfB_long {o l m : Int} {s : ByteArray} (h : ¬ (s.size : Int) ≤ 2000) : dfB o l m s = false := by
  unfold dfB
  rw [decide_eq_false h]
  simp

theorem dfB_lit {o l m : Int} {s : ByteArray} (h : sv o l m = true) (h2 : (s.size : Int) ≤ 2000) : dfB o l m s = litB l s := by
  unfold dfB
  rw [decide_eq_true h2, h]
  simp

theorem specDataFits_any (o l m : Int) (s : ByteArray) (w : World) (hs2 : s.size ≤ maxLen) : Calls Try.prog 74 #[.agg #[.int .i64 o, .int .i64 l, .int .i64 m], .string s] w (Ret w (.bool (dfB o l m s))) := by
  have HM := Lib.hid hs2
  unfold maxLen at hs2
  cases hs : sv o l m
  · rw [dfB_no hs]
    go_enter Try.func74, Try.ntmps74
    go_wp2_with (go_at_call 88; refine (specSettingValid_any _ _ _ _).mono ?_; rintro e w' ⟨rfl, xc, rfl⟩)
    go_ret
    exact Ret.mk (by repeat (first | exact More.refl _ | apply More.plus | apply More.alloc | apply More.drew | apply More.drewN))
  · rcases dec ((s.size : Int) ≤ 2000) with ⟨h1, v1⟩ | ⟨h1, v1⟩
    · rw [dfB_lit hs h1]
      go_enter Try.func74, Try.ntmps74
      go_wp2_with (first | (go_at_call 88; refine (specSettingValid_any _ _ _ _).mono ?_; rintro e w' ⟨rfl, xc, rfl⟩) | (go_at_call 103; refine (l1Fits_any _ _ _ _ _ hs HM.out).mono ?_; rintro e w' ⟨rfl, xc, rfl⟩))
      go_ret
      exact Ret.mk (by repeat (first | exact More.refl _ | apply More.plus | apply More.alloc | apply More.drew | apply More.drewN))
    · rw [dfB_long h1]
      go_enter Try.func74, Try.ntmps74
      go_wp2_with (go_at_call 88; refine (specSettingValid_any _ _ _ _).mono ?_; rintro e w' ⟨rfl, xc, rfl⟩)
      go_ret
      exact Ret.mk (by repeat (first | exact More.refl _ | apply More.plus | apply More.alloc | apply More.drew | apply More.drewN))

set_option maxHeartbeats 1000000 in
theorem DataFits_any (o l m : Int) (s : ByteArray) (w : World) (hs2 : s.size ≤ maxLen) : Calls Try.prog 76 #[.agg #[.int .i64 o, .int .i64 l, .int .i64 m], .string s] w (Ret w (.bool (dfB o l m s))) := by
  unfold maxLen at hs2
  cases hs : sv o l m
  · rw [dfB_no hs]
    go_enter Try.func76, Try.ntmps76
    go_wp2_with (go_at_call 94; refine (SettingValid_any _ _ _ _).mono ?_; rintro e w' ⟨rfl, xc, rfl⟩)
    go_ret
    exact Ret.mk (by repeat (first | exact More.refl _ | apply More.plus | apply More.alloc | apply More.drew | apply More.drewN))
  · rcases dec (2000 < (s.size : Int)) with ⟨h1, v1⟩ | ⟨h1, v1⟩
    · rw [dfB_long (by omega)]
      go_enter Try.func76, Try.ntmps76
      go_wp2_with (go_at_call 94; refine (SettingValid_any _ _ _ _).mono ?_; rintro e w' ⟨rfl, xc, rfl⟩)
      go_ret
      exact Ret.mk (by repeat (first | exact More.refl _ | apply More.plus | apply More.alloc | apply More.drew | apply More.drewN))
    · rw [dfB_lit hs (by omega)]
      obtain ⟨_, l1, l2, _, _⟩ := sv_iff.1 hs
      obtain ⟨t1, t2⟩ := two_lit l1 l2
      have l0 : 0 ≤ l := by omega
      have ht2 := two_wrap l0 (by omega : l ≤ 10)
      go_enter Try.func76, Try.ntmps76
      go_wp2_with (go_at_call 94; refine (SettingValid_any _ _ _ _).mono ?_; rintro e w' ⟨rfl, xc, rfl⟩)
      go_loopw [16] (fun i wr => ∃ k : Nat, k ≤ s.size ∧ i = .int .i64 k ∧ (s.data.toList.take k).all (isLit l) = true ∧ ∃ x, wr = plus (w.alloc (.cells #[.int .i64 o, .int .i64 l, .int .i64 m] 28)) x) (fun i _ => s.size - (intOf i).toNat)
      case atStart => exact ⟨0, Nat.zero_le _, rfl, by simp, (by repeat (first | exact More.refl _ | apply More.plus | apply More.alloc | apply More.drew | apply More.drewN))⟩
      case round =>
        obtain ⟨k, hk, rfl, hall, x, rfl⟩ := hrel
        by_cases hlt : k < s.size
        · have hb := s[k].toNat_lt
          cases hc : isLit l s[k]
          · have HN := Lib.hid (all_bad (isLit l) hlt hc)
            have v1 : decide (two l ≤ (s[k].toNat : Int)) = true := by unfold isLit at hc; simp at hc; simp; omega
            clear hall hc
            go_wp2
            (refine wp_region_calm (by kernel_rfl) (by kernel_rfl) ?_
             repeat (first | go_big_quiet_skip | (go_big_quiet_want; go_big_quiet_op; first | go_big_quiet_on | (apply Exists.intro; refine ⟨fun _ => ?_, ?_⟩; (focus (fail)); go_big_quiet_on)))
             refine wpQuiet_nil ?_
             intro _ hw'
             obtain ⟨xq, hw''⟩ := hw'
             subst hw'')
            go_wp2
            go_ret
            exact ret_of (bool_ret HN.out.symm) (by repeat (first | exact More.refl _ | apply More.plus | apply More.alloc | apply More.drew | apply More.drewN))
          · have HS := Lib.hid (show (s.data.toList.take (k + 1)).all (isLit l) = true by rw [all_snoc _ hlt, hall, hc]; rfl)
            have v1 : decide (two l ≤ (s[k].toNat : Int)) = false := by unfold isLit at hc; simp at hc; simp; omega
            clear hall hc
            go_wp2
            (refine wp_region_calm (by kernel_rfl) (by kernel_rfl) ?_
             repeat (first | go_big_quiet_skip | (go_big_quiet_want; go_big_quiet_op; first | go_big_quiet_on | (apply Exists.intro; refine ⟨fun _ => ?_, ?_⟩; (focus (fail)); go_big_quiet_on)))
             refine wpQuiet_nil ?_
             intro _ hw'
             obtain ⟨xq, hw''⟩ := hw'
             subst hw'')
            go_wp2
            go_roundw
            case rel => exact ⟨k + 1, by omega, by go_num, HS.out, (by repeat (first | exact More.refl _ | apply More.plus | apply More.alloc | apply More.drew | apply More.drewN))⟩
            case measure => simp [intOf]; omega
        · have HS := Lib.hid (show litB l s = true by
            rw [List.take_of_length_le (by rw [bytes_len]; omega)] at hall
            exact hall)
          clear hall
          go_wp2
          go_ret
          exact ret_of (bool_ret HS.out.symm) (by repeat (first | exact More.refl _ | apply More.plus | apply More.alloc | apply More.drew | apply More.drewN))

theorem dfB_first {o l m : Int} {s : ByteArray} (h : dfB o l m s = true) (hz : 0 < s.size) : (s[0].toNat : Int) < two l := by
  unfold dfB litB at h
  simp only [Bool.and_eq_true, List.all_eq_true] at h
  have := h.2.2 s[0] (by rw [← bytes_get hz]; exact List.getElem_mem _)
  simpa [isLit] using this

end Go.Proofs.Ytbedikodiboofaa
