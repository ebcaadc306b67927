/- Numbers, dashes and settings as texts: the program's and the reference's. -/
import Derived.Test.YtmddcbebaijjkaaGreatDoorFdc
import Derived.Test.YtmddcbebaijjkaaGreatDoorShelf
import Derived.Lib.SmallJoins
import Derived.Lib.ItoaMem
namespace Go.Proofs.YtmddcbebaijjkaaGreatDoor
open Go.RowKit
set_option linter.unusedVariables false
set_option linter.unusedSimpArgs false

/-- the table of the powers of ten lies as laid -/
def Tb (W : World) : Prop := Lib.TabIs Tryz.prog W "internal/strconv.uint64pow10" .u64 Lib.pow10Tab

theorem tb_glob : ∃ g, Tryz.prog.globalNamed "internal/strconv.uint64pow10" = some g := Option.isSome_iff_exists.1 (by kernel_rfl)

theorem Tb.lt {W : World} (h : Tb W) : ∀ g, Tryz.prog.globalNamed "internal/strconv.uint64pow10" = some g → g < W.heap.size := by
  intro g hg
  have := Lib.TabIs.cell h hg 0 (by decide)
  exact World.block_lt_of_cell? _ _ this

theorem Tb.below {W W' : World} (h : Tb W) (hb : Below W.heap.size W W') : Tb W' := by
  obtain ⟨g, hg⟩ := tb_glob
  exact Joins.tab_stays hg h hb (Nat.le_refl _)

theorem Tb.plus {W : World} (h : Tb W) (x : Ext) : Tb (plus W x) := h.below (below_plus (Below.refl _ _) (Nat.le_refl _) x)

theorem Tb.alloc {W : World} (h : Tb W) (o : Obj) : Tb (W.alloc o) := h.below (Below.alloc (Below.refl _ _) (Nat.le_refl _) o)

theorem Tb.drew {W : World} (h : Tb W) : Tb W.drew := h.below (Below.drew (Below.refl _ _))

theorem tbq_seq {W : World} {x y : Ext} (h : Tb (Go.Proofs.YtmddcbebaijjkaaGreatDoor.plus (Go.Proofs.YtmddcbebaijjkaaGreatDoor.plus W x) y)) : Tb (Go.Proofs.YtmddcbebaijjkaaGreatDoor.plus W (x.seq y)) := by rwa [plus_plus] at h

theorem Itoa_any (n : Int) (w : World) (h0 : -9223372036854775808 ≤ n) (h1 : n ≤ 9223372036854775807) (ht : Tb w) : Calls Tryz.prog 53 #[.int .i64 n] w (Ret w (.string (decB n))) := by
  refine (Tryz.strconv_Itoa n h0 h1 w ht).mono ?_
  rintro e w' ⟨rfl, k, os, rfl⟩
  exact ⟨rfl, ⟨os, (w.drewN k).drawn⟩, rfl⟩

theorem orD_nil {t : ByteArray} (h : t.size = 0) : orD t = ⟨#[45]⟩ := if_pos h

theorem orD_some {t : ByteArray} (h : t.size ≠ 0) : orD t = t := if_neg h

theorem orDash_any (t : ByteArray) (w : World) : Calls Tryz.prog 52 #[.string t] w (Ret w (.string (orD t))) := by
  by_cases h : t.size = 0
  · have h2 : t = ⟨#[]⟩ := by
      obtain ⟨⟨l⟩⟩ := t
      cases l with
      | nil => rfl
      | cons a r => simp [ByteArray.size] at h
    rw [orD_nil h]
    subst h2
    go_enter Tryz.func52, Tryz.ntmps52
    go_wp2
    go_ret
    exact ret_of rfl (by repeat (first | exact More.refl _ | apply More.plus | apply More.alloc | apply More.drew | apply More.drewN))
  · have h2 : (t.toList == ([] : List UInt8)) = false := by
      obtain ⟨⟨l⟩⟩ := t
      cases l with
      | nil => simp [ByteArray.size] at h
      | cons a r => simp [ByteArray.toList_eq]
    rw [orD_some h]
    go_enter Tryz.func52, Tryz.ntmps52
    go_wp2
    go_ret
    exact ret_of rfl (by repeat (first | exact More.refl _ | apply More.plus | apply More.alloc | apply More.drew | apply More.drewN))

theorem l3Some_any (t : ByteArray) (w : World) : Calls Tryz.prog 55 #[.string t] w (Ret w (.string (orD t))) := by
  by_cases h : t.size = 0
  · have h2 : t = ⟨#[]⟩ := by
      obtain ⟨⟨l⟩⟩ := t
      cases l with
      | nil => rfl
      | cons a r => simp [ByteArray.size] at h
    rw [orD_nil h]
    subst h2
    go_enter Tryz.func55, Tryz.ntmps55
    go_wp2
    go_ret
    exact ret_of rfl (by repeat (first | exact More.refl _ | apply More.plus | apply More.alloc | apply More.drew | apply More.drewN))
  · have h2 : (t.toList == ([] : List UInt8)) = false := by
      obtain ⟨⟨l⟩⟩ := t
      cases l with
      | nil => simp [ByteArray.size] at h
      | cons a r => simp [ByteArray.toList_eq]
    rw [orD_some h]
    go_enter Tryz.func55, Tryz.ntmps55
    go_wp2
    go_ret
    exact ret_of rfl (by repeat (first | exact More.refl _ | apply More.plus | apply More.alloc | apply More.drew | apply More.drewN))

theorem setT_lo (l m : Int) : (⟨#[108, 111, 119, 32]⟩ : ByteArray) ++ decB l ++ (⟨#[32]⟩ : ByteArray) ++ decB m = setT 0 l m := rfl

theorem setT_hi (l m : Int) : (⟨#[104, 105, 103, 104, 32]⟩ : ByteArray) ++ decB l ++ (⟨#[32]⟩ : ByteArray) ++ decB m = setT 1 l m := rfl

/-- a number of few digits -/
def Sml (n : Int) : Prop := -1 ≤ n ∧ n < 100000

theorem Sml.size {n : Int} (h : Sml n) : (decB n).size ≤ 5 := decB_size h.1 h.2

theorem Itoa_sml (n : Int) (w : World) (h : Sml n) (ht : Tb w) : Calls Tryz.prog 53 #[.int .i64 n] w (Ret w (.string (decB n))) := Itoa_any n w (by have := h.1; omega) (by have := h.2; omega) ht

theorem l9Dec_sml (n : Int) (w : World) (h : Sml n) : Calls Tryz.prog 56 #[.int .i64 n] w (Ret w (.string (decB n))) := l9Dec_any n w (by have := h.1; omega) (by have := h.2; omega)

set_option maxRecDepth 100000 in
set_option maxHeartbeats 2000000 in
theorem FormatSetting_any (o l m : Int) (w : World) (hs : sv o l m = true) (ht : Tb w) : Calls Tryz.prog 61 #[.agg #[.int .i64 o, .int .i64 l, .int .i64 m]] w (Ret w (.string (setT o l m))) := by
  obtain ⟨ho, l1, l2, l3, l4⟩ := sv_iff.1 hs
  have HT := Lib.hid (fun y => Tb.plus (Tb.alloc ht (.cells #[.int .i64 o, .int .i64 l, .int .i64 m] 23)) y)
  have hl : Sml l := ⟨by omega, by omega⟩
  have hm : Sml m := ⟨by omega, by omega⟩
  have z1 := hl.size
  have z2 := hm.size
  have HS0 := Lib.hid (setT_lo l m)
  have HS1 := Lib.hid (setT_hi l m)
  clear ht
  rcases ho with rfl | rfl
  · go_enter Tryz.func61, Tryz.ntmps61
    go_wp2_with fail
    refine (SettingValid_any _ _ _ _).mono ?_
    rintro e w' ⟨rfl, x1, rfl⟩
    rw [hs]
    go_wp2_with fail
    (refine wp_region_calm (by kernel_rfl) (by kernel_rfl) ?_
     repeat (first | go_big_quiet_skip | (go_big_quiet_want; go_big_quiet_op; first | go_big_quiet_on | (apply Exists.intro; refine ⟨fun _ => ?_, ?_⟩; (focus ((go_at_call 53; first | refine calm_of (Itoa_sml _ _ (by assumption) (HT.out _)) | refine calm_seq (Itoa_sml _ _ (by assumption) (HT.out _))))); go_big_quiet_on)))
     refine wpQuiet_nil ?_
     intro _ hw'
     obtain ⟨xq, hw''⟩ := hw'
     subst hw'')
    go_wp2
    go_ret
    exact ret_of (by rw [← HS0.out]; rfl) (by repeat (first | exact More.refl _ | apply More.plus | apply More.alloc | apply More.drew | apply More.drewN))
  · go_enter Tryz.func61, Tryz.ntmps61
    go_wp2_with fail
    refine (SettingValid_any _ _ _ _).mono ?_
    rintro e w' ⟨rfl, x1, rfl⟩
    rw [hs]
    go_wp2_with fail
    (refine wp_region_calm (by kernel_rfl) (by kernel_rfl) ?_
     repeat (first | go_big_quiet_skip | (go_big_quiet_want; go_big_quiet_op; first | go_big_quiet_on | (apply Exists.intro; refine ⟨fun _ => ?_, ?_⟩; (focus ((go_at_call 53; first | refine calm_of (Itoa_sml _ _ (by assumption) (HT.out _)) | refine calm_seq (Itoa_sml _ _ (by assumption) (HT.out _))))); go_big_quiet_on)))
     refine wpQuiet_nil ?_
     intro _ hw'
     obtain ⟨xq, hw''⟩ := hw'
     subst hw'')
    go_wp2
    go_ret
    exact ret_of (by rw [← HS1.out]; rfl) (by repeat (first | exact More.refl _ | apply More.plus | apply More.alloc | apply More.drew | apply More.drewN))

set_option maxRecDepth 100000 in
set_option maxHeartbeats 2000000 in
theorem specFormatSetting_any (o l m : Int) (w : World) (hs : sv o l m = true) : Calls Tryz.prog 63 #[.agg #[.int .i64 o, .int .i64 l, .int .i64 m]] w (Ret w (.string (setT o l m))) := by
  obtain ⟨ho, l1, l2, l3, l4⟩ := sv_iff.1 hs
  have hl : Sml l := ⟨by omega, by omega⟩
  have hm : Sml m := ⟨by omega, by omega⟩
  have z1 := hl.size
  have z2 := hm.size
  have HS0 := Lib.hid (setT_lo l m)
  have HS1 := Lib.hid (setT_hi l m)
  rcases ho with rfl | rfl
  · go_enter Tryz.func63, Tryz.ntmps63
    go_wp2_with fail
    refine (specSettingValid_any _ _ _ _).mono ?_
    rintro e w' ⟨rfl, x1, rfl⟩
    rw [hs]
    go_wp2_with fail
    (refine wp_region_calm (by kernel_rfl) (by kernel_rfl) ?_
     repeat (first | go_big_quiet_skip | (go_big_quiet_want; go_big_quiet_op; first | go_big_quiet_on | (apply Exists.intro; refine ⟨fun _ => ?_, ?_⟩; (focus ((go_at_call 56; first | refine calm_of (l9Dec_sml _ _ (by assumption)) | refine calm_seq (l9Dec_sml _ _ (by assumption))))); go_big_quiet_on)))
     refine wpQuiet_nil ?_
     intro _ hw'
     obtain ⟨xq, hw''⟩ := hw'
     subst hw'')
    go_wp2
    go_ret
    exact ret_of (by rw [← HS0.out]; rfl) (by repeat (first | exact More.refl _ | apply More.plus | apply More.alloc | apply More.drew | apply More.drewN))
  · go_enter Tryz.func63, Tryz.ntmps63
    go_wp2_with fail
    refine (specSettingValid_any _ _ _ _).mono ?_
    rintro e w' ⟨rfl, x1, rfl⟩
    rw [hs]
    go_wp2_with fail
    (refine wp_region_calm (by kernel_rfl) (by kernel_rfl) ?_
     repeat (first | go_big_quiet_skip | (go_big_quiet_want; go_big_quiet_op; first | go_big_quiet_on | (apply Exists.intro; refine ⟨fun _ => ?_, ?_⟩; (focus ((go_at_call 56; first | refine calm_of (l9Dec_sml _ _ (by assumption)) | refine calm_seq (l9Dec_sml _ _ (by assumption))))); go_big_quiet_on)))
     refine wpQuiet_nil ?_
     intro _ hw'
     obtain ⟨xq, hw''⟩ := hw'
     subst hw'')
    go_wp2
    go_ret
    exact ret_of (by rw [← HS1.out]; rfl) (by repeat (first | exact More.refl _ | apply More.plus | apply More.alloc | apply More.drew | apply More.drewN))

end Go.Proofs.YtmddcbebaijjkaaGreatDoor
