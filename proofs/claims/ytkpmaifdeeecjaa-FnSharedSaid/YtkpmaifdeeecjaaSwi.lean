/- The walks of Start and StartWith, of the program and of the reference. -/
import Derived.Test.YtkpmaifdeeecjaaLkn
namespace Go.Proofs.Ytkpmaifdeeecjaa
open Go.RowKit
set_option linter.unusedVariables false
set_option linter.unusedSimpArgs false

theorem kv_start {o l m : Int} (hs : sv o l m = true) : KV o l m [] 0 (-1) := by
  obtain ⟨_, h2, h3, h4, h5⟩ := sv_iff.1 hs
  have h6 := two_four h2 h4 h5
  obtain ⟨h7, h8⟩ := two_lit h2 h3
  exact ⟨hs, by simp; omega, fun j p h => by simp at h, by omega, by simp, .inl ⟨rfl, by simp⟩⟩

theorem specStart_yes (o l m : Int) (w : World) (hs : sv o l m = true) :
    Calls Try.prog 26 #[.agg #[.int .i64 o, .int .i64 l, .int .i64 m]] w (Ret w (.tuple #[.agg #[.int .i64 o, .int .i64 l, .int .i64 m, .slice none 0 0, .int .i64 0, .int .i64 (-1)], .bool true])) := by
  go_enter Try.func26, Try.ntmps26
  go_wp2_with (go_at_call 32; refine (specSettingValid_any _ _ _ _).mono ?_; rintro e w' ⟨rfl, xc, rfl⟩)
  exact bodyPost_ret (v := .tuple #[.agg #[.int .i64 o, .int .i64 l, .int .i64 m, .slice none 0 0, .int .i64 0, .int .i64 (-1)], .bool true]) (by simp [results, Try.results26, go_sem, ↓IntWalk.iteOmega]) rfl (Ret.mk (by repeat (first | exact More.refl _ | apply More.plus | apply More.alloc | apply More.drew | apply More.drewN)))

theorem specStart_no (o l m : Int) (w : World) (hs : sv o l m = false) :
    Calls Try.prog 26 #[.agg #[.int .i64 o, .int .i64 l, .int .i64 m]] w (Ret w (.tuple #[.agg #[.int .i64 0, .int .i64 0, .int .i64 0, .slice none 0 0, .int .i64 0, .int .i64 0], .bool false])) := by
  go_enter Try.func26, Try.ntmps26
  go_wp2_with (go_at_call 32; refine (specSettingValid_any _ _ _ _).mono ?_; rintro e w' ⟨rfl, xc, rfl⟩)
  exact bodyPost_ret (v := .tuple #[.agg #[.int .i64 0, .int .i64 0, .int .i64 0, .slice none 0 0, .int .i64 0, .int .i64 0], .bool false]) (by simp [results, Try.results26, go_sem, ↓IntWalk.iteOmega]) rfl (Ret.mk (by repeat (first | exact More.refl _ | apply More.plus | apply More.alloc | apply More.drew | apply More.drewN)))

theorem specStartWith_nos (o l m : Int) (s : ByteArray) (w : World) (hs : sv o l m = false) :
    Calls Try.prog 13 #[.agg #[.int .i64 o, .int .i64 l, .int .i64 m], .string s] w (RetO w (fun a0 c0 => .tuple #[.agg #[.int .i64 0, .int .i64 0, .int .i64 0, .slice a0 ([] : List Pr).length c0, .int .i64 0, .int .i64 0], .bool false]) []) := by
  go_enter Try.func13, Try.ntmps13
  go_wp2_with (go_at_call 26; refine (specStart_no _ _ _ _ hs).mono ?_; rintro e w' ⟨rfl, xc, rfl⟩)
  exact bodyPost_ret (v := .tuple #[.agg #[.int .i64 0, .int .i64 0, .int .i64 0, .slice none 0 0, .int .i64 0, .int .i64 0], .bool false]) (by simp [results, Try.results13, go_sem, ↓IntWalk.iteOmega]) rfl ⟨none, 0, rfl, .inl ⟨rfl, rfl, rfl⟩, (by repeat (first | exact More.refl _ | apply More.plus | apply More.alloc | apply More.drew | apply More.drewN))⟩

theorem specStartWith_of (o l m : Int) (s : ByteArray) (w : World) (hs : sv o l m = true) (O L M B LA : Int) (t : Bool) (qs : List Pr)
    (h : ∀ (W : World), Calls Try.prog 27 #[.agg #[.int .i64 o, .int .i64 l, .int .i64 m, .slice none 0 0, .int .i64 0, .int .i64 (-1)], .string s] W (RetO W (fun a0 c0 => .tuple #[.agg #[.int .i64 O, .int .i64 L, .int .i64 M, .slice a0 qs.length c0, .int .i64 B, .int .i64 LA], .bool t]) qs)) :
    Calls Try.prog 13 #[.agg #[.int .i64 o, .int .i64 l, .int .i64 m], .string s] w (RetO w (fun a0 c0 => .tuple #[.agg #[.int .i64 O, .int .i64 L, .int .i64 M, .slice a0 qs.length c0, .int .i64 B, .int .i64 LA], .bool t]) qs) := by
  have HH := Lib.hid h
  clear h
  go_enter Try.func13, Try.ntmps13
  go_wp2_with (first | (go_at_call 26; refine (specStart_yes _ _ _ _ hs).mono ?_; rintro e w' ⟨rfl, xc, rfl⟩) | fail)
  refine (HH.out _).mono ?_
  rintro e w' ⟨pa, pc, rfl, hown, x2, rfl⟩
  try simp only [plus_plus] at hown
  have HO := Lib.hid hown
  clear hown
  go_wp2_with fail
  exact bodyPost_ret (v := .tuple #[.agg #[.int .i64 O, .int .i64 L, .int .i64 M, .slice pa qs.length pc, .int .i64 B, .int .i64 LA], .bool t]) (by simp [results, Try.results13, go_sem, ↓IntWalk.iteOmega]) rfl ⟨pa, pc, rfl, ((own_swap HO.out (by simp <;> omega) (by simp <;> omega)).lower (by simp <;> omega)), (by repeat (first | exact More.refl _ | apply More.plus | apply More.alloc | apply More.drew | apply More.drewN))⟩

end Go.Proofs.Ytkpmaifdeeecjaa
