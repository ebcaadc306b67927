/- Lemmas and walks, part Gb2. -/
import Derived.Test.YtmddcbebaijjkaaGreatDoorGf
import Derived.Test.YtmddcbebaijjkaaGreatDoorRng

/- The walks of LearnKnown and StartWith, of the program and of the reference. -/
namespace Go.Proofs.YtmddcbebaijjkaaGreatDoor
open Go.RowKit
set_option linter.unusedVariables false
set_option linter.unusedSimpArgs false

end Go.Proofs.YtmddcbebaijjkaaGreatDoor

/- The walks of Start and StartWith, of the program and of the reference. -/
namespace Go.Proofs.YtmddcbebaijjkaaGreatDoor
open Go.RowKit
set_option linter.unusedVariables false
set_option linter.unusedSimpArgs false

theorem kv_start {o l m : Int} (hs : sv o l m = true) : KV o l m [] 0 (-1) := by
  obtain ⟨_, h2, h3, h4, h5⟩ := sv_iff.1 hs
  have h6 := two_four h2 h4 h5
  obtain ⟨h7, h8⟩ := two_lit h2 h3
  exact ⟨hs, by simp; omega, fun j p h => by simp at h, by omega, by simp, .inl ⟨rfl, by simp⟩⟩

theorem specStart_yes (o l m : Int) (w : World) (hs : sv o l m = true) :
    Calls Tryz.prog 110 #[.agg #[.int .i64 o, .int .i64 l, .int .i64 m]] w (Ret w (.tuple #[.agg #[.int .i64 o, .int .i64 l, .int .i64 m, .slice none 0 0, .int .i64 0, .int .i64 (-1)], .bool true])) := by
  go_enter Tryz.func110, Tryz.ntmps110
  go_wp2_with (go_at_call 103; refine (specSettingValid_any _ _ _ _).mono ?_; rintro e w' ⟨rfl, xc, rfl⟩)
  exact bodyPost_ret (v := .tuple #[.agg #[.int .i64 o, .int .i64 l, .int .i64 m, .slice none 0 0, .int .i64 0, .int .i64 (-1)], .bool true]) (by simp [results, Tryz.results110, go_sem, ↓IntWalk.iteOmega]) rfl (Ret.mk (by repeat (first | exact More.refl _ | apply More.plus | apply More.alloc | apply More.drew | apply More.drewN)))

end Go.Proofs.YtmddcbebaijjkaaGreatDoor
