/- soKnown of equal things; After of the clear code. -/
import Derived.Test.YtmddcbebaijjkaaGreatDoorGb2
import Derived.Test.YtmddcbebaijjkaaGreatDoorGy
namespace Go.Proofs.YtmddcbebaijjkaaGreatDoor
open Go.RowKit
set_option linter.unusedVariables false
set_option linter.unusedSimpArgs false

set_option maxRecDepth 100000 in
set_option maxHeartbeats 2000000 in
theorem soKnown_yes (o l m : Int) (a a' : Option Addr) (cap cap' : Nat) (ps : List Pr) (base last : Int) (w : World) (hr : RdP w a cap ps) (hr' : RdP w a' cap' ps) :
    Calls Tryz.prog 26 #[.agg #[.int .i64 o, .int .i64 l, .int .i64 m, .slice a ps.length cap, .int .i64 base, .int .i64 last], .agg #[.int .i64 o, .int .i64 l, .int .i64 m, .slice a' ps.length cap', .int .i64 base, .int .i64 last]] w (Ret w (.bool true)) := by
  obtain ⟨r1, r2, r3⟩ := hr.open
  obtain ⟨s1, s2, s3⟩ := hr'.open
  go_enter Tryz.func26, Tryz.ntmps26
  go_wp2_with fail
  go_loopw [5] (fun i wr => ∃ (k : Nat) (x : Ext), k ≤ ps.length ∧ i = .int .i64 k ∧ wr = plus ((w.alloc (.cells #[.int .i64 o, .int .i64 l, .int .i64 m, .slice a ps.length cap, .int .i64 base, .int .i64 last] 26)).alloc (.cells #[.int .i64 o, .int .i64 l, .int .i64 m, .slice a' ps.length cap', .int .i64 base, .int .i64 last] 26)) x) (fun i _ => ps.length - (intOf i).toNat)
  case atStart => exact ⟨0, _, Nat.zero_le _, rfl, (plus_self _).symm⟩
  case round =>
    obtain ⟨k, x, hk, rfl, rfl⟩ := hrel
    rcases dec (k < ps.length) with ⟨hlt, blt⟩ | ⟨hlt, blt⟩
    · obtain ⟨p, hp⟩ : ∃ p, ps[k]? = some p := ⟨ps[k], List.getElem?_eq_getElem hlt⟩
      rcases r3 with rfl | ⟨b, off, rfl, hb, hc⟩
      · exact absurd hlt (by omega)
      rcases s3 with rfl | ⟨b', off', rfl, hb', hc'⟩
      · exact absurd hlt (by omega)
      obtain ⟨c1, c2⟩ := hc k p hp
      obtain ⟨d1, d2⟩ := hc' k p hp
      clear hc hc' hp
      go_wp2_with fail
      refine wp_region_pu 10 (fun w' => ∃ y, w' = plus _ y) (Plan.quiet 0 (Plan.quiet 1 (Plan.quiet 2 (Plan.quiet 3 (Plan.quiet 4 (Plan.quiet 5 (Plan.quiet 6 (Plan.quiet 7 (Plan.quiet 8 (Plan.quiet 9 (Plan.one 10 Plan.done))))))))))) (by kernel_rfl) (by kernel_rfl) (⟨_, drew_is_plus _⟩) ?_
      refine wpPt_val rfl rfl ?_
      apply Exists.intro
      refine ⟨fun w' hS => ?_, ?_⟩
      focus (obtain ⟨y3, rfl⟩ := hS; simp [go_sem, ↓IntWalk.iteOmega, c1, c2, d1, d2] <;> first | done | exact rfl | (rw [IntWalk.i64_in _ (by omega)]; exact rfl) | trace_state)
      refine wpPt_val rfl rfl ?_
      apply Exists.intro
      refine ⟨fun w' hS => ?_, ?_⟩
      focus (obtain ⟨y3, rfl⟩ := hS; simp [go_sem, ↓IntWalk.iteOmega, c1, c2, d1, d2] <;> first | done | exact rfl | (rw [IntWalk.i64_in _ (by omega)]; exact rfl) | trace_state)
      refine wpPt_val rfl rfl ?_
      apply Exists.intro
      refine ⟨fun w' hS => ?_, ?_⟩
      focus (obtain ⟨y3, rfl⟩ := hS; simp [go_sem, ↓IntWalk.iteOmega, c1, c2, d1, d2] <;> first | done | exact rfl | (rw [IntWalk.i64_in _ (by omega)]; exact rfl) | trace_state)
      refine wpPt_val rfl rfl ?_
      apply Exists.intro
      refine ⟨fun w' hS => ?_, ?_⟩
      focus (obtain ⟨y3, rfl⟩ := hS; simp [go_sem, ↓IntWalk.iteOmega, c1, c2, d1, d2] <;> first | done | exact rfl | (rw [IntWalk.i64_in _ (by omega)]; exact rfl) | trace_state)
      refine wpPt_val rfl rfl ?_
      apply Exists.intro
      refine ⟨fun w' hS => ?_, ?_⟩
      focus (obtain ⟨y3, rfl⟩ := hS; simp [go_sem, ↓IntWalk.iteOmega, c1, c2, d1, d2] <;> first | done | exact rfl | (rw [IntWalk.i64_in _ (by omega)]; exact rfl) | trace_state)
      refine wpPt_val rfl rfl ?_
      apply Exists.intro
      refine ⟨fun w' hS => ?_, ?_⟩
      focus (obtain ⟨y3, rfl⟩ := hS; simp [go_sem, ↓IntWalk.iteOmega, c1, c2, d1, d2] <;> first | done | exact rfl | (rw [IntWalk.i64_in _ (by omega)]; exact rfl) | trace_state)
      refine wpPt_val rfl rfl ?_
      apply Exists.intro
      refine ⟨fun w' hS => ?_, ?_⟩
      focus (obtain ⟨y3, rfl⟩ := hS; simp [go_sem, ↓IntWalk.iteOmega, c1, c2, d1, d2] <;> first | done | exact rfl | (rw [IntWalk.i64_in _ (by omega)]; exact rfl) | trace_state)
      refine wpPt_val rfl rfl ?_
      apply Exists.intro
      refine ⟨fun w' hS => ?_, ?_⟩
      focus (obtain ⟨y3, rfl⟩ := hS; simp [go_sem, ↓IntWalk.iteOmega, c1, c2, d1, d2] <;> first | done | exact rfl | (rw [IntWalk.i64_in _ (by omega)]; exact rfl) | trace_state)
      refine wpPt_val rfl rfl ?_
      apply Exists.intro
      refine ⟨fun w' hS => ?_, ?_⟩
      focus (obtain ⟨y3, rfl⟩ := hS; simp [go_sem, ↓IntWalk.iteOmega, c1, c2, d1, d2] <;> first | done | exact rfl | (rw [IntWalk.i64_in _ (by omega)]; exact rfl) | trace_state)
      refine wpPt_val rfl rfl ?_
      apply Exists.intro
      refine ⟨fun w' hS => ?_, ?_⟩
      focus (obtain ⟨y3, rfl⟩ := hS; simp [go_sem, ↓IntWalk.iteOmega, c1, c2, d1, d2] <;> first | done | exact rfl | (rw [IntWalk.i64_in _ (by omega)]; exact rfl) | trace_state)
      refine wpPt_one rfl rfl (fun K hK => ?_)
      go_simp
      refine hK _ _ (fun hkn => absurd hkn (by decide)) ?_
      clear hK K
      refine NoPanic.normal ?_
      go_wp2_with fail
      go_roundw
      case rel => exact ⟨k + 1, _, by omega, by go_num, rfl⟩
      case measure => simp [intOf]; omega
    · obtain rfl : k = ps.length := by omega
      go_wp2_with fail
      go_ret
      exact Ret.mk (by repeat (first | exact More.refl _ | apply More.plus | apply More.alloc | apply More.drew | apply More.drewN))

end Go.Proofs.YtmddcbebaijjkaaGreatDoor
