/- Walks: looks at marks and comparisons in slices of strings. -/
import Derived.Test.YtbedikodiboofaaMtx
namespace Go.Proofs.Ytbedikodiboofaa
open Go.RowKit
set_option linter.unusedVariables false
set_option linter.unusedSimpArgs false

set_option maxRecDepth 100000 in
set_option maxHeartbeats 800000 in
theorem heldStringS_yes (a : Option Addr) (cap n k : Nat) (w : World) (hr : RdS w a cap (smarks k n)) (hn2 : n ≤ 2000000) (hk0 : 1 ≤ k) (hk1 : k ≤ 1000000) :
    Calls Try.prog 33 #[.slice a n cap, .int .i64 k] w (Ret w (.int .i64 ((k + n : Nat) : Int))) := by
  obtain ⟨r1, r2, r3⟩ := hr.open
  rw [smarks_len] at r1
  go_enter Try.func33, Try.ntmps33
  go_wp2
  go_loopw [1, 5] (fun q i wr => ∃ (j : Nat) (x : Ext), j ≤ n ∧ i = .int .i64 j ∧ q = .int .i64 ((k + j : Nat) : Int) ∧ wr = plus w x) (fun _ i _ => n - (intOf i).toNat)
  case atStart => exact ⟨0, _, Nat.zero_le _, rfl, by simp, (plus_self _).symm⟩
  case round =>
    obtain ⟨j, x, hj, rfl, rfl, rfl⟩ := hrel
    rcases dec (j < n) with ⟨hlt, blt⟩ | ⟨hlt, blt⟩
    · rcases r3 with rfl | ⟨b, off, rfl, hb, hc⟩
      · exact absurd hlt (by omega)
      have c1 := hc j _ (smarks_get k n j hlt)
      have k1 : (j : Int) < (n : Int) := by omega
      have k3 : 0 ≤ (j : Int) := by omega
      have hk2 : 1 ≤ k + j := by omega
      have hk3 : k + j ≤ 1000000000 := by omega
      clear hc hr
      go_wp2
      (refine wp_region_calm (by kernel_rfl) (by kernel_rfl) ?_
       repeat (first | go_big_quiet_skip | (go_big_quiet_want; go_big_quiet_op; first | go_big_quiet_on | (apply Exists.intro; refine ⟨fun _ => ?_, ?_⟩; (focus ((first | (go_at_call 69; first | refine calm_of (markText_any (k + j) _ hk2 hk3) | refine calm_seq (markText_any (k + j) _ hk2 hk3))))); go_big_quiet_on)))
       refine wpQuiet_nil ?_
       intro _ hw'
       obtain ⟨xq, hw''⟩ := hw'
       subst hw'')
      go_wp2
      go_roundw
      case rel => exact ⟨j + 1, _, by omega, by go_num, int_val (by omega), by first | rfl | trivial⟩
      case measure => simp [intOf]; omega
    · have : j = n := by omega
      subst this
      clear hr
      go_wp2
      go_ret
      exact ret_of (int_val (by omega)) (by repeat (first | exact More.refl _ | apply More.plus | apply More.alloc | apply More.drew | apply More.drewN))

set_option maxRecDepth 100000 in
set_option maxHeartbeats 800000 in
theorem eqStringS_yes (a a' : Option Addr) (cap cap' : Nat) (ss : List ByteArray) (w : World) (hr : RdS w a cap ss) (hr' : RdS w a' cap' ss) (hn2 : ss.length ≤ 2000000) :
    Calls Try.prog 31 #[.slice a ss.length cap, .slice a' ss.length cap'] w (Ret w (.bool true)) := by
  obtain ⟨r1, r2, r3⟩ := hr.open
  obtain ⟨s1, s2, s3⟩ := hr'.open
  go_enter Try.func31, Try.ntmps31
  go_wp2
  go_loopw [5] (fun i wr => ∃ (k : Nat) (x : Ext), k ≤ ss.length ∧ i = .int .i64 k ∧ wr = plus w x) (fun i _ => ss.length - (intOf i).toNat)
  case atStart => exact ⟨0, _, Nat.zero_le _, rfl, (plus_self _).symm⟩
  case round =>
    obtain ⟨k, x, hk, rfl, rfl⟩ := hrel
    rcases dec (k < ss.length) with ⟨hlt, blt⟩ | ⟨hlt, blt⟩
    · have hex : ∃ s, ss[k]? = some s := ⟨ss[k], List.getElem?_eq_getElem hlt⟩
      obtain ⟨s, hs⟩ := hex
      rcases r3 with rfl | ⟨b, off, rfl, hb, hc⟩
      · exact absurd hlt (by omega)
      rcases s3 with rfl | ⟨b', off', rfl, hb', hc'⟩
      · exact absurd hlt (by omega)
      have c1 := hc k s hs
      have d1 := hc' k s hs
      have k1 : (k : Int) < (ss.length : Int) := by omega
      have k3 : 0 ≤ (k : Int) := by omega
      clear hc hc' hs hr hr'
      go_wp2
      (refine wp_region_calm (by kernel_rfl) (by kernel_rfl) ?_
       repeat (first | go_big_quiet_skip | (go_big_quiet_want; go_big_quiet_op; first | go_big_quiet_on | (apply Exists.intro; refine ⟨fun _ => ?_, ?_⟩; (focus (fail)); go_big_quiet_on)))
       refine wpQuiet_nil ?_
       intro _ hw'
       obtain ⟨xq, hw''⟩ := hw'
       subst hw'')
      go_wp2
      go_roundw
      case rel => exact ⟨k + 1, _, by omega, by go_num, rfl⟩
      case measure => simp [intOf]; omega
    · go_wp2
      go_ret
      exact Ret.mk (by repeat (first | exact More.refl _ | apply More.plus | apply More.alloc | apply More.drew | apply More.drewN))

end Go.Proofs.Ytbedikodiboofaa
