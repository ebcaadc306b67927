/- Walks: the greatest code, the number of digits, the width of the next code. -/
import Derived.Test.YtbedikodiboofaaWid
import Derived.Test.YtbedikodiboofaaShelf
namespace Go.Proofs.Ytbedikodiboofaa
open Go.RowKit
set_option linter.unusedVariables false
set_option linter.unusedSimpArgs false

set_option maxHeartbeats 800000 in
theorem greatest_any (o l m : Int) (a : Option Addr) (n cap : Nat) (base last : Int) (w : World) (h : sv o l m = true) (hn : n ≤ 1000000) :
    Calls Try.prog 111 #[.agg #[.int .i64 o, .int .i64 l, .int .i64 m, .slice a n cap, .int .i64 base, .int .i64 last]] w (Ret w (.int .i64 (gt l m n last))) := by
  have hb : 2 ≤ nw l n ∧ nw l n ≤ 2000000 := by
    obtain ⟨_, h2, h3, h4, h5⟩ := sv_iff.1 h
    obtain ⟨t1, t2⟩ := two_lit h2 h3
    unfold nw; omega
  obtain ⟨hb1, hb2⟩ := hb
  cases hg : grB l m n last
  all_goals
    have HG := Lib.hid hg
    go_enter Try.func111, Try.ntmps111
    go_wp2_with (first | (go_at_call 105; refine (grows_any _ _ _ _ _ _ _ _ _ h hn).mono ?_; rintro e w' ⟨rfl, xc, rfl⟩) | (go_at_call 107; refine (nextWord_any _ _ _ _ _ _ _ _ _ h hn).mono ?_; rintro e w' ⟨rfl, xc, rfl⟩))
    go_ret
    exact ret_of (int_val (by unfold gt; rw [HG.out]; rfl)) (by repeat (first | exact More.refl _ | apply More.plus | apply More.alloc | apply More.drew | apply More.drewN))

set_option maxHeartbeats 800000 in
theorem l2Greatest_any (o l m : Int) (a : Option Addr) (n cap : Nat) (base last : Int) (w : World) (h : sv o l m = true) (hn : n ≤ 1000000) (hlast : -1 ≤ last) :
    Calls Try.prog 100 #[.agg #[.int .i64 o, .int .i64 l, .int .i64 m, .slice a n cap, .int .i64 base, .int .i64 last]] w (Ret w (.int .i64 (gt l m n last))) := by
  have hb : 2 ≤ nw l n ∧ nw l n ≤ 2000000 := by
    obtain ⟨_, h2, h3, h4, h5⟩ := sv_iff.1 h
    obtain ⟨t1, t2⟩ := two_lit h2 h3
    unfold nw; omega
  obtain ⟨hb1, hb2⟩ := hb
  cases hg : grB l m n last
  all_goals
    have HG := Lib.hid hg
    go_enter Try.func100, Try.ntmps100
    go_wp2_with (first | (go_at_call 117; refine (l2Grows_any _ _ _ _ _ _ _ _ _ h hn hlast).mono ?_; rintro e w' ⟨rfl, xc, rfl⟩) | (go_at_call 118; refine (l2Next_any _ _ _ _ _ _ _ _ _ h hn).mono ?_; rintro e w' ⟨rfl, xc, rfl⟩))
    go_ret
    exact ret_of (int_val (by unfold gt; rw [HG.out]; rfl)) (by repeat (first | exact More.refl _ | apply More.plus | apply More.alloc | apply More.drew | apply More.drewN))

theorem bitLen_need : ∀ n : Nat, n < 2048 → max 1 (Lib.bitLen n : Int) = need n := by
  have : (List.range 2048).all (fun n => decide (max 1 (Lib.bitLen n : Int) = need n)) = true := by decide +kernel
  intro n hn
  exact of_decide_eq_true (List.all_eq_true.1 this n (List.mem_range.2 hn))

theorem bitLen_bd : ∀ n : Nat, n < 2048 → Lib.bitLen n ≤ 11 := by
  have : (List.range 2048).all (fun n => decide (Lib.bitLen n ≤ 11)) = true := by decide +kernel
  intro n hn
  exact of_decide_eq_true (List.all_eq_true.1 this n (List.mem_range.2 hn))

theorem BitsNeeded_any (n : Int) (h0 : 0 ≤ n) (h1 : n < 2048) (w : World) :
    Calls Try.prog 110 #[.int .i64 n] w (Ret w (.int .i64 (need n))) := by
  have hb := bitLen_bd n.toNat (by omega)
  have hm := Lib.hid (bitLen_need n.toNat (by omega))
  rcases (by omega : Lib.bitLen n.toNat = 0 ∨ 1 ≤ Lib.bitLen n.toNat) with hz | hz
  all_goals
    have HZ := Lib.hid hz
    have HN := Lib.hid (show ((n.toNat : Nat) : Int) = n by omega)
    clear hz
    go_enter Try.func110, Try.ntmps110
    go_wp2_with (go_at_call 120; refine (Try.bits_Len _ _ h0 (by omega)).mono ?_; rintro e w' ⟨rfl, rfl⟩)
    go_ret
    refine ret_of (int_val ?_) (by repeat (first | exact More.refl _ | apply More.plus | apply More.alloc | apply More.drew | apply More.drewN))
    have h2 := hm.out
    have h3 := HZ.out
    have h4 := HN.out
    rw [h4] at h2
    try rw [← h2]
    first | done | rfl | omega | (simp <;> omega)

theorem l1Needed_any (n : Int) (h0 : 0 ≤ n) (h1 : n < 2048) (w : World) :
    Calls Try.prog 109 #[.int .i64 n] w (Ret w (.int .i64 (need n))) := by
  go_enter Try.func109, Try.ntmps109
  go_wp2
  go_loop [0, 3] (fun x i => ∃ c k : Int, 0 ≤ c ∧ c < 2048 ∧ 1 ≤ k ∧ k ≤ 11 ∧ need n = need c + k - 1 ∧ x = .int .i64 c ∧ i = .int .i64 k) (fun x _ => (intOf x).toNat)
  case atStart => exact ⟨n, 1, h0, h1, by omega, by omega, by omega, rfl, rfl⟩
  case round =>
    obtain ⟨c, k, c0, c1, k0, k1, hn, rfl, rfl⟩ := hrel
    have hb := need_bd n
    have hc := need_bd c
    rcases dec (1 < c) with ⟨hlt, blt⟩ | ⟨hlt, blt⟩
    · have hh := need_half (n := c) (by omega) c1
      have hd := need_bd (c / 2)
      have HN := Lib.hid (show need n = need (c / 2) + (k + 1) - 1 by omega)
      have hk : k + 1 ≤ 11 := by omega
      clear hh hn hb hc hd
      go_wp2
      go_round
      case rel => exact ⟨c / 2, k + 1, by omega, by omega, by omega, by omega, HN.out, rfl, rfl⟩
      case measure => simp [intOf]; omega
    · have hc1 : need c = 1 := by unfold need; omega
      have HN := Lib.hid (show k = need n by omega)
      clear hn hb hc hc1
      go_wp2
      go_ret
      exact ret_of (int_val HN.out) (by repeat (first | exact More.refl _ | apply More.plus | apply More.alloc | apply More.drew | apply More.drewN))

set_option maxHeartbeats 800000 in
theorem width_any (o l m : Int) (a : Option Addr) (n cap : Nat) (base last : Int) (w : World) (h : Lim o l m n last) (hn : n ≤ 1000000) :
    Calls Try.prog 84 #[.agg #[.int .i64 o, .int .i64 l, .int .i64 m, .slice a n cap, .int .i64 base, .int .i64 last]] w (Ret w (.int .i64 (wd l m n last))) := by
  have hs := h.s
  obtain ⟨g1, g2, g3⟩ := gt_bd h
  obtain ⟨q1, q2, _⟩ := h.bds
  have g0 : 0 ≤ gt l m n last := by omega
  have g4 : gt l m n last < 2048 := by omega
  obtain ⟨n1, n2⟩ := need_bd (gt l m n last)
  go_enter Try.func84, Try.ntmps84
  go_wp2
  (refine wp_region_calm (by kernel_rfl) (by kernel_rfl) ?_
   repeat (first | go_big_quiet_skip | (go_big_quiet_want; go_big_quiet_op; first | go_big_quiet_on | (apply Exists.intro; refine ⟨fun _ => ?_, ?_⟩; (focus ((first | (go_at_call 111; first | refine calm_of (greatest_any _ _ _ _ _ _ _ _ _ hs hn) | refine calm_seq (greatest_any _ _ _ _ _ _ _ _ _ hs hn)) | (go_at_call 110; first | refine calm_of (BitsNeeded_any _ g0 g4 _) | refine calm_seq (BitsNeeded_any _ g0 g4 _))))); go_big_quiet_on)))
   refine wpQuiet_nil ?_
   intro _ hw'
   obtain ⟨xq, hw''⟩ := hw'
   subst hw'')
  go_wp2
  go_ret
  exact ret_of (int_val rfl) (by repeat (first | exact More.refl _ | apply More.plus | apply More.alloc | apply More.drew | apply More.drewN))

set_option maxHeartbeats 800000 in
theorem l2Width_any (o l m : Int) (a : Option Addr) (n cap : Nat) (base last : Int) (w : World) (h : Lim o l m n last) (hn : n ≤ 1000000) :
    Calls Try.prog 82 #[.agg #[.int .i64 o, .int .i64 l, .int .i64 m, .slice a n cap, .int .i64 base, .int .i64 last]] w (Ret w (.int .i64 (wd l m n last))) := by
  have hs := h.s
  have hlast := h.last
  obtain ⟨g1, g2, g3⟩ := gt_bd h
  obtain ⟨q1, q2, _⟩ := h.bds
  have g0 : 0 ≤ gt l m n last := by omega
  have g4 : gt l m n last < 2048 := by omega
  obtain ⟨n1, n2⟩ := need_bd (gt l m n last)
  go_enter Try.func82, Try.ntmps82
  go_wp2
  (refine wp_region_calm (by kernel_rfl) (by kernel_rfl) ?_
   repeat (first | go_big_quiet_skip | (go_big_quiet_want; go_big_quiet_op; first | go_big_quiet_on | (apply Exists.intro; refine ⟨fun _ => ?_, ?_⟩; (focus ((first | (go_at_call 100; first | refine calm_of (l2Greatest_any _ _ _ _ _ _ _ _ _ hs hn hlast) | refine calm_seq (l2Greatest_any _ _ _ _ _ _ _ _ _ hs hn hlast)) | (go_at_call 109; first | refine calm_of (l1Needed_any _ g0 g4 _) | refine calm_seq (l1Needed_any _ g0 g4 _))))); go_big_quiet_on)))
   refine wpQuiet_nil ?_
   intro _ hw'
   obtain ⟨xq, hw''⟩ := hw'
   subst hw'')
  go_wp2
  go_ret
  exact ret_of (int_val (by unfold wd; omega)) (by repeat (first | exact More.refl _ | apply More.plus | apply More.alloc | apply More.drew | apply More.drewN))

end Go.Proofs.Ytbedikodiboofaa
