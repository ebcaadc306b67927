/- Walks: the next word's code, whether it grows, the greatest code, the width. -/
import Derived.Test.YtbedikodiboofaaKvs
namespace Go.Proofs.Ytbedikodiboofaa
open Go.RowKit
set_option linter.unusedVariables false
set_option linter.unusedSimpArgs false

/-- the code of the next word -/
def nw (l n : Int) : Int := two l + 1 + 1 + n

def grB (l m n last : Int) : Bool := decide (last ≠ -1 ∧ nw l n ≤ two m - 1)

theorem grB_iff {l m n last : Int} : grB l m n last = true ↔ (last ≠ -1 ∧ nw l n ≤ two m - 1) := by simp [grB]

theorem grB_no {l m n last : Int} : grB l m n last = false ↔ ¬ (last ≠ -1 ∧ nw l n ≤ two m - 1) := by rw [← grB_iff]; simp

/-- the greatest code that can follow -/
def gt (l m n last : Int) : Int := if grB l m n last then nw l n else nw l n - 1

/-- the number of binary digits -/
def need (n : Int) : Int := if n < 2 then 1 else if n < 4 then 2 else if n < 8 then 3 else if n < 16 then 4 else if n < 32 then 5 else if n < 64 then 6 else if n < 128 then 7 else if n < 256 then 8 else if n < 512 then 9 else if n < 1024 then 10 else 11

theorem need_half {n : Int} (h : 2 ≤ n) (h2 : n < 2048) : need n = need (n / 2) + 1 := by unfold need; omega

theorem need_bd (n : Int) : 1 ≤ need n ∧ need n ≤ 11 := by unfold need; omega

/-- the width of the next code -/
def wd (l m n last : Int) : Int := max (need (gt l m n last)) (l + 1)

structure Lim (o l m n last : Int) : Prop where
  s : sv o l m = true
  n0 : 0 ≤ n
  n1 : n ≤ two m - 1 - (two l + 1)
  last : -1 ≤ last

theorem KV.lim {o l m : Int} {ps : List Pr} {base last : Int} (h : KV o l m ps base last) : Lim o l m ps.length last :=
  ⟨h.s, by omega, h.len, by
    rcases h.last with h1 | h1
    · omega
    · have := hw_iff.1 h1
      obtain ⟨_, h2, h3, _, _⟩ := sv_iff.1 h.s
      obtain ⟨t1, t2⟩ := two_lit h2 h3
      omega⟩

theorem Lim.bds {o l m n last : Int} (h : Lim o l m n last) : 1 ≤ l ∧ l ≤ 8 ∧ m ≤ 10 ∧ l + 2 ≤ m ∧ 2 ≤ two l ∧ two l ≤ 256 ∧ 4 * two l ≤ two m ∧ two m ≤ 1024 := by
  obtain ⟨_, h2, h3, h4, h5⟩ := sv_iff.1 h.s
  obtain ⟨t1, t2⟩ := two_lit h2 h3
  obtain ⟨t3, t4⟩ := two_bd (n := m) (by omega) (by omega)
  exact ⟨h2, h3, h5, h4, t1, t2, two_four h2 h4 h5, t4⟩

theorem gt_bd {o l m n last : Int} (h : Lim o l m n last) : 1 ≤ gt l m n last ∧ gt l m n last ≤ two m - 1 ∧ gt l m n last ≤ 1023 := by
  obtain ⟨q1, q2, q3, q4, q5, q6, q7, q8⟩ := h.bds
  have := h.n0
  have := h.n1
  unfold gt
  cases hg : grB l m n last
  · simp [nw]; omega
  · have := grB_iff.1 hg; simp [nw] at *; omega

theorem nextWord_any (o l m : Int) (a : Option Addr) (n cap : Nat) (base last : Int) (w : World) (h : sv o l m = true) (hn : n ≤ 1000000) :
    Calls Try.prog 107 #[.agg #[.int .i64 o, .int .i64 l, .int .i64 m, .slice a n cap, .int .i64 base, .int .i64 last]] w (Ret w (.int .i64 (nw l n))) := by
  obtain ⟨_, h2, h3, h4, h5⟩ := sv_iff.1 h
  obtain ⟨t1, t2⟩ := two_lit h2 h3
  go_enter Try.func107, Try.ntmps107
  go_wp2
  (refine wp_region_calm (by kernel_rfl) (by kernel_rfl) ?_
   repeat (first | go_big_quiet_skip | (go_big_quiet_want; go_big_quiet_op; first | go_big_quiet_on | (apply Exists.intro; refine ⟨fun _ => ?_, ?_⟩; (focus ((first | (go_at_call 68; first | refine calm_of (EndCode_yes _ _ _ h _) | refine calm_seq (EndCode_yes _ _ _ h _))))); go_big_quiet_on)))
   refine wpQuiet_nil ?_
   intro _ hw'
   obtain ⟨xq, hw''⟩ := hw'
   subst hw'')
  go_wp2
  go_ret
  exact ret_of (int_val rfl) (by repeat (first | exact More.refl _ | apply More.plus | apply More.alloc | apply More.drew | apply More.drewN))

theorem l2Next_any (o l m : Int) (a : Option Addr) (n cap : Nat) (base last : Int) (w : World) (h : sv o l m = true) (hn : n ≤ 1000000) :
    Calls Try.prog 118 #[.agg #[.int .i64 o, .int .i64 l, .int .i64 m, .slice a n cap, .int .i64 base, .int .i64 last]] w (Ret w (.int .i64 (nw l n))) := by
  obtain ⟨_, h2, h3, h4, h5⟩ := sv_iff.1 h
  obtain ⟨t1, t2⟩ := two_lit h2 h3
  have l0 : 0 ≤ l := by omega
  have l1 : l ≤ 10 := by omega
  go_enter Try.func118, Try.ntmps118
  go_wp2
  (refine wp_region_calm (by kernel_rfl) (by kernel_rfl) ?_
   repeat (first | go_big_quiet_skip | (go_big_quiet_want; go_big_quiet_op; first | go_big_quiet_on | (apply Exists.intro; refine ⟨fun _ => ?_, ?_⟩; (focus ((first | (go_at_call 90; first | refine calm_of (l1End_any _ _ _ l0 l1 _) | refine calm_seq (l1End_any _ _ _ l0 l1 _))))); go_big_quiet_on)))
   refine wpQuiet_nil ?_
   intro _ hw'
   obtain ⟨xq, hw''⟩ := hw'
   subst hw'')
  go_wp2
  go_ret
  exact ret_of (int_val rfl) (by repeat (first | exact More.refl _ | apply More.plus | apply More.alloc | apply More.drew | apply More.drewN))

set_option maxHeartbeats 800000 in
theorem grows_any (o l m : Int) (a : Option Addr) (n cap : Nat) (base last : Int) (w : World) (h : sv o l m = true) (hn : n ≤ 1000000) :
    Calls Try.prog 105 #[.agg #[.int .i64 o, .int .i64 l, .int .i64 m, .slice a n cap, .int .i64 base, .int .i64 last]] w (Ret w (.bool (grB l m n last))) := by
  by_cases h1 : last = -1
  · have b1 : (last != -1) = false := by simp [h1]
    have e : grB l m n last = false := grB_no.2 (by omega)
    rw [e]
    clear h1 e
    go_enter Try.func105, Try.ntmps105
    go_wp2
    (refine wp_region_calm (by kernel_rfl) (by kernel_rfl) ?_
     repeat (first | go_big_quiet_skip | (go_big_quiet_want; go_big_quiet_op; first | go_big_quiet_on | (apply Exists.intro; refine ⟨fun _ => ?_, ?_⟩; (focus (fail)); go_big_quiet_on)))
     refine wpQuiet_nil ?_
     intro _ hw'
     obtain ⟨xq, hw''⟩ := hw'
     subst hw'')
    go_wp2
    go_ret
    exact Ret.mk (by repeat (first | exact More.refl _ | apply More.plus | apply More.alloc | apply More.drew | apply More.drewN))
  · have b1 : (last != -1) = true := by simp [h1]
    go_enter Try.func105, Try.ntmps105
    go_wp2
    (refine wp_region_calm (by kernel_rfl) (by kernel_rfl) ?_
     repeat (first | go_big_quiet_skip | (go_big_quiet_want; go_big_quiet_op; first | go_big_quiet_on | (apply Exists.intro; refine ⟨fun _ => ?_, ?_⟩; (focus ((first | (go_at_call 107; first | refine calm_of (nextWord_any _ _ _ _ _ _ _ _ _ h hn) | refine calm_seq (nextWord_any _ _ _ _ _ _ _ _ _ h hn)) | (go_at_call 95; first | refine calm_of (LastCode_yes _ _ _ h _) | refine calm_seq (LastCode_yes _ _ _ h _))))); go_big_quiet_on)))
     refine wpQuiet_nil ?_
     intro _ hw'
     obtain ⟨xq, hw''⟩ := hw'
     subst hw'')
    go_wp2
    go_ret
    exact ret_of (bool_ret (by simp [grB, h1])) (by repeat (first | exact More.refl _ | apply More.plus | apply More.alloc | apply More.drew | apply More.drewN))

set_option maxHeartbeats 800000 in
theorem l2Grows_any (o l m : Int) (a : Option Addr) (n cap : Nat) (base last : Int) (w : World) (h : sv o l m = true) (hn : n ≤ 1000000) (hlast : -1 ≤ last) :
    Calls Try.prog 117 #[.agg #[.int .i64 o, .int .i64 l, .int .i64 m, .slice a n cap, .int .i64 base, .int .i64 last]] w (Ret w (.bool (grB l m n last))) := by
  obtain ⟨_, h2, h3, h4, h5⟩ := sv_iff.1 h
  have m0 : 0 ≤ m := by omega
  rcases dec (0 ≤ last) with ⟨h1, b1⟩ | ⟨h1, b1⟩
  · go_enter Try.func117, Try.ntmps117
    go_wp2
    (refine wp_region_calm (by kernel_rfl) (by kernel_rfl) ?_
     repeat (first | go_big_quiet_skip | (go_big_quiet_want; go_big_quiet_op; first | go_big_quiet_on | (apply Exists.intro; refine ⟨fun _ => ?_, ?_⟩; (focus ((first | (go_at_call 118; first | refine calm_of (l2Next_any _ _ _ _ _ _ _ _ _ h hn) | refine calm_seq (l2Next_any _ _ _ _ _ _ _ _ _ h hn)) | (go_at_call 89; first | refine calm_of (l1Last_any _ _ _ m0 h5 _) | refine calm_seq (l1Last_any _ _ _ m0 h5 _))))); go_big_quiet_on)))
     refine wpQuiet_nil ?_
     intro _ hw'
     obtain ⟨xq, hw''⟩ := hw'
     subst hw'')
    go_wp2
    go_ret
    exact ret_of (bool_ret (by simp [grB]; omega)) (by repeat (first | exact More.refl _ | apply More.plus | apply More.alloc | apply More.drew | apply More.drewN))
  · have e : grB l m n last = false := grB_no.2 (by omega)
    rw [e]
    clear e
    go_enter Try.func117, Try.ntmps117
    go_wp2
    (refine wp_region_calm (by kernel_rfl) (by kernel_rfl) ?_
     repeat (first | go_big_quiet_skip | (go_big_quiet_want; go_big_quiet_op; first | go_big_quiet_on | (apply Exists.intro; refine ⟨fun _ => ?_, ?_⟩; (focus (fail)); go_big_quiet_on)))
     refine wpQuiet_nil ?_
     intro _ hw'
     obtain ⟨xq, hw''⟩ := hw'
     subst hw'')
    go_wp2
    go_ret
    exact Ret.mk (by repeat (first | exact More.refl _ | apply More.plus | apply More.alloc | apply More.drew | apply More.drewN))

end Go.Proofs.Ytbedikodiboofaa
