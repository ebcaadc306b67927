/- Walks: the laws' copy of a slice of pairs, and of something known. -/
import Derived.Test.YtbedikodiboofaaCpy
namespace Go.Proofs.Ytbedikodiboofaa
open Go.RowKit
set_option linter.unusedVariables false
set_option linter.unusedSimpArgs false

def RetP (w : World) (ps : List Pr) (e : Ending) (w' : World) : Prop := ∃ a c, e = .returned (.slice a ps.length c) ∧ Own encP 86 w' a c ps w.heap.size ∧ ∃ x, w' = plus w x

set_option maxHeartbeats 400000 in
theorem toPairS_any (a : Option Addr) (cap : Nat) (ps : List Pr) (w : World) (hr : RdP w a cap ps) (hn : ps.length ≤ 2000000) :
    Calls Try.prog 61 #[.slice a ps.length cap] w (RetP w ps) := by
  obtain ⟨i0, hi, hz0, hz1, hz2⟩ := info_parts infoPair
  obtain ⟨r1, r2, r3⟩ := hr.open
  have hmk : ∀ W : World, (Instr.makeSlice 29 (.int .i64 (ps.length : Int)) (.int .i64 (ps.length : Int))).run Try.prog W = .ok (.slice (some ⟨W.heap.size, 0, none⟩) ps.length ps.length) (W.alloc (.cells (madeCells (Value.agg #[.int .i64 0, .int .i64 0]).cells (ps.length * 2)) 86)) := by
    intro W
    have := run_make (P := Try.prog) (w := W) 29 86 i0 _ Try.underlying29 hi hz0 .i64 .i64 (ps.length : Int) (ps.length : Int) (by omega) (by omega) (by rw [hz2]; omega) (by omega)
    rw [hz1] at this
    simpa using this
  go_enter Try.func61, Try.ntmps61
  go_wp2
  go_loopw [4] (fun i wr => ∃ (k : Nat) (cur : Array Value) (x : Ext), k ≤ ps.length ∧ i = .int .i64 k ∧ cur.size = ps.length * 2 ∧ UpTo cur ps k ∧ wr = plus (w.alloc (.cells cur 86)) x) (fun i _ => ps.length - (intOf i).toNat)
  case atStart =>
    refine ⟨0, _, _, Nat.zero_le _, rfl, ?_, UpTo.zero _ _, (plus_self _).symm⟩
    simp [size_madeCells]
  case round =>
    obtain ⟨k, cur, x, hk, rfl, hcs, hup, rfl⟩ := hrel
    rcases dec (k < ps.length) with ⟨hlt, blt⟩ | ⟨hlt, blt⟩
    · have hex : ∃ p, ps[k]? = some p := ⟨ps[k], List.getElem?_eq_getElem hlt⟩
      obtain ⟨p, hp⟩ := hex
      rcases r3 with rfl | ⟨b, off, rfl, hb, hc⟩
      · exact absurd hlt (by omega)
      · obtain ⟨c1, c2⟩ := hc k p hp
        obtain ⟨v1, hv1⟩ := get_some (cur := cur) (i := k * 2) (by omega)
        obtain ⟨v2, hv2⟩ := get_some (cur := cur) (i := k * 2 + 1) (by omega)
        have hne : ¬ k * 2 = k * 2 + 1 := by omega
        have HU := Lib.hid (hup.step hp (by omega))
        have HC := Lib.hid hcs
        clear hp hc hup hcs
        go_wp2_with (go_at_call 93; refine (toPair_any _ _ _).mono ?_; rintro e w' ⟨rfl, xc, rfl⟩)
        go_roundw
        case rel => exact ⟨k + 1, _, _, by omega, by go_num, by simp [HC.out], HU.out, rfl⟩
        case measure => simp [intOf]; omega
    · have : k = ps.length := by omega
      subst this
      go_wp2
      go_ret
      exact ⟨_, _, rfl, Own.plus (Own.newAt rfl (Nat.le_refl _) hcs hup.row (Nat.le_refl _) (by omega)) _, (by repeat (first | exact More.refl _ | apply More.plus | apply More.alloc | apply More.drew | apply More.drewN))⟩

theorem szPairS_yes (a : Option Addr) (cap n : Nat) (left : Int) (w : World) (h0 : (n : Int) ≤ left) (h1 : left ≤ 9000000000000000000) :
    Calls Try.prog 58 #[.slice a n cap, .int .i64 left] w (Ret w (.int .i64 (left - n))) := by
  have q : decide (left - (n : Int) < 0) = false := by simp; omega
  go_enter Try.func58, Try.ntmps58
  go_wp2
  go_ret
  exact Ret.mk (by repeat (first | exact More.refl _ | apply More.plus | apply More.alloc | apply More.drew | apply More.drewN))

theorem szPairS_no (a : Option Addr) (cap n : Nat) (left : Int) (w : World) (h0 : left < (n : Int)) (h1 : 0 ≤ left) (h2 : n ≤ 9223372036854775807) :
    Calls Try.prog 58 #[.slice a n cap, .int .i64 left] w (Ret w (.int .i64 (-1))) := by
  have q : decide (left - (n : Int) < 0) = true := by simp; omega
  go_enter Try.func58, Try.ntmps58
  go_wp2
  go_ret
  exact Ret.mk (by repeat (first | exact More.refl _ | apply More.plus | apply More.alloc | apply More.drew | apply More.drewN))

theorem szKnown_yes (o l m : Int) (a : Option Addr) (cap n : Nat) (base last : Int) (left : Int) (w : World) (h0 : (n : Int) ≤ left) (h1 : left ≤ 9000000000000000000) :
    Calls Try.prog 15 #[.agg #[.int .i64 o, .int .i64 l, .int .i64 m, .slice a n cap, .int .i64 base, .int .i64 last], .int .i64 left] w (Ret w (.int .i64 (left - n))) := by
  have q : decide (left - (n : Int) < 0) = false := by simp; omega
  go_enter Try.func15, Try.ntmps15
  go_wp2_with (go_at_call 58; refine (szPairS_yes _ _ _ _ _ h0 h1).mono ?_; rintro e w' ⟨rfl, xc, rfl⟩)
  go_ret
  exact Ret.mk (by repeat (first | exact More.refl _ | apply More.plus | apply More.alloc | apply More.drew | apply More.drewN))

theorem szKnown_no (o l m : Int) (a : Option Addr) (cap n : Nat) (base last : Int) (left : Int) (w : World) (h0 : left < (n : Int)) (h1 : 0 ≤ left) (h2 : n ≤ 9223372036854775807) :
    Calls Try.prog 15 #[.agg #[.int .i64 o, .int .i64 l, .int .i64 m, .slice a n cap, .int .i64 base, .int .i64 last], .int .i64 left] w (Ret w (.int .i64 (-1))) := by
  go_enter Try.func15, Try.ntmps15
  go_wp2_with (go_at_call 58; refine (szPairS_no _ _ _ _ _ h0 h1 h2).mono ?_; rintro e w' ⟨rfl, xc, rfl⟩)
  go_ret
  exact Ret.mk (by repeat (first | exact More.refl _ | apply More.plus | apply More.alloc | apply More.drew | apply More.drewN))

theorem toKnown_any (o l m : Int) (a : Option Addr) (cap : Nat) (ps : List Pr) (base last : Int) (w : World) (hr : RdP w a cap ps) (hn : ps.length ≤ 2000000) :
    Calls Try.prog 17 #[.agg #[.int .i64 o, .int .i64 l, .int .i64 m, .slice a ps.length cap, .int .i64 base, .int .i64 last]] w (RetK w o l m ps base last) := by
  go_enter Try.func17, Try.ntmps17
  go_wp2_with (first | (go_at_call 41; refine (toSetting_any _ _ _ _).mono ?_; rintro e w' ⟨rfl, xc, rfl⟩) | (go_at_call 61; refine (toPairS_any _ _ ps _ (by repeat (first | exact hr | apply rd_seq | apply Rd.plus | apply Rd.alloc | apply Rd.drew | apply Rd.drewN | refine rd_patch ?_ _ _ (by intro A hA; first | (cases hA; show _ ≠ _; omega) | (have := hal A hA; omega)))) hn).mono ?_; rintro e w' ⟨a', c', rfl, hown, x, rfl⟩))
  rw [plus_plus] at hown
  refine bodyPost_ret (v := .agg #[.int .i64 o, .int .i64 l, .int .i64 m, .slice a' ps.length c', .int .i64 base, .int .i64 last]) (by simp [results, Try.results17, go_sem]) rfl ?_
  exact ⟨a', c', rfl, (own_swap hown (by simp) (by simp <;> omega)).lower (by simp <;> omega), (by repeat (first | exact More.refl _ | apply More.plus | apply More.alloc | apply More.drew | apply More.drewN))⟩

theorem eqSetting_any (o l m o' l' m' : Int) (w : World) :
    Calls Try.prog 64 #[.agg #[.int .i64 o, .int .i64 l, .int .i64 m], .agg #[.int .i64 o', .int .i64 l', .int .i64 m']] w (Ret w (.bool (decide (o = o' ∧ l = l' ∧ m = m')))) := by
  by_cases h1 : o = o' <;> by_cases h2 : l = l' <;> by_cases h3 : m = m'
  all_goals
    have b1 : (o != o') = !decide (o = o') := rfl
    have b2 : (l != l') = !decide (l = l') := rfl
    have b3 : (m != m') = !decide (m = m') := rfl
    simp only [h1, h2, h3, decide_true, decide_false, Bool.not_true, Bool.not_false] at b1 b2 b3
    go_enter Try.func64, Try.ntmps64
    go_wp2
    go_ret
    exact ret_of (by simp [h1, h2, h3]) (by repeat (first | exact More.refl _ | apply More.plus | apply More.alloc | apply More.drew | apply More.drewN))

theorem eqPair_any (p b p' b' : Int) (w : World) :
    Calls Try.prog 98 #[.agg #[.int .i64 p, .int .i64 b], .agg #[.int .i64 p', .int .i64 b']] w (Ret w (.bool (decide (p = p' ∧ b = b')))) := by
  by_cases h1 : p = p' <;> by_cases h2 : b = b'
  all_goals
    have b1 : (p != p') = !decide (p = p') := rfl
    have b2 : (b != b') = !decide (b = b') := rfl
    simp only [h1, h2, decide_true, decide_false, Bool.not_true, Bool.not_false] at b1 b2
    go_enter Try.func98, Try.ntmps98
    go_wp2
    go_ret
    exact ret_of (by simp [h1, h2]) (by repeat (first | exact More.refl _ | apply More.plus | apply More.alloc | apply More.drew | apply More.drewN))

end Go.Proofs.Ytbedikodiboofaa
