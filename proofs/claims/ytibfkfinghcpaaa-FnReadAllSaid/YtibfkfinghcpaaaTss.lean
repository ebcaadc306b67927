/- The laws' size and copy of a slice of texts. -/
import Derived.Test.YtibfkfinghcpaaaWri
import Derived.Test.YtibfkfinghcpaaaGb
namespace Go.Proofs.Ytibfkfinghcpaaa
open Go.RowKit
set_option linter.unusedVariables false
set_option linter.unusedSimpArgs false

def RetSs (w : World) (xs : List ByteArray) (e : Ending) (w' : World) : Prop := ∃ a c, e = .returned (.slice a xs.length c) ∧ Own encS 9 w' a c xs w.heap.size ∧ ∃ x, w' = plus w x

set_option maxRecDepth 100000 in
set_option maxHeartbeats 800000 in
theorem toStringS_any (a : Option Addr) (cap : Nat) (xs : List ByteArray) (w : World) (hr : RdS w a cap xs) (hn : xs.length ≤ 2000000) :
    Calls Try.prog 48 #[.slice a xs.length cap] w (RetSs w xs) := by
  obtain ⟨i0, hi, hz0, hz1, hz2⟩ := info_parts infoString
  obtain ⟨r1, r2, r3⟩ := hr.open
  have hmk : ∀ W : World, (Instr.makeSlice 56 (.int .i64 (xs.length : Int)) (.int .i64 (xs.length : Int))).run Try.prog W = .ok (.slice (some ⟨W.heap.size, 0, none⟩) xs.length xs.length) (W.alloc (.cells (madeCells (Value.string ⟨#[]⟩).cells xs.length) 9)) := by
    intro W
    have := run_make (P := Try.prog) (w := W) 56 9 i0 _ Try.underlying56 hi hz0 .i64 .i64 (xs.length : Int) (xs.length : Int) (by omega) (by omega) (by rw [hz2]; omega) (by omega)
    rw [hz1] at this
    simpa using this
  clear hr
  go_enter Try.func48, Try.ntmps48
  go_wp2
  go_loopw [4] (fun i wr => ∃ (k : Nat) (cur : Array Value) (x : Ext), k ≤ xs.length ∧ i = .int .i64 k ∧ cur.size = xs.length ∧ UpToS cur xs k ∧ wr = plus (w.alloc (.cells cur 9)) x) (fun i _ => xs.length - (intOf i).toNat)
  case atStart =>
    refine ⟨0, _, _, Nat.zero_le _, rfl, ?_, UpToS.zero _ _, (plus_self _).symm⟩
    simp [size_madeCells]
  case round =>
    obtain ⟨k, cur, x, hk, rfl, hcs, hup, rfl⟩ := hrel
    rcases dec (k < xs.length) with ⟨hlt, blt⟩ | ⟨hlt, blt⟩
    · obtain ⟨p, hp⟩ : ∃ p, xs[k]? = some p := ⟨xs[k], List.getElem?_eq_getElem hlt⟩
      rcases r3 with rfl | ⟨b, off, rfl, hb, hc⟩
      · exact absurd hlt (by omega)
      · have c1 := hc k p hp
        obtain ⟨v1, hv1⟩ := get_some (cur := cur) (i := k) (by omega)
        have HU := Lib.hid (hup.step hp (by omega))
        have HC := Lib.hid hcs
        clear hp hc hup hcs
        go_wp2
        go_roundw
        case rel => exact ⟨k + 1, _, _, by omega, by go_num, by simp [HC.out], HU.out, rfl⟩
        case measure => simp [intOf]; omega
    · have : k = xs.length := by omega
      subst this
      go_wp2
      go_ret
      exact ⟨_, _, rfl, Own.plus (Own.newAt rfl (Nat.le_refl _) (by rw [hcs]; simp [encS]) hup.row (Nat.le_refl _) (by omega)) _, (by repeat (first | exact More.refl _ | apply More.plus | apply More.alloc | apply More.drew | apply More.drewN))⟩

/-- the sizes of the first texts -/
def sumZ : List ByteArray → Nat
  | [] => 0
  | s :: ss => s.size + sumZ ss

theorem sumZ_step : ∀ (ss : List ByteArray) (k : Nat) (s : ByteArray), ss[k]? = some s → sumZ (ss.take (k + 1)) = sumZ (ss.take k) + s.size
  | [], k, s, h => by simp at h
  | t :: ss, 0, s, h => by
    simp at h
    subst h
    simp [sumZ]
  | t :: ss, k + 1, s, h => by
    have := sumZ_step ss k s (by simpa using h)
    simp only [List.take_succ_cons, sumZ]
    omega

theorem sumZ_mono : ∀ (ss : List ByteArray) (k : Nat), sumZ (ss.take k) ≤ sumZ ss
  | [], k => by simp
  | t :: ss, 0 => by simp [sumZ]
  | t :: ss, k + 1 => by
    have := sumZ_mono ss k
    simp only [List.take_succ_cons, sumZ]
    omega

/-- what is left beside texts -/
def szT (ss : List ByteArray) (q : Int) : Int := if (ss.length : Int) + sumZ ss ≤ q then q - ss.length - sumZ ss else -1

set_option maxRecDepth 100000 in
set_option maxHeartbeats 800000 in
theorem szStringS_any (a : Option Addr) (cap : Nat) (xs : List ByteArray) (q : Int) (w : World) (hr : RdS w a cap xs) (hz : ∀ s ∈ xs, s.size ≤ maxLen) (hn : xs.length ≤ maxLen) (hq0 : 0 ≤ q) (hq1 : q ≤ 1048576) :
    Calls Try.prog 46 #[.slice a xs.length cap, .int .i64 q] w (Ret w (.int .i64 (szT xs q))) := by
  obtain ⟨r1, r2, r3⟩ := hr.open
  unfold maxLen at hz hn
  by_cases hlq : (xs.length : Int) ≤ q
  case neg =>
    have e1 : szT xs q = -1 := by unfold szT; rw [if_neg (by omega)]
    have v1 : decide (q - (xs.length : Int) < 0) = true := by simp; omega
    rw [e1]
    clear hr e1
    go_enter Try.func46, Try.ntmps46
    go_wp2
    go_ret
    exact Ret.mk (by repeat (first | exact More.refl _ | apply More.plus | apply More.alloc | apply More.drew | apply More.drewN))
  have v1 : decide (q - (xs.length : Int) < 0) = false := by simp; omega
  have hl2 : xs.length ≤ 1048576 := by omega
  clear hr
  obtain ⟨V, hV⟩ : ∃ V, szT xs q = V := ⟨_, rfl⟩
  rw [hV]
  have HV := Lib.hid hV
  clear hV
  go_enter Try.func46, Try.ntmps46
  go_wp2
  go_loopw [1, 5] (fun p i wr => ∃ (k : Nat) (x : Ext), k ≤ xs.length ∧ i = .int .i64 k ∧ p = .int .i64 (q - xs.length - sumZ (xs.take k)) ∧ (xs.length : Int) + sumZ (xs.take k) ≤ q ∧ wr = plus w x) (fun _ i _ => xs.length - (intOf i).toNat)
  case atStart => exact ⟨0, _, Nat.zero_le _, rfl, by simp [sumZ], by simp [sumZ]; omega, (plus_self _).symm⟩
  case round =>
    obtain ⟨k, x, hk, rfl, rfl, hle, rfl⟩ := hrel
    rcases dec (k < xs.length) with ⟨hlt, blt⟩ | ⟨hlt, blt⟩
    · obtain ⟨s, hs⟩ : ∃ p, xs[k]? = some p := ⟨xs[k], List.getElem?_eq_getElem hlt⟩
      rcases r3 with rfl | ⟨b, off, rfl, hb, hc⟩
      · exact absurd hlt (by omega)
      have c1 := hc k s hs
      have hsz := hz s (List.mem_of_getElem? hs)
      have hst := sumZ_step xs k s hs
      have hmo := sumZ_mono xs (k + 1)
      obtain ⟨T, hT⟩ : ∃ T, sumZ (xs.take k) = T := ⟨_, rfl⟩
      have HT := Lib.hid hT
      have HST := Lib.hid hst
      rw [hT] at hst hle ⊢
      obtain ⟨T2, hT2⟩ : ∃ T, sumZ (xs.take (k + 1)) = T := ⟨_, rfl⟩
      have HT2 := Lib.hid hT2
      rw [hT2] at hst hmo
      clear hT hT2 hc hs hz
      by_cases h2 : (xs.length : Int) + T + s.size ≤ q
      · have v2 : decide (q - (xs.length : Int) - (T : Int) - (s.size : Int) < 0) = false := by simp; omega
        go_wp2
        go_roundw
        case rel => exact ⟨k + 1, _, by omega, by go_num, by rw [HT2.out]; exact int_val (by omega), by rw [HT2.out]; omega, rfl⟩
        case measure => simp [intOf]; omega
      · have v2 : decide (q - (xs.length : Int) - (T : Int) - (s.size : Int) < 0) = true := by simp; omega
        have HE := Lib.hid (show -1 = V by rw [← HV.out]; unfold szT; rw [if_neg (by omega)])
        go_wp2
        go_ret
        exact ret_of (int_val HE.out) (by repeat (first | exact More.refl _ | apply More.plus | apply More.alloc | apply More.drew | apply More.drewN))
    · obtain rfl : k = xs.length := by omega
      rw [List.take_length] at hle ⊢
      have HE := Lib.hid (show q - xs.length - sumZ xs = V by rw [← HV.out]; unfold szT; rw [if_pos hle])
      go_wp2
      go_ret
      exact ret_of (int_val HE.out) (by repeat (first | exact More.refl _ | apply More.plus | apply More.alloc | apply More.drew | apply More.drewN))

end Go.Proofs.Ytibfkfinghcpaaa
