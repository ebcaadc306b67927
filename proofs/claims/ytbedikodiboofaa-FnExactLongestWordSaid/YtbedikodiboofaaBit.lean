/- Walks: BitsValid of the program and of the reference. -/
import Derived.Test.YtbedikodiboofaaBase
namespace Go.Proofs.Ytbedikodiboofaa
open Go.RowKit
set_option linter.unusedVariables false
set_option linter.unusedSimpArgs false

def isBit (c : UInt8) : Bool := decide (c.toNat = 48 ∨ c.toNat = 49)

/-- all below k are bits -/
def upB (s : ByteArray) (k : Nat) : Bool := (s.data.toList.take k).all isBit

def allB (s : ByteArray) : Bool := s.data.toList.all isBit

/-- only bits, and not too many -/
def bitsB (s : ByteArray) : Bool := decide (s.size ≤ 32000) && allB s

theorem take_all_snoc {s : ByteArray} {k : Nat} (h : k < s.size) : upB s (k + 1) = (upB s k && isBit s[k]) := by
  unfold upB
  rw [List.take_succ_eq_append_getElem (by simpa using h), List.all_append]
  simp
  rfl

theorem all_of_bad {s : ByteArray} {k : Nat} (h : k < s.size) (hb : isBit s[k] = false) : allB s = false := by
  unfold allB
  rw [List.all_eq_false]
  refine ⟨s[k], ?_, by simp [hb]⟩
  have : s[k] = s.data.toList[k]'(by simpa using h) := rfl
  rw [this]
  exact List.getElem_mem _

set_option maxHeartbeats 800000 in
theorem BitsValid_any (s : ByteArray) (w : World) (hs : s.size ≤ maxLen) : Calls Try.prog 83 #[.string s] w (Ret w (.bool (bitsB s))) := by
  unfold maxLen at hs
  rcases dec (32000 < (s.size : Int)) with ⟨h1, b1⟩ | ⟨h1, b1⟩
  · have e : bitsB s = false := by unfold bitsB; rw [decide_eq_false (by omega)]; rfl
    rw [e]; clear e
    go_enter Try.func83, Try.ntmps83
    go_wp2
    go_ret
    exact Ret.mk (by repeat (first | exact More.refl _ | apply More.plus | apply More.alloc | apply More.drew | apply More.drewN))
  · have e : bitsB s = allB s := by unfold bitsB; rw [decide_eq_true (by omega)]; rfl
    rw [e]; clear e
    go_enter Try.func83, Try.ntmps83
    go_wp2
    go_loop [9] (fun i => ∃ k : Nat, k ≤ s.size ∧ i = .int .i64 k ∧ upB s k = true) (fun i => s.size - (intOf i).toNat)
    case atStart => exact ⟨0, Nat.zero_le _, rfl, by simp [upB]⟩
    case round =>
      obtain ⟨k, hk, rfl, hall⟩ := hrel
      by_cases hlt : k < s.size
      · have hts := take_all_snoc hlt
        have hc := s[k].toNat_lt
        rcases (by omega : s[k].toNat = 48 ∨ s[k].toNat = 49 ∨ (s[k].toNat ≠ 48 ∧ s[k].toNat ≠ 49)) with h48 | h49 | ⟨h48, h49⟩
        · have HS := Lib.hid (show upB s (k + 1) = true by rw [hts, hall]; simp [isBit, h48])
          have c1 : ((s[k].toNat : Int) != 48) = false := by simp; omega
          clear hts hall hc h48
          go_wp2
          go_round
          case rel => exact ⟨k + 1, by omega, by go_num, HS.out⟩
          case measure => simp [intOf]; omega
        · have HS := Lib.hid (show upB s (k + 1) = true by rw [hts, hall]; simp [isBit, h49])
          have c1 : ((s[k].toNat : Int) != 48) = true := by simp; omega
          have c2 : ((s[k].toNat : Int) != 49) = false := by simp; omega
          clear hts hall hc h49
          go_wp2
          go_round
          case rel => exact ⟨k + 1, by omega, by go_num, HS.out⟩
          case measure => simp [intOf]; omega
        · have HN := Lib.hid (all_of_bad hlt (by simp [isBit]; omega))
          have c1 : ((s[k].toNat : Int) != 48) = true := by simp; omega
          have c2 : ((s[k].toNat : Int) != 49) = true := by simp; omega
          clear hts hall hc h48 h49
          go_wp2
          go_ret
          exact ret_of (bool_ret HN.out.symm) (by repeat (first | exact More.refl _ | apply More.plus | apply More.alloc | apply More.drew | apply More.drewN))
      · have HS := Lib.hid (show allB s = true by
          unfold upB at hall
          rw [List.take_of_length_le (by simp; omega)] at hall
          exact hall)
        clear hall
        go_wp2
        go_ret
        exact ret_of (bool_ret HS.out.symm) (by repeat (first | exact More.refl _ | apply More.plus | apply More.alloc | apply More.drew | apply More.drewN))

set_option maxHeartbeats 800000 in
theorem specBitsValid_any (s : ByteArray) (w : World) (hs : s.size ≤ maxLen) : Calls Try.prog 80 #[.string s] w (Ret w (.bool (bitsB s))) := by
  unfold maxLen at hs
  go_enter Try.func80, Try.ntmps80
  go_wp2
  go_loop [3] (fun i => ∃ k : Nat, k ≤ s.size ∧ i = .int .i64 k ∧ upB s k = true) (fun i => s.size - (intOf i).toNat)
  case atStart => exact ⟨0, Nat.zero_le _, rfl, by simp [upB]⟩
  case round =>
    obtain ⟨k, hk, rfl, hall⟩ := hrel
    by_cases hlt : k < s.size
    · have hts := take_all_snoc hlt
      have hc := s[k].toNat_lt
      rcases (by omega : s[k].toNat = 48 ∨ s[k].toNat = 49 ∨ (s[k].toNat ≠ 48 ∧ s[k].toNat ≠ 49)) with h48 | h49 | ⟨h48, h49⟩
      · have HS := Lib.hid (show upB s (k + 1) = true by rw [hts, hall]; simp [isBit, h48])
        have c1 : ((s[k].toNat : Int) != 48) = false := by simp; omega
        clear hts hall hc h48
        go_wp2
        go_round
        case rel => exact ⟨k + 1, by omega, by go_num, HS.out⟩
        case measure => simp [intOf]; omega
      · have HS := Lib.hid (show upB s (k + 1) = true by rw [hts, hall]; simp [isBit, h49])
        have c1 : ((s[k].toNat : Int) != 48) = true := by simp; omega
        have c2 : ((s[k].toNat : Int) != 49) = false := by simp; omega
        clear hts hall hc h49
        go_wp2
        go_round
        case rel => exact ⟨k + 1, by omega, by go_num, HS.out⟩
        case measure => simp [intOf]; omega
      · have HN := Lib.hid (show bitsB s = false by unfold bitsB; rw [all_of_bad hlt (by simp [isBit]; omega), Bool.and_false])
        have c1 : ((s[k].toNat : Int) != 48) = true := by simp; omega
        have c2 : ((s[k].toNat : Int) != 49) = true := by simp; omega
        clear hts hall hc h48 h49
        go_wp2
        go_ret
        exact ret_of (bool_ret HN.out.symm) (by repeat (first | exact More.refl _ | apply More.plus | apply More.alloc | apply More.drew | apply More.drewN))
    · have HS := Lib.hid (show bitsB s = decide ((s.size : Int) ≤ 32000) by
        unfold upB at hall
        rw [List.take_of_length_le (by simp; omega)] at hall
        unfold bitsB allB
        rw [hall, Bool.and_true]
        exact decide_eq_decide.2 (by omega))
      clear hall
      go_wp2
      go_ret
      exact ret_of (bool_ret HS.out.symm) (by repeat (first | exact More.refl _ | apply More.plus | apply More.alloc | apply More.drew | apply More.drewN))

theorem loop_ne (bs : ByteArray) : ∀ (n i : Nat) (r : List UInt8), bs.size - i = n → r ≠ [] → ByteArray.toList.loop bs i r ≠ [] := by
  intro n
  induction n with
  | zero =>
    intro i r h hr
    rw [ByteArray.toList.loop, if_neg (by omega)]
    simp [hr]
  | succ n ih =>
    intro i r h hr
    rw [ByteArray.toList.loop, if_pos (by omega)]
    exact ih (i + 1) _ (by omega) (by simp)

theorem isEmpty_size (s : ByteArray) : s.toList.isEmpty = decide (s.size = 0) := by
  unfold ByteArray.toList
  rw [ByteArray.toList.loop]
  by_cases h : s.size = 0
  · rw [if_neg (by omega)]; simp [h]
  · rw [if_pos (by omega)]
    have := loop_ne s (s.size - 1) (0 + 1) [s.get! 0] (by omega) (by simp)
    rw [decide_eq_false h]
    simpa using this

end Go.Proofs.Ytbedikodiboofaa
