/- The reference's text of a number. -/
import Derived.Test.YtmddcbebaijjkaaGreatDoorFmp
import Derived.Test.YtmddcbebaijjkaaGreatDoorGb
namespace Go.Proofs.YtmddcbebaijjkaaGreatDoor
open Go.RowKit
set_option linter.unusedVariables false
set_option linter.unusedSimpArgs false

theorem one_dg (n : Nat) : one ((48 + n : Nat) : Int) = (⟨#[UInt8.ofNat (48 + n)]⟩ : ByteArray) := by
  unfold one
  rw [Int.toNat_natCast]

set_option maxRecDepth 100000 in
set_option maxHeartbeats 2000000 in
theorem l9Dec_nat (n : Nat) (w : World) (hn : n ≤ 9223372036854775807) : Calls Tryz.prog 56 #[.int .i64 n] w (Ret w (.string (decN n))) := by
  have v0 : decide ((n : Int) < -9223372036854775807) = false := decide_eq_false (by omega)
  have v1 : decide ((n : Int) < 0) = false := decide_eq_false (by omega)
  have HN := Lib.hid (decN_size 18 n (by omega))
  go_enter Tryz.func56, Tryz.ntmps56
  go_wp2
  go_loopw [0, 3] (fun q t wr => ∃ (m : Nat) (u : ByteArray), q = .int .i64 m ∧ t = .string u ∧ m ≤ n ∧ u.size ≤ 100 ∧ decN m ++ u = decN n ∧ More w wr) (fun q _ _ => (intOf q).toNat)
  case atStart => exact ⟨n, ⟨#[]⟩, rfl, rfl, Nat.le_refl _, by decide, by apply ByteArray.ext; simp, More.refl _⟩
  case round =>
    obtain ⟨m, u, rfl, rfl, hm, hu, hd, x, rfl⟩ := hrel
    have HD := Lib.hid hd
    clear hd
    rcases dec (9 < m) with ⟨hlt, v2⟩ | ⟨hlt, v2⟩
    · have v3 : decide ((9 : Int) < (m : Int)) = true := decide_eq_true (by omega)
      have hcv := run_one (P := Tryz.prog) (W := plus w x) Tryz.underlying34 Tryz.underlying5 Tryz.underlying9 (w.heap.size + x.n) (48 + (m : Int) % 10) (by omega) (by omega) (by simp)
      have z2 : (one (48 + (m : Int) % 10)).size ≤ 1 := Nat.le_refl _
      have HE := Lib.hid (show decN (m / 10) ++ (one (48 + (m : Int) % 10) ++ u) = decN n by
        rw [← HD.out, decN_step m hlt, ByteArray.append_assoc, show (48 + (m : Int) % 10) = ((48 + m % 10 : Nat) : Int) by omega, one_dg])
      have HZ := Lib.hid (show (one (48 + (m : Int) % 10) ++ u).size ≤ 100 by
        have h1 := congrArg ByteArray.size HE.out
        rw [ByteArray.size_append] at h1
        have := HN.out
        omega)
      have E3 := Lib.hid (show wrap64 ((m : Int) / 10) = ((m / 10 : Nat) : Int) from wrap64_of (by omega) (by omega))
      go_wp2
      go_roundw
      case rel => exact ⟨m / 10, _, int_val (by first | omega | (rw [E3.out])), by simp, by omega, HZ.out, HE.out, (by repeat (first | exact More.refl _ | apply More.plus | apply More.alloc | apply More.drew | apply More.drewN))⟩
      case measure => simp [intOf, E3.out]; omega
    · have v3 : decide ((9 : Int) < (m : Int)) = false := decide_eq_false (by omega)
      have hcv := run_one (P := Tryz.prog) (W := plus w x) Tryz.underlying34 Tryz.underlying5 Tryz.underlying9 (w.heap.size + x.n) (48 + (m : Int)) (by omega) (by omega) (by simp)
      have z2 : (one (48 + (m : Int))).size ≤ 1 := Nat.le_refl _
      have HE := Lib.hid (show one (48 + (m : Int)) ++ u = decN n by
        rw [← HD.out, decN_one m (by omega), show (48 + (m : Int)) = ((48 + m : Nat) : Int) by omega, one_dg])
      go_wp2
      go_ret
      exact ret_of (by rw [← HE.out]; simp) (by repeat (first | exact More.refl _ | apply More.plus | apply More.alloc | apply More.drew | apply More.drewN))

set_option maxRecDepth 100000 in
theorem l9Dec_any (n : Int) (w : World) (h0 : -9223372036854775807 ≤ n) (h1 : n ≤ 9223372036854775807) : Calls Tryz.prog 56 #[.int .i64 n] w (Ret w (.string (decB n))) := by
  by_cases hn : n < 0
  · obtain ⟨k, rfl⟩ : ∃ k : Nat, n = -(k : Int) := ⟨n.natAbs, by omega⟩
    have v0 : decide (-(k : Int) < -9223372036854775807) = false := decide_eq_false (by omega)
    have v1 : decide (-(k : Int) < 0) = true := decide_eq_true (by omega)
    have HB := Lib.hid (decB_neg k (by omega))
    have hz := decN_size 18 k (by omega)
    go_enter Tryz.func56, Tryz.ntmps56
    go_wp2_with fail
    refine (l9Dec_nat k _ (by omega)).mono ?_
    rintro e w' ⟨rfl, x, rfl⟩
    go_wp2
    go_ret
    exact ret_of (by rw [HB.out]; rfl) (by repeat (first | exact More.refl _ | apply More.plus | apply More.alloc | apply More.drew | apply More.drewN))
  · obtain ⟨k, rfl⟩ : ∃ k : Nat, n = (k : Int) := ⟨n.toNat, by omega⟩
    rw [decB_nat]
    exact l9Dec_nat k w (by omega)

end Go.Proofs.YtmddcbebaijjkaaGreatDoor
