/- The laws of sums walked. -/
import Derived.Test.YtmgmofdgciakbaaSma
import Derived.Shelf.RegionOpenPlain
namespace Go.Proofs.Ytmgmofdgciakbaa
open Go.RowKit
set_option linter.unusedVariables false
set_option linter.unusedSimpArgs false

set_option maxRecDepth 100000 in
set_option maxHeartbeats 4000000 in
theorem lawSumChange_fit (a : Option Addr) (cap : Nat) (bs : List UInt8) (a2 : Option Addr) (cap2 n2 : Nat) (w : World) (hr : Rd encB w a cap bs) (h1 : bs.length ≤ 1048576) (h2 : n2 ≤ 1048576) :
    Calls Try.prog 3 #[.slice a bs.length cap, .slice a2 n2 cap2] w (fun e w' => e = .returned (.bool true) ∧ Below w.heap.size w w') := by
  have mixed : Try.prog.follows .mixedOrders = true := by kernel_rfl
  go_enter Try.func3, Try.ntmps3
  go_wp2_with fail
  refine (DrawSumOf_any a cap bs w hr).mono ?_
  rintro e w1 ⟨s, rfl, hs, hb⟩
  have HB := Lib.hid hb
  have hsz := hb.size
  clear hb
  have e1 : (sumOf s.data.toList != sumOf s.data.toList) = false := by simp
  go_wp2_with (first | (go_at_call 6; refine (implSumOf_any _ _ (by omega)).mono ?_; rintro e w' ⟨rfl, x1, rfl⟩) | (go_at_call 7; refine (specSumOf_any _ _ (by omega)).mono ?_; rintro e w' ⟨rfl, x2, rfl⟩))
  go_loopw [7] (fun q wr => ∃ (k : Nat) (x : Ext), k ≤ s.size ∧ q = .int .i64 k ∧ wr = plus w1 x) (fun q _ => s.size - (intOf q).toNat)
  case atStart => exact ⟨0, _, Nat.zero_le _, rfl, rfl⟩
  case round =>
    obtain ⟨k, x, hk, rfl, rfl⟩ := hrel
    rcases dec (k < s.size) with ⟨hlt, v1⟩ | ⟨hlt, v1⟩
    · have hc : s[k].toNat ≤ 255 := by have := s[k].toNat_lt; omega
      go_wp2_with fail
      obtain ⟨V, hV⟩ : ∃ V, ((s[k].toNat : Int) + 1 + (n2 : Int) % 254) % 256 = V := ⟨_, rfl⟩
      rw [hV]
      have hV0 : 0 ≤ V := by omega
      have hV1 : V ≤ 255 := by omega
      have hcv := fun (W : World) (b : Nat) (hb : b = W.heap.size) => run_one (P := Try.prog) (W := W) Try.underlying22 Try.underlying5 Try.underlying9 b V hV0 hV1 hb
      have z1 : (one V).size = 1 := rfl
      have n1 : ¬ 9223372036854775807 < k + 1 := by omega
      have n3 : ¬ 9223372036854775807 < k + 1 + (s.size - (k + 1)) := by omega
      go_region_o
      obtain ⟨y, hy⟩ : ∃ y, s.extract 0 k ++ one V ++ s.extract (k + 1) s.size = y := ⟨_, rfl⟩
      rw [hy]
      have hyl : y.data.toList = s.data.toList.take k ++ [UInt8.ofNat V.toNat] ++ s.data.toList.drop (k + 1) := by
        rw [← hy]
        simp [one]
        rw [List.take_of_length_le (by simp)]
      have hys : y.size ≤ 30 := by rw [← bytes_len, hyl]; simp; omega
      have hch := sum_change (l := s.data.toList) (k := k) (c := s[k]) (b := UInt8.ofNat V.toNat) (by rw [List.getElem?_eq_getElem (by simpa using hlt), bytes_get hlt])
      rw [← hyl, show ((UInt8.ofNat V.toNat).toNat : Int) = V by rw [UInt8.toNat_ofNat']; omega] at hch
      have HCH := Lib.hid hch
      have W1 := Lib.hid (show IntKind.i64.wrap V = V from IntWalk.i64_in _ (by omega))
      have W2 := Lib.hid (show IntKind.i64.wrap (s[k].toNat : Int) = (s[k].toNat : Int) from IntWalk.i64_in _ (by omega))
      have W3 := Lib.hid (show IntKind.i64.wrap (V - (s[k].toNat : Int)) = V - (s[k].toNat : Int) from IntWalk.i64_in _ (by omega))
      clear hy hyl hch hcv z1 n1 n3
      by_cases hq : (V - (s[k].toNat : Int)) % 255 = 0
      · have v3 : (sumOf y.data.toList == sumOf s.data.toList) = true := by simp [HCH.out.2 hq]
        have v4 : (Int.tmod (V - (s[k].toNat : Int)) 255 == 0) = true := by simp; exact Int.tmod_eq_zero_of_dvd (Int.dvd_of_emod_eq_zero hq)
        clear hq
        go_wp2_with fail
        refine wp_region_pu 13 (fun w' => ∃ y, w' = plus _ y) (Plan.quiet 0 (Plan.quiet 2 (Plan.quiet 4 (Plan.quiet 5 (Plan.quiet 6 (Plan.quiet 7 (Plan.quiet 8 (Plan.quiet 9 (Plan.quiet 10 (Plan.quiet 11 (Plan.quiet 12 (Plan.one 1 (Plan.quiet 3 (Plan.one 13 Plan.done)))))))))))))) (by kernel_rfl) (by kernel_rfl) (⟨_, drew_is_plus _⟩) ?_
        refine wpPt_val rfl rfl ?_
        apply Exists.intro
        refine ⟨fun w' hS => ?_, ?_⟩
        focus (obtain ⟨y3, rfl⟩ := hS; simp [go_sem, ↓IntWalk.iteOmega, v3, v4, hlt, W1.out, W2.out, W3.out] <;> first | done | exact rfl | (rw [IntWalk.i64_in _ (by omega)]; exact rfl) | trace_state)
        refine wpPt_val rfl rfl ?_
        apply Exists.intro
        refine ⟨fun w' hS => ?_, ?_⟩
        focus (obtain ⟨y3, rfl⟩ := hS; simp [go_sem, ↓IntWalk.iteOmega, v3, v4, hlt, W1.out, W2.out, W3.out] <;> first | done | exact rfl | (rw [IntWalk.i64_in _ (by omega)]; exact rfl) | trace_state)
        refine wpPt_val rfl rfl ?_
        apply Exists.intro
        refine ⟨fun w' hS => ?_, ?_⟩
        focus (obtain ⟨y3, rfl⟩ := hS; simp [go_sem, ↓IntWalk.iteOmega, v3, v4, hlt, W1.out, W2.out, W3.out] <;> first | done | exact rfl | (rw [IntWalk.i64_in _ (by omega)]; exact rfl) | trace_state)
        refine wpPt_val rfl rfl ?_
        apply Exists.intro
        refine ⟨fun w' hS => ?_, ?_⟩
        focus (obtain ⟨y3, rfl⟩ := hS; simp [go_sem, ↓IntWalk.iteOmega, v3, v4, hlt, W1.out, W2.out, W3.out] <;> first | done | exact rfl | (rw [IntWalk.i64_in _ (by omega)]; exact rfl) | trace_state)
        refine wpPt_val rfl rfl ?_
        apply Exists.intro
        refine ⟨fun w' hS => ?_, ?_⟩
        focus (obtain ⟨y3, rfl⟩ := hS; simp [go_sem, ↓IntWalk.iteOmega, v3, v4, hlt, W1.out, W2.out, W3.out] <;> first | done | exact rfl | (rw [IntWalk.i64_in _ (by omega)]; exact rfl) | trace_state)
        refine wpPt_val rfl rfl ?_
        apply Exists.intro
        refine ⟨fun w' hS => ?_, ?_⟩
        focus (obtain ⟨y3, rfl⟩ := hS; simp [go_sem, ↓IntWalk.iteOmega, v3, v4, hlt, W1.out, W2.out, W3.out] <;> first | done | exact rfl | (rw [IntWalk.i64_in _ (by omega)]; exact rfl) | trace_state)
        refine wpPt_val rfl rfl ?_
        apply Exists.intro
        refine ⟨fun w' hS => ?_, ?_⟩
        focus (obtain ⟨y3, rfl⟩ := hS; simp [go_sem, ↓IntWalk.iteOmega, v3, v4, hlt, W1.out, W2.out, W3.out] <;> first | done | exact rfl | (rw [IntWalk.i64_in _ (by omega)]; exact rfl) | trace_state)
        refine wpPt_val rfl rfl ?_
        apply Exists.intro
        refine ⟨fun w' hS => ?_, ?_⟩
        focus (obtain ⟨y3, rfl⟩ := hS; simp [go_sem, ↓IntWalk.iteOmega, v3, v4, hlt, W1.out, W2.out, W3.out] <;> first | done | exact rfl | (rw [IntWalk.i64_in _ (by omega)]; exact rfl) | trace_state)
        refine wpPt_val rfl rfl ?_
        apply Exists.intro
        refine ⟨fun w' hS => ?_, ?_⟩
        focus (obtain ⟨y3, rfl⟩ := hS; simp [go_sem, ↓IntWalk.iteOmega, v3, v4, hlt, W1.out, W2.out, W3.out] <;> first | done | exact rfl | (rw [IntWalk.i64_in _ (by omega)]; exact rfl) | trace_state)
        refine wpPt_val rfl rfl ?_
        apply Exists.intro
        refine ⟨fun w' hS => ?_, ?_⟩
        focus (obtain ⟨y3, rfl⟩ := hS; simp [go_sem, ↓IntWalk.iteOmega, v3, v4, hlt, W1.out, W2.out, W3.out] <;> first | done | exact rfl | (rw [IntWalk.i64_in _ (by omega)]; exact rfl) | trace_state)
        refine wpPt_val rfl rfl ?_
        apply Exists.intro
        refine ⟨fun w' hS => ?_, ?_⟩
        focus (obtain ⟨y3, rfl⟩ := hS; simp [go_sem, ↓IntWalk.iteOmega, v3, v4, hlt, W1.out, W2.out, W3.out] <;> first | done | exact rfl | (rw [IntWalk.i64_in _ (by omega)]; exact rfl) | trace_state)
        refine wpPt_one rfl rfl (fun K hK => ?_)
        go_simp
        refine (implSumOf_any y _ (by omega)).mono ?_
        rintro e w' ⟨rfl, x3, rfl⟩
        refine hK _ _ (fun hkn => ⟨_, rfl⟩) ?_
        clear hK K
        refine wpPt_val rfl rfl ?_
        apply Exists.intro
        refine ⟨fun w' hS => ?_, ?_⟩
        focus (obtain ⟨y3, rfl⟩ := hS; simp [go_sem, ↓IntWalk.iteOmega, v3, v4, hlt, W1.out, W2.out, W3.out] <;> first | done | exact rfl | (rw [IntWalk.i64_in _ (by omega)]; exact rfl) | trace_state)
        refine wpPt_one rfl rfl (fun K hK => ?_)
        go_simp
        refine hK _ _ (fun hkn => absurd hkn (by decide)) ?_
        clear hK K
        refine NoPanic.normal ?_
        go_wp2
        go_roundw
        case rel => exact ⟨k + 1, _, by omega, by go_num, by rw [alloc_plus, plus_plus, plus_plus]⟩
        case measure => simp [intOf]; omega
      · have v3 : (sumOf y.data.toList == sumOf s.data.toList) = false := by simp; exact fun e => hq (HCH.out.1 e)
        have v4 : (Int.tmod (V - (s[k].toNat : Int)) 255 == 0) = false := by simp; exact fun e => hq (Int.emod_eq_zero_of_dvd (Int.dvd_of_tmod_eq_zero e))
        clear hq
        go_wp2_with fail
        refine wp_region_pu 13 (fun w' => ∃ y, w' = plus _ y) (Plan.quiet 0 (Plan.quiet 2 (Plan.quiet 4 (Plan.quiet 5 (Plan.quiet 6 (Plan.quiet 7 (Plan.quiet 8 (Plan.quiet 9 (Plan.quiet 10 (Plan.quiet 11 (Plan.quiet 12 (Plan.one 1 (Plan.quiet 3 (Plan.one 13 Plan.done)))))))))))))) (by kernel_rfl) (by kernel_rfl) (⟨_, drew_is_plus _⟩) ?_
        refine wpPt_val rfl rfl ?_
        apply Exists.intro
        refine ⟨fun w' hS => ?_, ?_⟩
        focus (obtain ⟨y3, rfl⟩ := hS; simp [go_sem, ↓IntWalk.iteOmega, v3, v4, hlt, W1.out, W2.out, W3.out] <;> first | done | exact rfl | (rw [IntWalk.i64_in _ (by omega)]; exact rfl) | trace_state)
        refine wpPt_val rfl rfl ?_
        apply Exists.intro
        refine ⟨fun w' hS => ?_, ?_⟩
        focus (obtain ⟨y3, rfl⟩ := hS; simp [go_sem, ↓IntWalk.iteOmega, v3, v4, hlt, W1.out, W2.out, W3.out] <;> first | done | exact rfl | (rw [IntWalk.i64_in _ (by omega)]; exact rfl) | trace_state)
        refine wpPt_val rfl rfl ?_
        apply Exists.intro
        refine ⟨fun w' hS => ?_, ?_⟩
        focus (obtain ⟨y3, rfl⟩ := hS; simp [go_sem, ↓IntWalk.iteOmega, v3, v4, hlt, W1.out, W2.out, W3.out] <;> first | done | exact rfl | (rw [IntWalk.i64_in _ (by omega)]; exact rfl) | trace_state)
        refine wpPt_val rfl rfl ?_
        apply Exists.intro
        refine ⟨fun w' hS => ?_, ?_⟩
        focus (obtain ⟨y3, rfl⟩ := hS; simp [go_sem, ↓IntWalk.iteOmega, v3, v4, hlt, W1.out, W2.out, W3.out] <;> first | done | exact rfl | (rw [IntWalk.i64_in _ (by omega)]; exact rfl) | trace_state)
        refine wpPt_val rfl rfl ?_
        apply Exists.intro
        refine ⟨fun w' hS => ?_, ?_⟩
        focus (obtain ⟨y3, rfl⟩ := hS; simp [go_sem, ↓IntWalk.iteOmega, v3, v4, hlt, W1.out, W2.out, W3.out] <;> first | done | exact rfl | (rw [IntWalk.i64_in _ (by omega)]; exact rfl) | trace_state)
        refine wpPt_val rfl rfl ?_
        apply Exists.intro
        refine ⟨fun w' hS => ?_, ?_⟩
        focus (obtain ⟨y3, rfl⟩ := hS; simp [go_sem, ↓IntWalk.iteOmega, v3, v4, hlt, W1.out, W2.out, W3.out] <;> first | done | exact rfl | (rw [IntWalk.i64_in _ (by omega)]; exact rfl) | trace_state)
        refine wpPt_val rfl rfl ?_
        apply Exists.intro
        refine ⟨fun w' hS => ?_, ?_⟩
        focus (obtain ⟨y3, rfl⟩ := hS; simp [go_sem, ↓IntWalk.iteOmega, v3, v4, hlt, W1.out, W2.out, W3.out] <;> first | done | exact rfl | (rw [IntWalk.i64_in _ (by omega)]; exact rfl) | trace_state)
        refine wpPt_val rfl rfl ?_
        apply Exists.intro
        refine ⟨fun w' hS => ?_, ?_⟩
        focus (obtain ⟨y3, rfl⟩ := hS; simp [go_sem, ↓IntWalk.iteOmega, v3, v4, hlt, W1.out, W2.out, W3.out] <;> first | done | exact rfl | (rw [IntWalk.i64_in _ (by omega)]; exact rfl) | trace_state)
        refine wpPt_val rfl rfl ?_
        apply Exists.intro
        refine ⟨fun w' hS => ?_, ?_⟩
        focus (obtain ⟨y3, rfl⟩ := hS; simp [go_sem, ↓IntWalk.iteOmega, v3, v4, hlt, W1.out, W2.out, W3.out] <;> first | done | exact rfl | (rw [IntWalk.i64_in _ (by omega)]; exact rfl) | trace_state)
        refine wpPt_val rfl rfl ?_
        apply Exists.intro
        refine ⟨fun w' hS => ?_, ?_⟩
        focus (obtain ⟨y3, rfl⟩ := hS; simp [go_sem, ↓IntWalk.iteOmega, v3, v4, hlt, W1.out, W2.out, W3.out] <;> first | done | exact rfl | (rw [IntWalk.i64_in _ (by omega)]; exact rfl) | trace_state)
        refine wpPt_val rfl rfl ?_
        apply Exists.intro
        refine ⟨fun w' hS => ?_, ?_⟩
        focus (obtain ⟨y3, rfl⟩ := hS; simp [go_sem, ↓IntWalk.iteOmega, v3, v4, hlt, W1.out, W2.out, W3.out] <;> first | done | exact rfl | (rw [IntWalk.i64_in _ (by omega)]; exact rfl) | trace_state)
        refine wpPt_one rfl rfl (fun K hK => ?_)
        go_simp
        refine (implSumOf_any y _ (by omega)).mono ?_
        rintro e w' ⟨rfl, x3, rfl⟩
        refine hK _ _ (fun hkn => ⟨_, rfl⟩) ?_
        clear hK K
        refine wpPt_val rfl rfl ?_
        apply Exists.intro
        refine ⟨fun w' hS => ?_, ?_⟩
        focus (obtain ⟨y3, rfl⟩ := hS; simp [go_sem, ↓IntWalk.iteOmega, v3, v4, hlt, W1.out, W2.out, W3.out] <;> first | done | exact rfl | (rw [IntWalk.i64_in _ (by omega)]; exact rfl) | trace_state)
        refine wpPt_one rfl rfl (fun K hK => ?_)
        go_simp
        refine hK _ _ (fun hkn => absurd hkn (by decide)) ?_
        clear hK K
        refine NoPanic.normal ?_
        go_wp2
        go_roundw
        case rel => exact ⟨k + 1, _, by omega, by go_num, by rw [alloc_plus, plus_plus, plus_plus]⟩
        case measure => simp [intOf]; omega
    · have hcv := fun (W : World) (b : Nat) (hb : b = W.heap.size) => run_one (P := Try.prog) (W := W) Try.underlying22 Try.underlying5 Try.underlying9 b 0 (by omega) (by omega) hb
      have z0 : (one 0).size = 1 := rfl
      have z1 : (s ++ one 0).size ≤ 31 := by rw [ByteArray.size_append]; show s.size + 1 ≤ 31; omega
      have HO := Lib.hid (show (s ++ one 0).data.toList = s.data.toList ++ [0] by simp [one])
      have HL := Lib.hid (sumOf_low s.data.toList)
      have hbd := sumP_bd s.data.toList
      by_cases hz : sumOf s.data.toList % 256 = 0
      · have hz2 := sum_zero _ hz
        have e2 : (sumOf (s.data.toList ++ [0]) == sumOf s.data.toList) = true := by simp [hz2]
        clear hz2 hz
        go_wp2_with (go_at_call 6; refine (implSumOf_any _ _ (by omega)).mono ?_; rintro e w' ⟨rfl, x3, rfl⟩; rw [HO.out])
        go_ret
        exact ⟨by simp [e2], (by repeat (first | (with_reducible exact HB.out) | refine below_plus ?_ (by first | omega | (simp <;> omega)) _ | refine Below.alloc ?_ (by first | omega | (simp <;> omega)) _ | refine below_patch ?_ (by omega) _ | refine Below.drew ?_))⟩
      · have e2 : (sumOf s.data.toList % 256 != 0) = true := by simp [hz]
        have e3 : ¬ (sumOf s.data.toList).tmod 256 = 0 := by rw [Int.tmod_eq_emod_of_nonneg (by unfold sumOf; omega)]; exact hz
        go_wp2_with (go_at_call 6; refine (implSumOf_any _ _ (by omega)).mono ?_; rintro e w' ⟨rfl, x3, rfl⟩; rw [HO.out])
        all_goals (go_ret; exact ⟨by simp [e2, e3], (by repeat (first | (with_reducible exact HB.out) | refine below_plus ?_ (by first | omega | (simp <;> omega)) _ | refine Below.alloc ?_ (by first | omega | (simp <;> omega)) _ | refine below_patch ?_ (by omega) _ | refine Below.drew ?_))⟩)

theorem lawSumChange_any (a : Option Addr) (cap : Nat) (bs : List UInt8) (a2 : Option Addr) (cap2 : Nat) (bs2 : List UInt8) (w : World) (hr : Rd encB w a cap bs) (hr2 : Rd encB w a2 cap2 bs2) :
    Calls Try.prog 3 #[.slice a bs.length cap, .slice a2 bs2.length cap2] w (fun e w' => e = .returned (.bool true) ∧ Below w.heap.size w w') := by
  have g1 := hr.1
  have g2 := hr.2.1
  have g3 := hr2.1
  have g4 := hr2.2.1
  by_cases h1 : bs.length ≤ 1048576
  · by_cases h2 : bs2.length ≤ 1048576
    · exact lawSumChange_fit a cap bs a2 cap2 bs2.length w hr h1 h2
    · go_enter Try.func3, Try.ntmps3
      go_wp2
      go_ret
      exact ⟨rfl, (by repeat (first | exact Below.refl _ _ | refine below_plus ?_ (by first | omega | (simp <;> omega)) _ | refine Below.alloc ?_ (by first | omega | (simp <;> omega)) _ | refine below_patch ?_ (by omega) _ | refine Below.drew ?_))⟩
  · go_enter Try.func3, Try.ntmps3
    go_wp2
    go_ret
    exact ⟨rfl, (by repeat (first | exact Below.refl _ _ | refine below_plus ?_ (by first | omega | (simp <;> omega)) _ | refine Below.alloc ?_ (by first | omega | (simp <;> omega)) _ | refine below_patch ?_ (by omega) _ | refine Below.drew ?_))⟩

set_option maxRecDepth 100000 in
set_option maxHeartbeats 4000000 in
theorem lawSumCut_fit (a : Option Addr) (cap : Nat) (bs : List UInt8) (a2 : Option Addr) (cap2 n2 : Nat) (w : World) (hr : Rd encB w a cap bs) (h1 : bs.length ≤ 1048576) (h2 : n2 ≤ 1048576) :
    Calls Try.prog 4 #[.slice a bs.length cap, .slice a2 n2 cap2] w (fun e w' => e = .returned (.bool true) ∧ Below w.heap.size w w') := by
  have mixed : Try.prog.follows .mixedOrders = true := by kernel_rfl
  go_enter Try.func4, Try.ntmps4
  go_wp2_with fail
  refine (DrawSumOf_any a cap bs w hr).mono ?_
  rintro e w1 ⟨s, rfl, hs, hb⟩
  have HB := Lib.hid hb
  have hsz := hb.size
  clear hb
  have e1 : (sumOf s.data.toList != sumOf s.data.toList) = false := by simp
  have hbd : 0 ≤ sumOf s.data.toList ∧ sumOf s.data.toList ≤ 65535 := by have := sumP_bd s.data.toList; unfold sumOf; omega
  go_wp2_with (first | (go_at_call 6; refine (implSumOf_any _ _ (by omega)).mono ?_; rintro e w' ⟨rfl, x1, rfl⟩) | (go_at_call 7; refine (specSumOf_any _ _ (by omega)).mono ?_; rintro e w' ⟨rfl, x2, rfl⟩))
  go_loopw [7] (fun q wr => ∃ (j : Nat) (x : Ext), (j + 1 ≤ s.size ∨ j = 0) ∧ q = .int .i64 ((j : Int) + 1) ∧ wr = plus w1 x) (fun q _ => s.size + 1 - (intOf q).toNat)
  case atStart => exact ⟨0, _, .inr rfl, rfl, rfl⟩
  case round =>
    obtain ⟨j, x, hj, rfl, rfl⟩ := hrel
    rcases dec ((j : Int) + 1 < s.size) with ⟨hlt, v1⟩ | ⟨hlt, v1⟩
    · have h0 : j < s.size := by omega
      have h1' : j + 1 < s.size := by omega
      have hk9 : 0 ≤ (j : Int) + 1 ∧ (j : Int) + 1 < (s.size : Int) := by omega
      have hc0 : s[j].toNat ≤ 255 := by have := s[j].toNat_lt; omega
      have hc1 : s[j + 1].toNat ≤ 255 := by have := s[j + 1].toNat_lt; omega
      have W1 := Lib.hid (show IntKind.i64.wrap (j : Int) = (j : Int) from IntWalk.i64_in _ (by omega))
      have W2 := Lib.hid (show IntKind.i64.wrap ((j : Int) + 1 + 1) = (j : Int) + 1 + 1 from IntWalk.i64_in _ (by omega))
      have W3 := Lib.hid (show IntKind.i64.wrap (s[j].toNat : Int) = (s[j].toNat : Int) from IntWalk.i64_in _ (by omega))
      have W4 := Lib.hid (show IntKind.i64.wrap (s[j + 1].toNat : Int) = (s[j + 1].toNat : Int) from IntWalk.i64_in _ (by omega))
      have W5 := Lib.hid (show IntKind.i64.wrap ((s[j + 1].toNat : Int) - (s[j].toNat : Int)) = (s[j + 1].toNat : Int) - (s[j].toNat : Int) from IntWalk.i64_in _ (by omega))
      have e5 : ((j : Int) + 1).toNat = j + 1 := by omega
      have e6 : ((j : Int) + 1 + 1).toNat = j + 2 := by omega
      have hsl1 := fun (W : World) => run_slice_string (P := Try.prog) W 9 s .i64 .i64 ((j : Int) + 1) ((j : Int) + 1 + 1) Try.underlying9 (by omega) (by omega) (by omega)
      have hsl2 := fun (W : World) => run_slice_string (P := Try.prog) W 9 s .i64 .i64 (j : Int) ((j : Int) + 1) Try.underlying9 (by omega) (by omega) (by omega)
      simp only [e5, e6, show ((j : Int)).toNat = j by omega] at hsl1 hsl2
      go_wp2_with fail
      refine wp_region_pt 21 (fun w' => ∃ y, w' = plus _ y) (Plan.quiet 0 (Plan.quiet 1 (Plan.quiet 2 (Plan.quiet 3 (Plan.quiet 4 (Plan.quiet 5 (Plan.quiet 6 (Plan.quiet 7 (Plan.quiet 8 (Plan.quiet 9 (Plan.quiet 10 (Plan.quiet 11 (Plan.quiet 12 (Plan.quiet 13 (Plan.quiet 14 (Plan.quiet 15 (Plan.quiet 16 (Plan.quiet 17 (Plan.quiet 18 (Plan.quiet 19 (Plan.quiet 20 (Plan.one 21 Plan.done)))))))))))))))))))))) (by kernel_rfl) (by kernel_rfl) (⟨_, drew_is_plus _⟩) ?_
      refine wpPt_val rfl rfl ?_
      apply Exists.intro
      refine ⟨fun w' hS => ?_, ?_⟩
      focus (obtain ⟨y3, rfl⟩ := hS; simp [go_sem, ↓IntWalk.iteOmega, e5, e6, W1.out, W2.out, hsl1, hsl2] <;> first | done | exact rfl | (rw [IntWalk.i64_in _ (by omega)]; exact rfl) | trace_state)
      refine wpPt_val rfl rfl ?_
      apply Exists.intro
      refine ⟨fun w' hS => ?_, ?_⟩
      focus (obtain ⟨y3, rfl⟩ := hS; simp [go_sem, ↓IntWalk.iteOmega, e5, e6, W1.out, W2.out, hsl1, hsl2] <;> first | done | exact rfl | (rw [IntWalk.i64_in _ (by omega)]; exact rfl) | trace_state)
      refine wpPt_val rfl rfl ?_
      apply Exists.intro
      refine ⟨fun w' hS => ?_, ?_⟩
      focus (obtain ⟨y3, rfl⟩ := hS; simp [go_sem, ↓IntWalk.iteOmega, e5, e6, W1.out, W2.out, hsl1, hsl2] <;> first | done | exact rfl | (rw [IntWalk.i64_in _ (by omega)]; exact rfl) | trace_state)
      refine wpPt_val rfl rfl ?_
      apply Exists.intro
      refine ⟨fun w' hS => ?_, ?_⟩
      focus (obtain ⟨y3, rfl⟩ := hS; simp [go_sem, ↓IntWalk.iteOmega, e5, e6, W1.out, W2.out, hsl1, hsl2] <;> first | done | exact rfl | (rw [IntWalk.i64_in _ (by omega)]; exact rfl) | trace_state)
      refine wpPt_val rfl rfl ?_
      apply Exists.intro
      refine ⟨fun w' hS => ?_, ?_⟩
      focus (obtain ⟨y3, rfl⟩ := hS; simp [go_sem, ↓IntWalk.iteOmega, e5, e6, W1.out, W2.out, hsl1, hsl2] <;> first | done | exact rfl | (rw [IntWalk.i64_in _ (by omega)]; exact rfl) | trace_state)
      refine wpPt_val rfl rfl ?_
      apply Exists.intro
      refine ⟨fun w' hS => ?_, ?_⟩
      focus (obtain ⟨y3, rfl⟩ := hS; simp [go_sem, ↓IntWalk.iteOmega, e5, e6, W1.out, W2.out, hsl1, hsl2] <;> first | done | exact rfl | (rw [IntWalk.i64_in _ (by omega)]; exact rfl) | trace_state)
      refine wpPt_val rfl rfl ?_
      apply Exists.intro
      refine ⟨fun w' hS => ?_, ?_⟩
      focus (obtain ⟨y3, rfl⟩ := hS; simp [go_sem, ↓IntWalk.iteOmega, e5, e6, W1.out, W2.out, hsl1, hsl2] <;> first | done | exact rfl | (rw [IntWalk.i64_in _ (by omega)]; exact rfl) | trace_state)
      refine wpPt_val rfl rfl ?_
      apply Exists.intro
      refine ⟨fun w' hS => ?_, ?_⟩
      focus (obtain ⟨y3, rfl⟩ := hS; simp [go_sem, ↓IntWalk.iteOmega, e5, e6, W1.out, W2.out, hsl1, hsl2] <;> first | done | exact rfl | (rw [IntWalk.i64_in _ (by omega)]; exact rfl) | trace_state)
      refine wpPt_val rfl rfl ?_
      apply Exists.intro
      refine ⟨fun w' hS => ?_, ?_⟩
      focus (obtain ⟨y3, rfl⟩ := hS; simp [go_sem, ↓IntWalk.iteOmega, e5, e6, W1.out, W2.out, hsl1, hsl2] <;> first | done | exact rfl | (rw [IntWalk.i64_in _ (by omega)]; exact rfl) | trace_state)
      refine wpPt_val rfl rfl ?_
      apply Exists.intro
      refine ⟨fun w' hS => ?_, ?_⟩
      focus (obtain ⟨y3, rfl⟩ := hS; simp [go_sem, ↓IntWalk.iteOmega, e5, e6, W1.out, W2.out, hsl1, hsl2] <;> first | done | exact rfl | (rw [IntWalk.i64_in _ (by omega)]; exact rfl) | trace_state)
      refine wpPt_val rfl rfl ?_
      apply Exists.intro
      refine ⟨fun w' hS => ?_, ?_⟩
      focus (obtain ⟨y3, rfl⟩ := hS; simp [go_sem, ↓IntWalk.iteOmega, e5, e6, W1.out, W2.out, hsl1, hsl2] <;> first | done | exact rfl | (rw [IntWalk.i64_in _ (by omega)]; exact rfl) | trace_state)
      refine wpPt_val rfl rfl ?_
      apply Exists.intro
      refine ⟨fun w' hS => ?_, ?_⟩
      focus (obtain ⟨y3, rfl⟩ := hS; simp [go_sem, ↓IntWalk.iteOmega, e5, e6, W1.out, W2.out, hsl1, hsl2] <;> first | done | exact rfl | (rw [IntWalk.i64_in _ (by omega)]; exact rfl) | trace_state)
      refine wpPt_val rfl rfl ?_
      apply Exists.intro
      refine ⟨fun w' hS => ?_, ?_⟩
      focus (obtain ⟨y3, rfl⟩ := hS; simp [go_sem, ↓IntWalk.iteOmega, e5, e6, W1.out, W2.out, hsl1, hsl2] <;> first | done | exact rfl | (rw [IntWalk.i64_in _ (by omega)]; exact rfl) | trace_state)
      refine wpPt_val rfl rfl ?_
      apply Exists.intro
      refine ⟨fun w' hS => ?_, ?_⟩
      focus (obtain ⟨y3, rfl⟩ := hS; simp [go_sem, ↓IntWalk.iteOmega, e5, e6, W1.out, W2.out, hsl1, hsl2] <;> first | done | exact rfl | (rw [IntWalk.i64_in _ (by omega)]; exact rfl) | trace_state)
      refine wpPt_val rfl rfl ?_
      apply Exists.intro
      refine ⟨fun w' hS => ?_, ?_⟩
      focus (obtain ⟨y3, rfl⟩ := hS; simp [go_sem, ↓IntWalk.iteOmega, e5, e6, W1.out, W2.out, hsl1, hsl2] <;> first | done | exact rfl | (rw [IntWalk.i64_in _ (by omega)]; exact rfl) | trace_state)
      refine wpPt_val rfl rfl ?_
      apply Exists.intro
      refine ⟨fun w' hS => ?_, ?_⟩
      focus (obtain ⟨y3, rfl⟩ := hS; simp [go_sem, ↓IntWalk.iteOmega, e5, e6, W1.out, W2.out, hsl1, hsl2] <;> first | done | exact rfl | (rw [IntWalk.i64_in _ (by omega)]; exact rfl) | trace_state)
      refine wpPt_val rfl rfl ?_
      apply Exists.intro
      refine ⟨fun w' hS => ?_, ?_⟩
      focus (obtain ⟨y3, rfl⟩ := hS; simp [go_sem, ↓IntWalk.iteOmega, e5, e6, W1.out, W2.out, hsl1, hsl2] <;> first | done | exact rfl | (rw [IntWalk.i64_in _ (by omega)]; exact rfl) | trace_state)
      refine wpPt_val rfl rfl ?_
      apply Exists.intro
      refine ⟨fun w' hS => ?_, ?_⟩
      focus (obtain ⟨y3, rfl⟩ := hS; simp [go_sem, ↓IntWalk.iteOmega, e5, e6, W1.out, W2.out, hsl1, hsl2] <;> first | done | exact rfl | (rw [IntWalk.i64_in _ (by omega)]; exact rfl) | trace_state)
      refine wpPt_val rfl rfl ?_
      apply Exists.intro
      refine ⟨fun w' hS => ?_, ?_⟩
      focus (obtain ⟨y3, rfl⟩ := hS; simp [go_sem, ↓IntWalk.iteOmega, e5, e6, W1.out, W2.out, hsl1, hsl2] <;> first | done | exact rfl | (rw [IntWalk.i64_in _ (by omega)]; exact rfl) | trace_state)
      refine wpPt_val rfl rfl ?_
      apply Exists.intro
      refine ⟨fun w' hS => ?_, ?_⟩
      focus (obtain ⟨y3, rfl⟩ := hS; simp [go_sem, ↓IntWalk.iteOmega, e5, e6, W1.out, W2.out, hsl1, hsl2] <;> first | done | exact rfl | (rw [IntWalk.i64_in _ (by omega)]; exact rfl) | trace_state)
      refine wpPt_val rfl rfl ?_
      apply Exists.intro
      refine ⟨fun w' hS => ?_, ?_⟩
      focus (obtain ⟨y3, rfl⟩ := hS; simp [go_sem, ↓IntWalk.iteOmega, e5, e6, W1.out, W2.out, hsl1, hsl2] <;> first | done | exact rfl | (rw [IntWalk.i64_in _ (by omega)]; exact rfl) | trace_state)
      refine wpPt_one rfl rfl (fun K hK => ?_)
      go_simp
      refine hK _ _ (fun hkn => absurd hkn (by decide)) ?_
      clear hK K
      refine NoPanic.normal ?_
      obtain ⟨y, hy⟩ : ∃ y, s.extract 0 j ++ s.extract (j + 1) (j + 2) ++ s.extract j (j + 1) ++ s.extract (j + 2) s.size = y := ⟨_, rfl⟩
      rw [hy]
      have hone : ∀ i (h : i < s.size), (s.data.toList.drop i).take 1 = [s[i]] := fun i h => by
        rw [List.drop_eq_getElem_cons (by simpa using h), bytes_get h]; rfl
      have hyl : y.data.toList = s.data.toList.take j ++ [s[j + 1]] ++ [s[j]] ++ s.data.toList.drop (j + 2) := by
        rw [← hy]
        simp
        rw [hone _ h1', hone _ h0, List.take_of_length_le (by simp)]
        rfl
      have hys : y.size ≤ 30 := by rw [← bytes_len, hyl]; simp; omega
      have hch := sum_turn (l := s.data.toList) (k := j) (u := s[j]) (v := s[j + 1]) (by rw [List.getElem?_eq_getElem (by simpa using h0), bytes_get h0]) (by rw [List.getElem?_eq_getElem (by simpa using h1'), bytes_get h1'])
      rw [← hyl] at hch
      have HCH := Lib.hid hch
      clear hy hyl hch hone
      by_cases hq : ((s[j + 1].toNat : Int) - (s[j].toNat : Int)) % 255 = 0
      · have v3 : (sumOf y.data.toList != sumOf s.data.toList) = false := by simp [HCH.out.2 hq]
        have v4 : (Int.tmod ((s[j + 1].toNat : Int) - (s[j].toNat : Int)) 255 != 0) = false := by simp; exact Int.tmod_eq_zero_of_dvd (Int.dvd_of_emod_eq_zero hq)
        clear hq
        go_wp2_with fail
        refine wp_region_pt 12 (fun w' => ∃ y, w' = plus _ y) (Plan.quiet 0 (Plan.quiet 1 (Plan.quiet 2 (Plan.quiet 3 (Plan.quiet 4 (Plan.quiet 5 (Plan.quiet 6 (Plan.quiet 7 (Plan.quiet 8 (Plan.quiet 9 (Plan.quiet 10 (Plan.quiet 11 (Plan.one 12 Plan.done))))))))))))) (by kernel_rfl) (by kernel_rfl) (⟨_, drew_is_plus _⟩) ?_
        refine wpPt_val rfl rfl ?_
        apply Exists.intro
        refine ⟨fun w' hS => ?_, ?_⟩
        focus (obtain ⟨y3, rfl⟩ := hS; simp [go_sem, ↓IntWalk.iteOmega, v3, v4, h0, h1', hk9, e5, W1.out, W2.out, W3.out, W4.out, W5.out] <;> first | done | exact rfl | (rw [IntWalk.i64_in _ (by omega)]; exact rfl) | trace_state)
        refine wpPt_val rfl rfl ?_
        apply Exists.intro
        refine ⟨fun w' hS => ?_, ?_⟩
        focus (obtain ⟨y3, rfl⟩ := hS; simp [go_sem, ↓IntWalk.iteOmega, v3, v4, h0, h1', hk9, e5, W1.out, W2.out, W3.out, W4.out, W5.out] <;> first | done | exact rfl | (rw [IntWalk.i64_in _ (by omega)]; exact rfl) | trace_state)
        refine wpPt_val rfl rfl ?_
        apply Exists.intro
        refine ⟨fun w' hS => ?_, ?_⟩
        focus (obtain ⟨y3, rfl⟩ := hS; simp [go_sem, ↓IntWalk.iteOmega, v3, v4, h0, h1', hk9, e5, W1.out, W2.out, W3.out, W4.out, W5.out] <;> first | done | exact rfl | (rw [IntWalk.i64_in _ (by omega)]; exact rfl) | trace_state)
        refine wpPt_val rfl rfl ?_
        apply Exists.intro
        refine ⟨fun w' hS => ?_, ?_⟩
        focus (obtain ⟨y3, rfl⟩ := hS; simp [go_sem, ↓IntWalk.iteOmega, v3, v4, h0, h1', hk9, e5, W1.out, W2.out, W3.out, W4.out, W5.out] <;> first | done | exact rfl | (rw [IntWalk.i64_in _ (by omega)]; exact rfl) | trace_state)
        refine wpPt_val rfl rfl ?_
        apply Exists.intro
        refine ⟨fun w' hS => ?_, ?_⟩
        focus (obtain ⟨y3, rfl⟩ := hS; simp [go_sem, ↓IntWalk.iteOmega, v3, v4, h0, h1', hk9, e5, W1.out, W2.out, W3.out, W4.out, W5.out] <;> first | done | exact rfl | (rw [IntWalk.i64_in _ (by omega)]; exact rfl) | trace_state)
        refine wpPt_val rfl rfl ?_
        apply Exists.intro
        refine ⟨fun w' hS => ?_, ?_⟩
        focus (obtain ⟨y3, rfl⟩ := hS; simp [go_sem, ↓IntWalk.iteOmega, v3, v4, h0, h1', hk9, e5, W1.out, W2.out, W3.out, W4.out, W5.out] <;> first | done | exact rfl | (rw [IntWalk.i64_in _ (by omega)]; exact rfl) | trace_state)
        refine wpPt_val rfl rfl ?_
        apply Exists.intro
        refine ⟨fun w' hS => ?_, ?_⟩
        focus (obtain ⟨y3, rfl⟩ := hS; simp [go_sem, ↓IntWalk.iteOmega, v3, v4, h0, h1', hk9, e5, W1.out, W2.out, W3.out, W4.out, W5.out] <;> first | done | exact rfl | (rw [IntWalk.i64_in _ (by omega)]; exact rfl) | trace_state)
        refine wpPt_val rfl rfl ?_
        apply Exists.intro
        refine ⟨fun w' hS => ?_, ?_⟩
        focus (obtain ⟨y3, rfl⟩ := hS; simp [go_sem, ↓IntWalk.iteOmega, v3, v4, h0, h1', hk9, e5, W1.out, W2.out, W3.out, W4.out, W5.out] <;> first | done | exact rfl | (rw [IntWalk.i64_in _ (by omega)]; exact rfl) | trace_state)
        refine wpPt_val rfl rfl ?_
        apply Exists.intro
        refine ⟨fun w' hS => ?_, ?_⟩
        focus (obtain ⟨y3, rfl⟩ := hS; simp [go_sem, ↓IntWalk.iteOmega, v3, v4, h0, h1', hk9, e5, W1.out, W2.out, W3.out, W4.out, W5.out] <;> first | done | exact rfl | (rw [IntWalk.i64_in _ (by omega)]; exact rfl) | trace_state)
        refine wpPt_val rfl rfl ?_
        apply Exists.intro
        refine ⟨fun w' hS => ?_, ?_⟩
        focus (obtain ⟨y3, rfl⟩ := hS; simp [go_sem, ↓IntWalk.iteOmega, v3, v4, h0, h1', hk9, e5, W1.out, W2.out, W3.out, W4.out, W5.out] <;> first | done | exact rfl | (rw [IntWalk.i64_in _ (by omega)]; exact rfl) | trace_state)
        refine wpPt_val rfl rfl ?_
        apply Exists.intro
        refine ⟨fun w' hS => ?_, ?_⟩
        focus (obtain ⟨y3, rfl⟩ := hS; simp [go_sem, ↓IntWalk.iteOmega, v3, v4, h0, h1', hk9, e5, W1.out, W2.out, W3.out, W4.out, W5.out] <;> first | done | exact rfl | (rw [IntWalk.i64_in _ (by omega)]; exact rfl) | trace_state)
        refine wpPt_val rfl rfl ?_
        apply Exists.intro
        refine ⟨fun w' hS => ?_, ?_⟩
        focus (obtain ⟨y3, rfl⟩ := hS; simp [go_sem, ↓IntWalk.iteOmega, v3, v4, h0, h1', hk9, e5, W1.out, W2.out, W3.out, W4.out, W5.out] <;> first | done | exact rfl | (rw [IntWalk.i64_in _ (by omega)]; exact rfl) | trace_state)
        refine wpPt_one rfl rfl (fun K hK => ?_)
        go_simp
        refine hK _ _ (fun hkn => absurd hkn (by decide)) ?_
        clear hK K
        refine NoPanic.normal ?_
        go_wp2_with (go_at_call 6; refine (implSumOf_any y _ (by omega)).mono ?_; rintro e w' ⟨rfl, x3, rfl⟩)
        go_roundw
        case rel => exact ⟨j + 1, _, by omega, by go_num, by (try simp only [plus_plus]); rfl⟩
        case measure => simp [intOf]; omega
      · have v3 : (sumOf y.data.toList != sumOf s.data.toList) = true := by simp; exact fun e => hq (HCH.out.1 e)
        have v4 : (Int.tmod ((s[j + 1].toNat : Int) - (s[j].toNat : Int)) 255 != 0) = true := by simp; exact fun e => hq (Int.emod_eq_zero_of_dvd (Int.dvd_of_tmod_eq_zero e))
        clear hq
        go_wp2_with fail
        refine wp_region_pt 12 (fun w' => ∃ y, w' = plus _ y) (Plan.quiet 0 (Plan.quiet 1 (Plan.quiet 2 (Plan.quiet 3 (Plan.quiet 4 (Plan.quiet 5 (Plan.quiet 6 (Plan.quiet 7 (Plan.quiet 8 (Plan.quiet 9 (Plan.quiet 10 (Plan.quiet 11 (Plan.one 12 Plan.done))))))))))))) (by kernel_rfl) (by kernel_rfl) (⟨_, drew_is_plus _⟩) ?_
        refine wpPt_val rfl rfl ?_
        apply Exists.intro
        refine ⟨fun w' hS => ?_, ?_⟩
        focus (obtain ⟨y3, rfl⟩ := hS; simp [go_sem, ↓IntWalk.iteOmega, v3, v4, h0, h1', hk9, e5, W1.out, W2.out, W3.out, W4.out, W5.out] <;> first | done | exact rfl | (rw [IntWalk.i64_in _ (by omega)]; exact rfl) | trace_state)
        refine wpPt_val rfl rfl ?_
        apply Exists.intro
        refine ⟨fun w' hS => ?_, ?_⟩
        focus (obtain ⟨y3, rfl⟩ := hS; simp [go_sem, ↓IntWalk.iteOmega, v3, v4, h0, h1', hk9, e5, W1.out, W2.out, W3.out, W4.out, W5.out] <;> first | done | exact rfl | (rw [IntWalk.i64_in _ (by omega)]; exact rfl) | trace_state)
        refine wpPt_val rfl rfl ?_
        apply Exists.intro
        refine ⟨fun w' hS => ?_, ?_⟩
        focus (obtain ⟨y3, rfl⟩ := hS; simp [go_sem, ↓IntWalk.iteOmega, v3, v4, h0, h1', hk9, e5, W1.out, W2.out, W3.out, W4.out, W5.out] <;> first | done | exact rfl | (rw [IntWalk.i64_in _ (by omega)]; exact rfl) | trace_state)
        refine wpPt_val rfl rfl ?_
        apply Exists.intro
        refine ⟨fun w' hS => ?_, ?_⟩
        focus (obtain ⟨y3, rfl⟩ := hS; simp [go_sem, ↓IntWalk.iteOmega, v3, v4, h0, h1', hk9, e5, W1.out, W2.out, W3.out, W4.out, W5.out] <;> first | done | exact rfl | (rw [IntWalk.i64_in _ (by omega)]; exact rfl) | trace_state)
        refine wpPt_val rfl rfl ?_
        apply Exists.intro
        refine ⟨fun w' hS => ?_, ?_⟩
        focus (obtain ⟨y3, rfl⟩ := hS; simp [go_sem, ↓IntWalk.iteOmega, v3, v4, h0, h1', hk9, e5, W1.out, W2.out, W3.out, W4.out, W5.out] <;> first | done | exact rfl | (rw [IntWalk.i64_in _ (by omega)]; exact rfl) | trace_state)
        refine wpPt_val rfl rfl ?_
        apply Exists.intro
        refine ⟨fun w' hS => ?_, ?_⟩
        focus (obtain ⟨y3, rfl⟩ := hS; simp [go_sem, ↓IntWalk.iteOmega, v3, v4, h0, h1', hk9, e5, W1.out, W2.out, W3.out, W4.out, W5.out] <;> first | done | exact rfl | (rw [IntWalk.i64_in _ (by omega)]; exact rfl) | trace_state)
        refine wpPt_val rfl rfl ?_
        apply Exists.intro
        refine ⟨fun w' hS => ?_, ?_⟩
        focus (obtain ⟨y3, rfl⟩ := hS; simp [go_sem, ↓IntWalk.iteOmega, v3, v4, h0, h1', hk9, e5, W1.out, W2.out, W3.out, W4.out, W5.out] <;> first | done | exact rfl | (rw [IntWalk.i64_in _ (by omega)]; exact rfl) | trace_state)
        refine wpPt_val rfl rfl ?_
        apply Exists.intro
        refine ⟨fun w' hS => ?_, ?_⟩
        focus (obtain ⟨y3, rfl⟩ := hS; simp [go_sem, ↓IntWalk.iteOmega, v3, v4, h0, h1', hk9, e5, W1.out, W2.out, W3.out, W4.out, W5.out] <;> first | done | exact rfl | (rw [IntWalk.i64_in _ (by omega)]; exact rfl) | trace_state)
        refine wpPt_val rfl rfl ?_
        apply Exists.intro
        refine ⟨fun w' hS => ?_, ?_⟩
        focus (obtain ⟨y3, rfl⟩ := hS; simp [go_sem, ↓IntWalk.iteOmega, v3, v4, h0, h1', hk9, e5, W1.out, W2.out, W3.out, W4.out, W5.out] <;> first | done | exact rfl | (rw [IntWalk.i64_in _ (by omega)]; exact rfl) | trace_state)
        refine wpPt_val rfl rfl ?_
        apply Exists.intro
        refine ⟨fun w' hS => ?_, ?_⟩
        focus (obtain ⟨y3, rfl⟩ := hS; simp [go_sem, ↓IntWalk.iteOmega, v3, v4, h0, h1', hk9, e5, W1.out, W2.out, W3.out, W4.out, W5.out] <;> first | done | exact rfl | (rw [IntWalk.i64_in _ (by omega)]; exact rfl) | trace_state)
        refine wpPt_val rfl rfl ?_
        apply Exists.intro
        refine ⟨fun w' hS => ?_, ?_⟩
        focus (obtain ⟨y3, rfl⟩ := hS; simp [go_sem, ↓IntWalk.iteOmega, v3, v4, h0, h1', hk9, e5, W1.out, W2.out, W3.out, W4.out, W5.out] <;> first | done | exact rfl | (rw [IntWalk.i64_in _ (by omega)]; exact rfl) | trace_state)
        refine wpPt_val rfl rfl ?_
        apply Exists.intro
        refine ⟨fun w' hS => ?_, ?_⟩
        focus (obtain ⟨y3, rfl⟩ := hS; simp [go_sem, ↓IntWalk.iteOmega, v3, v4, h0, h1', hk9, e5, W1.out, W2.out, W3.out, W4.out, W5.out] <;> first | done | exact rfl | (rw [IntWalk.i64_in _ (by omega)]; exact rfl) | trace_state)
        refine wpPt_one rfl rfl (fun K hK => ?_)
        go_simp
        refine hK _ _ (fun hkn => absurd hkn (by decide)) ?_
        clear hK K
        refine NoPanic.normal ?_
        go_wp2_with (go_at_call 6; refine (implSumOf_any y _ (by omega)).mono ?_; rintro e w' ⟨rfl, x3, rfl⟩)
        go_roundw
        case rel => exact ⟨j + 1, _, by omega, by go_num, by (try simp only [plus_plus]); rfl⟩
        case measure => simp [intOf]; omega
    · obtain ⟨q, hq⟩ : ∃ q : Nat, n2 % (s.size + 1) = q := ⟨_, rfl⟩
      have hq2 : q ≤ s.size := by have := Nat.mod_lt n2 (show 0 < s.size + 1 by omega); omega
      have hq3 : (n2 : Int) % ((s.size : Int) + 1) = (q : Int) := by rw [← hq]; rfl
      have hb1 := sumP_bd (s.data.toList.take q)
      have hb2 := sumP_bd (s.data.toList.drop q)
      have hsc := sum_cut s.data.toList q
      have z1 : (s.extract 0 q).size ≤ 30 := by simp; omega
      have z2 : (s.extract q s.size).size ≤ 30 := by simp; omega
      have d1 : (s.extract 0 q).data.toList = s.data.toList.take q := by simp
      have d2 : (s.extract q s.size).data.toList = s.data.toList.drop q := by simp; rw [List.take_of_length_le (by simp)]
      obtain ⟨sx, hsx⟩ : ∃ y, s.extract 0 q = y := ⟨_, rfl⟩
      obtain ⟨sy, hsy⟩ : ∃ y, s.extract q s.size = y := ⟨_, rfl⟩
      rw [hsx] at z1 d1
      rw [hsy] at z2 d2
      have D1 := Lib.hid d1
      have D2 := Lib.hid d2
      have hA : 0 ≤ sumOf (s.data.toList.take q) ∧ sumOf (s.data.toList.take q) ≤ 65535 := by unfold sumOf; omega
      have hB : 0 ≤ sumOf (s.data.toList.drop q) ∧ sumOf (s.data.toList.drop q) ≤ 65535 := by unfold sumOf; omega
      rw [List.length_drop, bytes_len, show ((s.size - q : Nat) : Int) = (s.size : Int) - q by omega] at hsc
      obtain ⟨A, hAe⟩ : ∃ A, sumOf (s.data.toList.take q) = A := ⟨_, rfl⟩
      obtain ⟨B, hBe⟩ : ∃ B, sumOf (s.data.toList.drop q) = B := ⟨_, rfl⟩
      rw [hAe] at hA hsc
      rw [hBe] at hB hsc
      have HA := Lib.hid hAe
      have HBe := Lib.hid hBe
      obtain ⟨a1, ha1⟩ : ∃ a1, A % 256 = a1 := ⟨_, rfl⟩
      obtain ⟨a2', ha2⟩ : ∃ a2, A / 256 = a2 := ⟨_, rfl⟩
      obtain ⟨b1, hb1'⟩ : ∃ b1, B % 256 = b1 := ⟨_, rfl⟩
      obtain ⟨b2, hb2'⟩ : ∃ b2, B / 256 = b2 := ⟨_, rfl⟩
      have q1 : 0 ≤ a1 ∧ a1 ≤ 255 := by omega
      have q2 : 0 ≤ a2' ∧ a2' ≤ 255 := by omega
      have q3 : 0 ≤ b1 ∧ b1 ≤ 255 := by omega
      have q4 : 0 ≤ b2 ∧ b2 ≤ 255 := by omega
      rw [ha1, ha2, hb1', hb2'] at hsc
      have hm0 : 0 ≤ a1 * ((s.size : Int) - q) := Int.mul_nonneg (by omega) (by omega)
      have hm1 : a1 * ((s.size : Int) - q) ≤ 255 * 30 := Int.le_trans (Int.mul_le_mul_of_nonneg_right q1.2 (by omega)) (Int.mul_le_mul_of_nonneg_left (by omega) (by omega))
      obtain ⟨M, hM⟩ : ∃ M, a1 * ((s.size : Int) - q) = M := ⟨_, rfl⟩
      rw [hM] at hm0 hm1 hsc
      have v9 : (sumOf s.data.toList == 256 * ((a2' + M + b2) % 255) + (a1 + b1) % 255) = true := by simp; exact hsc
      clear hsc hb1 hb2 hq d1 d2 hAe hBe
      go_wp2_with (go_at_call 6; refine (implSumOf_any _ _ (by omega)).mono ?_; rintro e w' ⟨rfl, x3, rfl⟩; first | rw [D1.out, HA.out] | rw [D2.out, HBe.out])
      go_ret
      exact ⟨by simp [v9], (by repeat (first | (with_reducible exact HB.out) | refine below_plus ?_ (by first | omega | (simp <;> omega)) _ | refine Below.alloc ?_ (by first | omega | (simp <;> omega)) _ | refine below_patch ?_ (by omega) _ | refine Below.drew ?_))⟩

theorem lawSumCut_any (a : Option Addr) (cap : Nat) (bs : List UInt8) (a2 : Option Addr) (cap2 : Nat) (bs2 : List UInt8) (w : World) (hr : Rd encB w a cap bs) (hr2 : Rd encB w a2 cap2 bs2) :
    Calls Try.prog 4 #[.slice a bs.length cap, .slice a2 bs2.length cap2] w (fun e w' => e = .returned (.bool true) ∧ Below w.heap.size w w') := by
  have g1 := hr.1
  have g2 := hr.2.1
  have g3 := hr2.1
  have g4 := hr2.2.1
  by_cases h1 : bs.length ≤ 1048576
  · by_cases h2 : bs2.length ≤ 1048576
    · exact lawSumCut_fit a cap bs a2 cap2 bs2.length w hr h1 h2
    · go_enter Try.func4, Try.ntmps4
      go_wp2
      go_ret
      exact ⟨rfl, (by repeat (first | exact Below.refl _ _ | refine below_plus ?_ (by first | omega | (simp <;> omega)) _ | refine Below.alloc ?_ (by first | omega | (simp <;> omega)) _ | refine below_patch ?_ (by omega) _ | refine Below.drew ?_))⟩
  · go_enter Try.func4, Try.ntmps4
    go_wp2
    go_ret
    exact ⟨rfl, (by repeat (first | exact Below.refl _ _ | refine below_plus ?_ (by first | omega | (simp <;> omega)) _ | refine Below.alloc ?_ (by first | omega | (simp <;> omega)) _ | refine below_patch ?_ (by omega) _ | refine Below.drew ?_))⟩

end Go.Proofs.Ytmgmofdgciakbaa
