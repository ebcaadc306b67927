/- The law LongestWord: the walk. -/
import Derived.Test.YtlihhlihcjncoaaDrj
import Derived.Test.YtlihhlihcjncoaaLtr
namespace Go.Proofs.Ytlihhlihcjncoaa
open Go.RowKit
set_option linter.unusedVariables false
set_option linter.unusedSimpArgs false

set_option maxRecDepth 100000 in
set_option maxHeartbeats 4000000 in
theorem lawLongestWord2_any (a : Option Addr) (cap : Nat) (bs : List UInt8) (w : World) (hr : Rd encB w a cap bs) :
    Calls Try.prog 3 #[.slice a bs.length cap] w (fun e w' => e = .returned (.bool true) ∧ Below w.heap.size w w') := by
  have g1 := hr.1
  have g2 := hr.2.1
  by_cases h1 : bs.length ≤ 1048576
  case neg =>
    go_enter Try.func3, Try.ntmps3
    go_wp2
    go_ret
    exact ⟨rfl, (by repeat (first | exact Below.refl _ _ | refine below_plus ?_ (by first | omega | (simp <;> omega)) _ | refine Below.alloc ?_ (by first | omega | (simp <;> omega)) _ | refine below_patch ?_ (by omega) _ | refine Below.drew ?_))⟩
  go_enter Try.func3, Try.ntmps3
  go_wp2_with fail
  refine (DrawLongestWord_any a cap bs _ (by repeat (first | exact hr | apply rd_seq | apply Rd.plus | apply Rd.alloc | apply Rd.drew | apply Rd.drewN | refine rd_patch ?_ _ _ (by intro A hA; first | (cases hA; show _ ≠ _; omega) | (have := hal A hA; omega))))).mono ?_
  rintro e w' ⟨o, l, m, pa, pc, ps, base, last, s, rfl, hl3, hs5, hrd, x1, rfl⟩
  have hm : s.size ≤ maxLen := by unfold maxLen; omega
  have HR := Lib.hid (show Rd encP _ pa pc ps from hrd)
  have he1 := isEmpty_size s
  clear hrd
  by_cases hbad : kvb o l m ps base last = false ∨ dfB o l m s = false ∨ s.size = 0
  · have HI := Lib.hid (fun (W : World) (h : RdP W pa pc ps) => implLongestWord_no o l m pa pc ps base last s W h hm hbad)
    have HS := Lib.hid (fun (W : World) (h : RdP W pa pc ps) => specLongestWord_no o l m pa pc ps base last s W h hm hbad)
    cases hk : kvb o l m ps base last
    · have HK := Lib.hid hk
      clear hk hbad he1
      go_wp2_with fail
      refine (HI.out _ (by (try unfold RdP); repeat (first | (with_reducible exact HR.out) | (with_reducible apply rd_seq) | (with_reducible apply Rd.plus) | (with_reducible apply Rd.alloc) | (with_reducible apply Rd.drew) | (with_reducible apply Rd.drewN)))).mono ?_
      rintro e w' ⟨rfl, y1, rfl⟩
      go_wp2_with fail
      refine (HS.out _ (by (try unfold RdP); repeat (first | (with_reducible exact HR.out) | (with_reducible apply rd_seq) | (with_reducible apply Rd.plus) | (with_reducible apply Rd.alloc) | (with_reducible apply Rd.drew) | (with_reducible apply Rd.drewN)))).mono ?_
      rintro e w' ⟨rfl, y2, rfl⟩
      go_wp2_with fail
      refine (KnownValid_any o l m pa pc ps base last _ (by (try unfold RdP); repeat (first | (with_reducible exact HR.out) | (with_reducible apply rd_seq) | (with_reducible apply Rd.plus) | (with_reducible apply Rd.alloc) | (with_reducible apply Rd.drew) | (with_reducible apply Rd.drewN)))).mono ?_
      rintro e w' ⟨rfl, y3, rfl⟩
      rw [HK.out]
      go_wp2_with fail
      refine (HS.out _ (by (try unfold RdP); repeat (first | (with_reducible exact HR.out) | (with_reducible apply rd_seq) | (with_reducible apply Rd.plus) | (with_reducible apply Rd.alloc) | (with_reducible apply Rd.drew) | (with_reducible apply Rd.drewN)))).mono ?_
      rintro e w' ⟨rfl, y4, rfl⟩
      go_wp2_with fail
      refine (KnownValid_any o l m pa pc ps base last _ (by (try unfold RdP); repeat (first | (with_reducible exact HR.out) | (with_reducible apply rd_seq) | (with_reducible apply Rd.plus) | (with_reducible apply Rd.alloc) | (with_reducible apply Rd.drew) | (with_reducible apply Rd.drewN)))).mono ?_
      rintro e w' ⟨rfl, y5, rfl⟩
      rw [HK.out]
      go_wp2_with fail
      go_ret
      exact ⟨rfl, (by repeat (first | exact Below.refl _ _ | refine below_plus ?_ (by first | omega | (simp <;> omega)) _ | refine Below.alloc ?_ (by first | omega | (simp <;> omega)) _ | refine below_patch ?_ (by omega) _ | refine Below.drew ?_))⟩
    · have HK := Lib.hid hk
      rcases Nat.eq_zero_or_pos s.size with hz | hz
      · rw [decide_eq_true hz] at he1
        clear hk hbad hz
        go_wp2_with fail
        refine (HI.out _ (by (try unfold RdP); repeat (first | (with_reducible exact HR.out) | (with_reducible apply rd_seq) | (with_reducible apply Rd.plus) | (with_reducible apply Rd.alloc) | (with_reducible apply Rd.drew) | (with_reducible apply Rd.drewN)))).mono ?_
        rintro e w' ⟨rfl, y1, rfl⟩
        go_wp2_with fail
        refine (HS.out _ (by (try unfold RdP); repeat (first | (with_reducible exact HR.out) | (with_reducible apply rd_seq) | (with_reducible apply Rd.plus) | (with_reducible apply Rd.alloc) | (with_reducible apply Rd.drew) | (with_reducible apply Rd.drewN)))).mono ?_
        rintro e w' ⟨rfl, y2, rfl⟩
        go_wp2_with fail
        refine (KnownValid_any o l m pa pc ps base last _ (by (try unfold RdP); repeat (first | (with_reducible exact HR.out) | (with_reducible apply rd_seq) | (with_reducible apply Rd.plus) | (with_reducible apply Rd.alloc) | (with_reducible apply Rd.drew) | (with_reducible apply Rd.drewN)))).mono ?_
        rintro e w' ⟨rfl, y3, rfl⟩
        rw [HK.out]
        go_wp2_with fail
        refine (HS.out _ (by (try unfold RdP); repeat (first | (with_reducible exact HR.out) | (with_reducible apply rd_seq) | (with_reducible apply Rd.plus) | (with_reducible apply Rd.alloc) | (with_reducible apply Rd.drew) | (with_reducible apply Rd.drewN)))).mono ?_
        rintro e w' ⟨rfl, y4, rfl⟩
        go_wp2_with fail
        refine (KnownValid_any o l m pa pc ps base last _ (by (try unfold RdP); repeat (first | (with_reducible exact HR.out) | (with_reducible apply rd_seq) | (with_reducible apply Rd.plus) | (with_reducible apply Rd.alloc) | (with_reducible apply Rd.drew) | (with_reducible apply Rd.drewN)))).mono ?_
        rintro e w' ⟨rfl, y5, rfl⟩
        rw [HK.out]
        go_wp2_with fail
        go_ret
        exact ⟨rfl, (by repeat (first | exact Below.refl _ _ | refine below_plus ?_ (by first | omega | (simp <;> omega)) _ | refine Below.alloc ?_ (by first | omega | (simp <;> omega)) _ | refine below_patch ?_ (by omega) _ | refine Below.drew ?_))⟩
      · rw [decide_eq_false (by omega)] at he1
        have hdf : dfB o l m s = false := by
          rcases hbad with h | h | h
          · rw [hk] at h; cases h
          · exact h
          · omega
        have HDF := Lib.hid hdf
        clear hk hbad hz hdf
        go_wp2_with fail
        refine (HI.out _ (by (try unfold RdP); repeat (first | (with_reducible exact HR.out) | (with_reducible apply rd_seq) | (with_reducible apply Rd.plus) | (with_reducible apply Rd.alloc) | (with_reducible apply Rd.drew) | (with_reducible apply Rd.drewN)))).mono ?_
        rintro e w' ⟨rfl, y1, rfl⟩
        go_wp2_with fail
        refine (HS.out _ (by (try unfold RdP); repeat (first | (with_reducible exact HR.out) | (with_reducible apply rd_seq) | (with_reducible apply Rd.plus) | (with_reducible apply Rd.alloc) | (with_reducible apply Rd.drew) | (with_reducible apply Rd.drewN)))).mono ?_
        rintro e w' ⟨rfl, y2, rfl⟩
        go_wp2_with fail
        refine (KnownValid_any o l m pa pc ps base last _ (by (try unfold RdP); repeat (first | (with_reducible exact HR.out) | (with_reducible apply rd_seq) | (with_reducible apply Rd.plus) | (with_reducible apply Rd.alloc) | (with_reducible apply Rd.drew) | (with_reducible apply Rd.drewN)))).mono ?_
        rintro e w' ⟨rfl, y3, rfl⟩
        rw [HK.out]
        go_wp2_with fail
        refine (DataFits_any o l m s _ hm).mono ?_
        rintro e w' ⟨rfl, y6, rfl⟩
        rw [HDF.out]
        go_wp2_with fail
        refine (HS.out _ (by (try unfold RdP); repeat (first | (with_reducible exact HR.out) | (with_reducible apply rd_seq) | (with_reducible apply Rd.plus) | (with_reducible apply Rd.alloc) | (with_reducible apply Rd.drew) | (with_reducible apply Rd.drewN)))).mono ?_
        rintro e w' ⟨rfl, y4, rfl⟩
        go_wp2_with fail
        refine (KnownValid_any o l m pa pc ps base last _ (by (try unfold RdP); repeat (first | (with_reducible exact HR.out) | (with_reducible apply rd_seq) | (with_reducible apply Rd.plus) | (with_reducible apply Rd.alloc) | (with_reducible apply Rd.drew) | (with_reducible apply Rd.drewN)))).mono ?_
        rintro e w' ⟨rfl, y5, rfl⟩
        rw [HK.out]
        go_wp2_with fail
        refine (DataFits_any o l m s _ hm).mono ?_
        rintro e w' ⟨rfl, y7, rfl⟩
        rw [HDF.out]
        go_wp2_with fail
        go_ret
        exact ⟨rfl, (by repeat (first | exact Below.refl _ _ | refine below_plus ?_ (by first | omega | (simp <;> omega)) _ | refine Below.alloc ?_ (by first | omega | (simp <;> omega)) _ | refine below_patch ?_ (by omega) _ | refine Below.drew ?_))⟩
  have hk : kvb o l m ps base last = true := by
    cases hk : kvb o l m ps base last
    · exact absurd (.inl hk) hbad
    · rfl
  have hd : dfB o l m s = true := by
    cases hd : dfB o l m s
    · exact absurd (.inr (.inl hd)) hbad
    · rfl
  have hz : 0 < s.size := by
    rcases Nat.eq_zero_or_pos s.size with h0 | h0
    · exact absurd (.inr (.inr h0)) hbad
    · exact h0
  rw [decide_eq_false (by omega)] at he1
  obtain ⟨n, hn⟩ := lon_ex (kvb_iff.1 hk) hd hz
  have hn1 := hn.1
  have hn2 := hn.2.1
  rw [bytes_len] at hn2
  obtain ⟨c, hc⟩ := fnd_ex l m ps last (s.data.toList.take n) ((kvb_iff.1 hk).lim.bds).2.2.2.2.1
  have hc0 : 0 ≤ c := (fnd_ok hn hc).nonneg ((kvb_iff.1 hk).lim.bds).2.2.2.2.1
  obtain ⟨y, hy⟩ : ∃ y, bstr (s.data.toList.take n) = y := ⟨_, rfl⟩
  have hyz : y.size = n := by rw [← hy, bstr_size, List.length_take, bytes_len]; omega
  have hye : s.extract 0 n = y := by rw [← hy, ← ext_pre, bstr_bytes]
  have hyb : y.data.toList = s.data.toList.take n := by rw [← hy, bytes_bstr]
  have hym : y.size ≤ maxLen := by omega
  have HI := Lib.hid (fun (W : World) (h : RdP W pa pc ps) => implLongestWord_yes o l m pa pc ps base last s W h hm hk hd hz n hn)
  have HS := Lib.hid (fun (W : World) (h : RdP W pa pc ps) => specLongestWord_yes o l m pa pc ps base last s W h hm hk hd hz n hn)
  rw [hy] at HI HS
  have HCO := Lib.hid (fun (W : World) (h : RdP W pa pc ps) => implCodeOfWord_yes o l m pa pc ps base last y W h hk hym c (by rw [hyb]; exact hc))
  rw [codeV_yes hc0] at HCO
  have HCN := Lib.hid (fun (k : Nat) (hk1 : n < k) (hk2 : k ≤ s.size) (W : World) (h : RdP W pa pc ps) => implCodeOfWord_yes o l m pa pc ps base last (s.extract 0 k) W h hk (by rw [← bytes_len, ext_pre, List.length_take, bytes_len]; omega) (-1) (by
    rw [ext_pre]
    exact .inl ⟨rfl, fun c' h1 h2 => by have := hn.2.2.2 c' k h1 (by rw [bytes_len]; exact hk2) h2; omega⟩))
  have he2 := isEmpty_size y
  rw [decide_eq_false (by omega)] at he2
  have HK := Lib.hid hk
  have HDF := Lib.hid hd
  clear hbad hk hd hz hn hc hy hyb
  go_wp2_with fail
  refine (HI.out _ (by (try unfold RdP); repeat (first | (with_reducible exact HR.out) | (with_reducible apply rd_seq) | (with_reducible apply Rd.plus) | (with_reducible apply Rd.alloc) | (with_reducible apply Rd.drew) | (with_reducible apply Rd.drewN)))).mono ?_
  rintro e w' ⟨rfl, y1, rfl⟩
  go_wp2_with fail
  refine (HS.out _ (by (try unfold RdP); repeat (first | (with_reducible exact HR.out) | (with_reducible apply rd_seq) | (with_reducible apply Rd.plus) | (with_reducible apply Rd.alloc) | (with_reducible apply Rd.drew) | (with_reducible apply Rd.drewN)))).mono ?_
  rintro e w' ⟨rfl, y2, rfl⟩
  go_wp2_with fail
  refine (KnownValid_any o l m pa pc ps base last _ (by (try unfold RdP); repeat (first | (with_reducible exact HR.out) | (with_reducible apply rd_seq) | (with_reducible apply Rd.plus) | (with_reducible apply Rd.alloc) | (with_reducible apply Rd.drew) | (with_reducible apply Rd.drewN)))).mono ?_
  rintro e w' ⟨rfl, y3, rfl⟩
  rw [HK.out]
  go_wp2_with fail
  refine (DataFits_any o l m s _ hm).mono ?_
  rintro e w' ⟨rfl, y6, rfl⟩
  rw [HDF.out]
  go_wp2_with fail
  refine (HCO.out _ (by (try unfold RdP); repeat (first | (with_reducible exact HR.out) | (with_reducible apply rd_seq) | (with_reducible apply Rd.plus) | (with_reducible apply Rd.alloc) | (with_reducible apply Rd.drew) | (with_reducible apply Rd.drewN)))).mono ?_
  rintro e w' ⟨rfl, y7, rfl⟩
  go_wp2_with fail
  go_loopw [8] (fun q wr => ∃ (k : Nat) (z : Ext), n + 1 ≤ k ∧ k ≤ s.size + 1 ∧ q = .int .i64 k ∧ wr = plus ((plus w x1).alloc (.cells #[.int .i64 o, .int .i64 l, .int .i64 m, .slice pa ps.length pc, .int .i64 base, .int .i64 last] 27)) z) (fun q _ => s.size + 1 - (intOf q).toNat)
  case atStart => exact ⟨n + 1, _, Nat.le_refl _, by omega, int_val (by omega), rfl⟩
  case round =>
    obtain ⟨k, z, hk1, hk2, rfl, rfl⟩ := hrel
    rcases dec (k ≤ s.size) with ⟨hlt, v1⟩ | ⟨hlt, v1⟩
    · have hcn := codeV_no
      have HWR := Lib.hid (show IntKind.i64.wrap (k : Int) = (k : Int) from IntWalk.i64_in _ (by omega))
      have hki : (k : Int) ≤ (s.size : Int) := by omega
      have hk0 : (0 : Int) ≤ (k : Int) := by omega
      go_wp2_with fail
      refine wp_region_pt 9 (fun w' => ∃ y, w' = plus _ y) (Plan.quiet 0 (Plan.quiet 1 (Plan.quiet 2 (Plan.quiet 3 (Plan.one 4 (Plan.quiet 5 (Plan.quiet 6 (Plan.quiet 7 (Plan.quiet 8 (Plan.one 9 Plan.done)))))))))) (by kernel_rfl) (by kernel_rfl) (⟨_, drew_is_plus _⟩) ?_
      refine wpPt_val rfl rfl ?_
      apply Exists.intro
      refine ⟨fun w' hS => ?_, ?_⟩
      focus (obtain ⟨y3, rfl⟩ := hS; simp [go_sem, ↓IntWalk.iteOmega, HWR.out, hki, hk0] <;> first | done | exact rfl | (rw [IntWalk.i64_in _ (by omega)]; exact rfl) | trace_state)
      refine wpPt_val rfl rfl ?_
      apply Exists.intro
      refine ⟨fun w' hS => ?_, ?_⟩
      focus (obtain ⟨y3, rfl⟩ := hS; simp [go_sem, ↓IntWalk.iteOmega, HWR.out, hki, hk0] <;> first | done | exact rfl | (rw [IntWalk.i64_in _ (by omega)]; exact rfl) | trace_state)
      refine wpPt_val rfl rfl ?_
      apply Exists.intro
      refine ⟨fun w' hS => ?_, ?_⟩
      focus (obtain ⟨y3, rfl⟩ := hS; simp [go_sem, ↓IntWalk.iteOmega, HWR.out, hki, hk0] <;> first | done | exact rfl | (rw [IntWalk.i64_in _ (by omega)]; exact rfl) | trace_state)
      refine wpPt_val rfl rfl ?_
      apply Exists.intro
      refine ⟨fun w' hS => ?_, ?_⟩
      focus (obtain ⟨y3, rfl⟩ := hS; simp [go_sem, ↓IntWalk.iteOmega, HWR.out, hki, hk0] <;> first | done | exact rfl | (rw [IntWalk.i64_in _ (by omega)]; exact rfl) | trace_state)
      refine wpPt_one rfl rfl (fun K hK => ?_)
      go_simp
      refine (HCN.out k (by omega) hlt _ (by (try unfold RdP); repeat (first | (with_reducible exact HR.out) | (with_reducible apply rd_seq) | (with_reducible apply Rd.plus) | (with_reducible apply Rd.alloc) | (with_reducible apply Rd.drew) | (with_reducible apply Rd.drewN)))).mono ?_
      rintro e w' ⟨rfl, y8, rfl⟩
      rw [hcn]
      refine hK _ _ (fun hkn => (by repeat (first | exact More.refl _ | (with_reducible apply more_seq) | (with_reducible apply more_draw) | apply More.plus | apply More.alloc | apply More.drew))) ?_
      clear hK K
      refine wpPt_val rfl rfl ?_
      apply Exists.intro
      refine ⟨fun w' hS => ?_, ?_⟩
      focus (obtain ⟨y3, rfl⟩ := hS; simp [go_sem, ↓IntWalk.iteOmega, HWR.out, hki, hk0] <;> first | done | exact rfl | (rw [IntWalk.i64_in _ (by omega)]; exact rfl) | trace_state)
      refine wpPt_val rfl rfl ?_
      apply Exists.intro
      refine ⟨fun w' hS => ?_, ?_⟩
      focus (obtain ⟨y3, rfl⟩ := hS; simp [go_sem, ↓IntWalk.iteOmega, HWR.out, hki, hk0] <;> first | done | exact rfl | (rw [IntWalk.i64_in _ (by omega)]; exact rfl) | trace_state)
      refine wpPt_val rfl rfl ?_
      apply Exists.intro
      refine ⟨fun w' hS => ?_, ?_⟩
      focus (obtain ⟨y3, rfl⟩ := hS; simp [go_sem, ↓IntWalk.iteOmega, HWR.out, hki, hk0] <;> first | done | exact rfl | (rw [IntWalk.i64_in _ (by omega)]; exact rfl) | trace_state)
      refine wpPt_val rfl rfl ?_
      apply Exists.intro
      refine ⟨fun w' hS => ?_, ?_⟩
      focus (obtain ⟨y3, rfl⟩ := hS; simp [go_sem, ↓IntWalk.iteOmega, HWR.out, hki, hk0] <;> first | done | exact rfl | (rw [IntWalk.i64_in _ (by omega)]; exact rfl) | trace_state)
      refine wpPt_one rfl rfl (fun K hK => ?_)
      go_simp
      refine hK _ _ (fun hkn => absurd hkn (by decide)) ?_
      clear hK K
      refine NoPanic.normal ?_
      go_wp2_with fail
      go_roundw
      case rel => exact ⟨k + 1, _, by omega, by omega, by go_num, rfl⟩
      case measure => simp [intOf]; omega
    · go_wp2_with fail
      go_ret
      exact ⟨rfl, (by repeat (first | exact Below.refl _ _ | refine below_plus ?_ (by first | omega | (simp <;> omega)) _ | refine Below.alloc ?_ (by first | omega | (simp <;> omega)) _ | refine below_patch ?_ (by omega) _ | refine Below.drew ?_))⟩

end Go.Proofs.Ytlihhlihcjncoaa
