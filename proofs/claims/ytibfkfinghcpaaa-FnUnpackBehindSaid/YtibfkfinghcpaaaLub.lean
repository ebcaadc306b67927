/- The law UnpackBehind: the walk. -/
import Derived.Test.YtibfkfinghcpaaaRcu
import Derived.Test.YtibfkfinghcpaaaGu
import Derived.Test.YtibfkfinghcpaaaLrs
import Derived.Test.YtibfkfinghcpaaaUnc
import Derived.Test.YtibfkfinghcpaaaUnd
namespace Go.Proofs.Ytibfkfinghcpaaa
open Go.RowKit
set_option linter.unusedVariables false
set_option linter.unusedSimpArgs false

set_option maxRecDepth 100000 in
set_option maxHeartbeats 8000000 in
theorem lawUnpackBehind_any (a : Option Addr) (cap : Nat) (bs : List UInt8) (a2 : Option Addr) (cap2 : Nat) (bs2 : List UInt8) (w : World) (hr : Rd encB w a cap bs) (hr2 : Rd encB w a2 cap2 bs2) :
    Calls Try.prog 3 #[.slice a bs.length cap, .slice a2 bs2.length cap2] w (fun e w' => e = .returned (.bool true) ∧ Below w.heap.size w w') := by
  have g1 := hr.1
  have g2 := hr.2.1
  have g3 := hr2.1
  have g4 := hr2.2.1
  by_cases h1 : bs.length ≤ 1048576
  case neg =>
    go_enter Try.func3, Try.ntmps3
    go_wp2
    go_ret
    exact ⟨rfl, (by repeat (first | exact Below.refl _ _ | refine below_plus ?_ (by first | omega | (simp <;> omega)) _ | refine Below.alloc ?_ (by first | omega | (simp <;> omega)) _ | refine below_patch ?_ (by omega) _ | refine Below.drew ?_))⟩
  by_cases h2 : bs2.length ≤ 1048576
  case neg =>
    go_enter Try.func3, Try.ntmps3
    go_wp2
    go_ret
    exact ⟨rfl, (by repeat (first | exact Below.refl _ _ | refine below_plus ?_ (by first | omega | (simp <;> omega)) _ | refine Below.alloc ?_ (by first | omega | (simp <;> omega)) _ | refine below_patch ?_ (by omega) _ | refine Below.drew ?_))⟩
  obtain ⟨k2, hk2⟩ : ∃ k2, bs2.length = k2 := ⟨_, rfl⟩
  rw [hk2] at h2 g3 ⊢
  clear hr2 hk2
  go_enter Try.func3, Try.ntmps3
  go_wp2_with fail
  refine (DrawUnpackCodes_z a cap bs _ (by repeat (first | exact hr | apply rd_seq | apply Rd.plus | apply Rd.alloc | apply Rd.drew | apply Rd.drewN | refine rd_patch ?_ _ _ (by intro A hA; first | (cases hA; show _ ≠ _; omega) | (have := hal A hA; omega))))).mono ?_
  rintro e w' ⟨o, l, m, pa, pc, ps, base, last, s, rfl, hl3, hs5, hrd, ⟨x1, rfl⟩, hoff, hz⟩
  have hm : s.size ≤ maxLen := by unfold maxLen; omega
  have HR := Lib.hid (show Rd encP _ pa pc ps from hrd)
  clear hrd hoff hr
  by_cases hbad : kvb o l m ps base last = false ∨ 4000 < s.size
  · have HI := Lib.hid (fun (W : World) (a : Option Addr) (cap : Nat) (h : RdP W a cap ps) => implUnpackCodes_no o l m a cap ps base last s W h hm hbad)
    have HS := Lib.hid (fun (W : World) (a : Option Addr) (cap : Nat) (h : RdP W a cap ps) => specUnpackCodes_no o l m a cap ps base last s W h hm hbad)
    clear hbad hz
    go_wp2_with fail
    refine (HI.out _ pa pc (by (try unfold RdP); repeat (first | (with_reducible exact HR.out) | (with_reducible apply rd_seq) | (with_reducible apply Rd.plus) | (with_reducible apply Rd.alloc) | (with_reducible apply Rd.drew) | (with_reducible apply Rd.drewN)))).mono ?_
    rintro e w' ⟨ia, ic, rfl, hown, y1, rfl⟩
    (try simp only [plus_plus] at hown)
    have HQ := Lib.hid (show Rd encI _ ia ic ([] : List Int) from hown.rd)
    clear hown
    go_wp2_with fail
    refine (HS.out _ pa pc (by (try unfold RdP); repeat (first | (with_reducible exact HR.out) | (with_reducible apply rd_seq) | (with_reducible apply Rd.plus) | (with_reducible apply Rd.alloc) | (with_reducible apply Rd.drew) | (with_reducible apply Rd.drewN)))).mono ?_
    rintro e w' ⟨ja, jc, rfl, hown, y2, rfl⟩
    (try simp only [plus_plus] at hown)
    have HP := Lib.hid (show Rd encI _ ja jc ([] : List Int) from hown.rd)
    clear hown
    go_wp2_with fail
    refine (soInts_yes ia ja ic jc ([] : List Int) _ (by (try unfold RdP); repeat (first | (with_reducible exact HQ.out) | (with_reducible apply rd_seq) | (with_reducible apply Rd.plus) | (with_reducible apply Rd.alloc) | (with_reducible apply Rd.drew) | (with_reducible apply Rd.drewN))) (by (try unfold RdP); repeat (first | (with_reducible exact HP.out) | (with_reducible apply rd_seq) | (with_reducible apply Rd.plus) | (with_reducible apply Rd.alloc) | (with_reducible apply Rd.drew) | (with_reducible apply Rd.drewN)))).mono ?_
    rintro e w' ⟨rfl, y3, rfl⟩
    go_wp2_with fail
    refine (soInts_yes ia ja ic jc ([] : List Int) _ (by (try unfold RdP); repeat (first | (with_reducible exact HQ.out) | (with_reducible apply rd_seq) | (with_reducible apply Rd.plus) | (with_reducible apply Rd.alloc) | (with_reducible apply Rd.drew) | (with_reducible apply Rd.drewN))) (by (try unfold RdP); repeat (first | (with_reducible exact HP.out) | (with_reducible apply rd_seq) | (with_reducible apply Rd.plus) | (with_reducible apply Rd.alloc) | (with_reducible apply Rd.drew) | (with_reducible apply Rd.drewN)))).mono ?_
    rintro e w' ⟨rfl, y4, rfl⟩
    go_wp2_with fail
    go_ret
    exact ⟨rfl, (by repeat (first | exact Below.refl _ _ | refine below_plus ?_ (by first | omega | (simp <;> omega)) _ | refine Below.alloc ?_ (by first | omega | (simp <;> omega)) _ | refine below_patch ?_ (by omega) _ | refine Below.drew ?_))⟩
  have hk : kvb o l m ps base last = true := by
    cases hk : kvb o l m ps base last
    · exact absurd (.inl hk) hbad
    · rfl
  have hsz : s.size ≤ 4000 := by
    rcases Nat.lt_or_ge 4000 s.size with h1 | h1
    · exact absurd (.inr h1) hbad
    · exact h1
  have hb0 := (kvb_iff.1 hk).b0
  obtain ⟨b, rfl⟩ : ∃ b : Nat, base = b := ⟨base.toNat, by omega⟩
  obtain ⟨⟨W, hW⟩, h2', h3, h4⟩ := unR_facts (s := s) hk
  obtain ⟨R, hR⟩ : ∃ R, unR o l m b ps last s = R := ⟨_, rfl⟩
  rw [hR] at hW h2' h3 h4
  have HI := Lib.hid (fun (W : World) (a : Option Addr) (cap : Nat) (h : RdP W a cap ps) => implUnpackCodes_yes o l m a cap ps b last s W h hk hsz R hR)
  have HS := Lib.hid (fun (W : World) (a : Option Addr) (cap : Nat) (h : RdP W a cap ps) => specUnpackCodes_yes2 o l m a cap ps b last s W h hk hsz R hR)
  have v1 : (R.e != R.e) = false := by simp
  have v2 : (usedV s.size R != usedV s.size R) = false := by simp
  have v3 : (R.e == R.e) = true := by simp
  have v4 : (usedV s.size R == usedV s.size R) = true := by simp
  by_cases he : R.e = 0
  case neg =>
    have v5 : (R.e != 0) = true := by simp [he]
    clear hbad hk hW hR he hz
    go_wp2_with fail
    refine (HI.out _ pa pc (by (try unfold RdP); repeat (first | (with_reducible exact HR.out) | (with_reducible apply rd_seq) | (with_reducible apply Rd.plus) | (with_reducible apply Rd.alloc) | (with_reducible apply Rd.drew) | (with_reducible apply Rd.drewN)))).mono ?_
    rintro e w' ⟨ia, ic, rfl, hown, y1, rfl⟩
    (try simp only [plus_plus] at hown)
    have HQ := Lib.hid (show Rd encI _ ia ic R.C from hown.rd)
    clear hown
    go_wp2_with fail
    refine (HS.out _ pa pc (by (try unfold RdP); repeat (first | (with_reducible exact HR.out) | (with_reducible apply rd_seq) | (with_reducible apply Rd.plus) | (with_reducible apply Rd.alloc) | (with_reducible apply Rd.drew) | (with_reducible apply Rd.drewN)))).mono ?_
    rintro e w' ⟨ja, jc, rfl, hown, y2, rfl⟩
    (try simp only [plus_plus] at hown)
    have HP := Lib.hid (show Rd encI _ ja jc R.C from hown.rd)
    clear hown
    go_wp2_with fail
    refine (soInts_yes ia ja ic jc R.C _ (by (try unfold RdP); repeat (first | (with_reducible exact HQ.out) | (with_reducible apply rd_seq) | (with_reducible apply Rd.plus) | (with_reducible apply Rd.alloc) | (with_reducible apply Rd.drew) | (with_reducible apply Rd.drewN))) (by (try unfold RdP); repeat (first | (with_reducible exact HP.out) | (with_reducible apply rd_seq) | (with_reducible apply Rd.plus) | (with_reducible apply Rd.alloc) | (with_reducible apply Rd.drew) | (with_reducible apply Rd.drewN)))).mono ?_
    rintro e w' ⟨rfl, y3, rfl⟩
    go_wp2_with fail
    refine (soInts_yes ia ja ic jc R.C _ (by (try unfold RdP); repeat (first | (with_reducible exact HQ.out) | (with_reducible apply rd_seq) | (with_reducible apply Rd.plus) | (with_reducible apply Rd.alloc) | (with_reducible apply Rd.drew) | (with_reducible apply Rd.drewN))) (by (try unfold RdP); repeat (first | (with_reducible exact HP.out) | (with_reducible apply rd_seq) | (with_reducible apply Rd.plus) | (with_reducible apply Rd.alloc) | (with_reducible apply Rd.drew) | (with_reducible apply Rd.drewN)))).mono ?_
    rintro e w' ⟨rfl, y4, rfl⟩
    go_wp2_with fail
    go_ret
    exact ⟨rfl, (by repeat (first | exact Below.refl _ _ | refine below_plus ?_ (by first | omega | (simp <;> omega)) _ | refine Below.alloc ?_ (by first | omega | (simp <;> omega)) _ | refine below_patch ?_ (by omega) _ | refine Below.drew ?_))⟩
  have hs2 : s.size ≤ 200 := by
    rcases hz with h | h
    · exact h
    · have ht := (kvb_iff.1 hk).lim.bds.2.2.2.2.1
      exact absurd he (rdc_zeros (unpL_zeros o h) (by omega) _ _ _ _ _ _ R hR)
  obtain ⟨q, hq, q1, q2, hT, R2, T, hR2, he2, hT0, hRC⟩ := unR_behind hk hR he
  have hz1 : (s.extract 0 q).size = q := by rw [ByteArray.size_extract]; omega
  have hz2 : (s.extract 0 (q - 1)).size = q - 1 := by rw [ByteArray.size_extract]; omega
  have hq3 : usedV (s.extract 0 (q - 1)).size R2 = (q : Int) - 1 := by unfold usedV; rw [if_pos he2, hz2]; omega
  have hJ := fun (t : ByteArray) (ht : t.size ≤ 200) (W : World) (a : Option Addr) (cap : Nat) (h : RdP W a cap ps) => implUnpackCodes_yes o l m a cap ps b last (s.extract 0 q ++ t) W h hk (by rw [ByteArray.size_append]; omega) R (hT t).1
  have hJ2 := fun (W : World) (a : Option Addr) (cap : Nat) (h : RdP W a cap ps) => implUnpackCodes_yes o l m a cap ps b last (s.extract 0 (q - 1)) W h hk (by omega) R2 hR2
  have HJ := Lib.hid (show ∀ (t : ByteArray) (ht : t.size ≤ 200) (W : World) (a : Option Addr) (cap : Nat) (h : RdP W a cap ps), Calls Try.prog 14 #[.agg #[.int .i64 o, .int .i64 l, .int .i64 m, .slice a ps.length cap, .int .i64 b, .int .i64 last], .string (s.extract 0 q ++ t)] W (RetUc W R.C 0 q) from fun t ht W a cap h => by have := hJ t ht W a cap h; rw [(hT t).2, he] at this; exact this)
  have HJ2 := Lib.hid (show ∀ (W : World) (a : Option Addr) (cap : Nat) (h : RdP W a cap ps), Calls Try.prog 14 #[.agg #[.int .i64 o, .int .i64 l, .int .i64 m, .slice a ps.length cap, .int .i64 b, .int .i64 last], .string (s.extract 0 (q - 1))] W (RetUc W R2.C 1 ((q : Int) - 1)) from fun W a cap h => by have := hJ2 W a cap h; rw [hq3, he2] at this; exact this)
  have HI2 := Lib.hid (show ∀ (W : World) (a : Option Addr) (cap : Nat) (h : RdP W a cap ps), Calls Try.prog 14 #[.agg #[.int .i64 o, .int .i64 l, .int .i64 m, .slice a ps.length cap, .int .i64 b, .int .i64 last], .string s] W (RetUc W R.C 0 q) from fun W a cap h => by have := HI.out W a cap h; rw [hq, he] at this; exact this)
  have HS2 := Lib.hid (show ∀ (W : World) (a : Option Addr) (cap : Nat) (h : RdP W a cap ps), Calls Try.prog 15 #[.agg #[.int .i64 o, .int .i64 l, .int .i64 m, .slice a ps.length cap, .int .i64 b, .int .i64 last], .string s] W (RetUc W R.C 0 q) from fun W a cap h => by have := HS.out W a cap h; rw [hq, he] at this; exact this)
  have hC2 : R2.C.length < R.C.length := by
    rw [hRC, List.length_append]
    have := List.length_pos_iff.2 hT0
    omega
  have hC3 : R.C.take R2.C.length = R2.C := by rw [hRC, List.take_left]
  have zq : (s.extract 0 q).size ≤ 200 := by omega
  clear HI HS hbad hk hW hR he hz hq hT hR2 he2 hT0 hRC hz1 hz2 hq3 hJ hJ2 v1 v2 v3 v4
  have HI := HI2
  have HS := HS2
  clear HI2 HS2
  obtain ⟨C, hC⟩ : ∃ C, R.C = C := ⟨_, rfl⟩
  obtain ⟨C2, hC2e⟩ : ∃ C, R2.C = C := ⟨_, rfl⟩
  rw [hC] at HI HS HJ hC2 hC3
  rw [hC2e] at HJ2 hC2 hC3
  clear hC hC2e
  have v1 : ((q : Int) != (q : Int)) = false := by simp
  have v3 : ((q : Int) == (q : Int)) = true := by simp
  have hcv := fun (W : World) (b : Nat) (hb : b = W.heap.size) => run_one (P := Try.prog) (W := W) (e := 5) Try.underlying22 Try.underlying5 Try.underlying9 b ((k2 : Int) % 256) (by omega) (by omega) hb
  go_wp2_with fail
  refine (HI.out _ pa pc (by (try unfold RdP); repeat (first | (with_reducible exact HR.out) | (with_reducible apply rd_seq) | (with_reducible apply Rd.plus) | (with_reducible apply Rd.alloc) | (with_reducible apply Rd.drew) | (with_reducible apply Rd.drewN)))).mono ?_
  rintro e w' ⟨ia, ic, rfl, hown, y1, rfl⟩
  (try simp only [plus_plus] at hown)
  have HQ := Lib.hid (show Rd encI _ ia ic C from hown.rd)
  clear hown
  go_wp2_with fail
  refine (HS.out _ pa pc (by (try unfold RdP); repeat (first | (with_reducible exact HR.out) | (with_reducible apply rd_seq) | (with_reducible apply Rd.plus) | (with_reducible apply Rd.alloc) | (with_reducible apply Rd.drew) | (with_reducible apply Rd.drewN)))).mono ?_
  rintro e w' ⟨ja, jc, rfl, hown, y2, rfl⟩
  (try simp only [plus_plus] at hown)
  have HP := Lib.hid (show Rd encI _ ja jc C from hown.rd)
  clear hown
  go_wp2_with fail
  refine (soInts_yes ia ja ic jc C _ (by (try unfold RdP); repeat (first | (with_reducible exact HQ.out) | (with_reducible apply rd_seq) | (with_reducible apply Rd.plus) | (with_reducible apply Rd.alloc) | (with_reducible apply Rd.drew) | (with_reducible apply Rd.drewN))) (by (try unfold RdP); repeat (first | (with_reducible exact HP.out) | (with_reducible apply rd_seq) | (with_reducible apply Rd.plus) | (with_reducible apply Rd.alloc) | (with_reducible apply Rd.drew) | (with_reducible apply Rd.drewN)))).mono ?_
  rintro e w' ⟨rfl, y3, rfl⟩
  go_wp2_with fail
  have hm50 : ((k2 % 50 : Nat) : Int) = (k2 : Int) % 50 := by omega
  refine (soMany_any (one ((k2 : Int) % 256)) (k2 % 50) _ (by show 1 ≤ 4; decide) (by omega)).mono ?_
  rintro e w' ⟨t, rfl, ht, y4, rfl⟩
  have ht2 : t.size ≤ 200 := by
    rw [ht]
    show 1 * (k2 % 50) ≤ 200
    omega
  clear ht hcv
  go_wp2_with fail
  have HKB := Lib.hid (show True from trivial)
  refine wp_nm2 (fun X => X.heap[w.heap.size + x1.n]? = some (.cells #[.int .i64 o, .int .i64 l, .int .i64 m, .slice pa ps.length pc, .int .i64 b, .int .i64 last] 27 (0, 0)) ∧ Rd encP X pa pc ps ∧ Rd encI X ia ic C ∧ Below w.heap.size w X) ⟨(by repeat (first | (with_reducible exact push_new _ _ _ rfl) | (with_reducible exact push_new _ _ _ (by simp)) | (with_reducible apply blk_plus) | (with_reducible apply blk_alloc) | (with_reducible apply blk_drew) | (with_reducible refine blk_patch ?_ (by omega)))), (by (try unfold RdP); repeat (first | (with_reducible exact HR.out) | (with_reducible apply rd_seq) | (with_reducible apply Rd.plus) | (with_reducible apply Rd.alloc) | (with_reducible apply Rd.drew) | (with_reducible apply Rd.drewN))), (by (try unfold RdP); repeat (first | (with_reducible exact HQ.out) | (with_reducible apply rd_seq) | (with_reducible apply Rd.plus) | (with_reducible apply Rd.alloc) | (with_reducible apply Rd.drew) | (with_reducible apply Rd.drewN))), (by repeat (first | exact Below.refl _ _ | refine below_plus ?_ (by first | omega | (simp <;> omega)) _ | refine Below.alloc ?_ (by first | omega | (simp <;> omega)) _ | refine below_patch ?_ (by omega) _ | refine Below.drew ?_))⟩ ?_
  have hD0 : w.heap.size ≤ w.heap.size + x1.n := Nat.le_add_right _ _
  generalize w.heap.size + x1.n = D at hD0 ⊢
  intro X hX
  have HB := Lib.hid hX.1
  have HR1 := Lib.hid hX.2.1
  have HQ1 := Lib.hid hX.2.2.1
  have hbel := hX.2.2.2
  have hDX : D < X.heap.size := (Array.getElem?_eq_some_iff.1 hX.1).1
  clear hX HR HQ HP HI HS
  have hq0 : (0 : Int) ≤ (q : Int) := by omega
  have hqs : (q : Int) ≤ (s.size : Int) := by omega
  have HWQ := Lib.hid (show IntKind.i64.wrap (q : Int) = (q : Int) from IntWalk.i64_in _ (by omega))
  have HWP := Lib.hid (show IntKind.i64.wrap ((q : Int) - 1) = (q : Int) - 1 from IntWalk.i64_in _ (by omega))
  have HQT := Lib.hid (show ((q : Int) - 1).toNat = q - 1 by omega)
  have hp0 : (0 : Int) ≤ (q : Int) - 1 := by omega
  have hps : (q : Int) - 1 ≤ (s.size : Int) := by omega
  refine wp_region_pt 13 (fun w' => w'.heap[D]? = some (.cells #[.int .i64 o, .int .i64 l, .int .i64 m, .slice pa ps.length pc, .int .i64 b, .int .i64 last] 27 (0, 0))) (Plan.quiet 0 (Plan.quiet 1 (Plan.quiet 2 (Plan.quiet 3 (Plan.quiet 4 (Plan.quiet 5 (Plan.one 6 (Plan.quiet 7 (Plan.quiet 8 (Plan.quiet 9 (Plan.quiet 10 (Plan.quiet 11 (Plan.quiet 12 (Plan.one 13 Plan.done)))))))))))))) (by kernel_rfl) (by kernel_rfl) (blk_drew HB.out) ?_
  refine wpPt_val rfl rfl ?_
  apply Exists.intro
  refine ⟨fun w' hS => ?_, ?_⟩
  focus (have rS := cell_of hS; simp [go_sem, ↓IntWalk.iteOmega, rS, hq0, hqs, HWQ.out] <;> first | done | exact rfl | (rw [IntWalk.i64_in _ (by omega)]; exact rfl) | trace_state)
  refine wpPt_val rfl rfl ?_
  apply Exists.intro
  refine ⟨fun w' hS => ?_, ?_⟩
  focus (have rS := cell_of hS; simp [go_sem, ↓IntWalk.iteOmega, rS, hq0, hqs, HWQ.out] <;> first | done | exact rfl | (rw [IntWalk.i64_in _ (by omega)]; exact rfl) | trace_state)
  refine wpPt_val rfl rfl ?_
  apply Exists.intro
  refine ⟨fun w' hS => ?_, ?_⟩
  focus (have rS := cell_of hS; simp [go_sem, ↓IntWalk.iteOmega, rS, hq0, hqs, HWQ.out] <;> first | done | exact rfl | (rw [IntWalk.i64_in _ (by omega)]; exact rfl) | trace_state)
  refine wpPt_val rfl rfl ?_
  apply Exists.intro
  refine ⟨fun w' hS => ?_, ?_⟩
  focus (have rS := cell_of hS; simp [go_sem, ↓IntWalk.iteOmega, rS, hq0, hqs, HWQ.out] <;> first | done | exact rfl | (rw [IntWalk.i64_in _ (by omega)]; exact rfl) | trace_state)
  refine wpPt_val rfl rfl ?_
  apply Exists.intro
  refine ⟨fun w' hS => ?_, ?_⟩
  focus (have rS := cell_of hS; simp [go_sem, ↓IntWalk.iteOmega, rS, hq0, hqs, HWQ.out] <;> first | done | exact rfl | (rw [IntWalk.i64_in _ (by omega)]; exact rfl) | trace_state)
  refine wpPt_val rfl rfl ?_
  apply Exists.intro
  refine ⟨fun w' hS => ?_, ?_⟩
  focus (have rS := cell_of hS; simp [go_sem, ↓IntWalk.iteOmega, rS, hq0, hqs, HWQ.out] <;> first | done | exact rfl | (rw [IntWalk.i64_in _ (by omega)]; exact rfl) | trace_state)
  refine wpPt_one rfl rfl (fun K hK => ?_)
  go_simp
  refine (HJ.out t ht2 _ pa pc (by (try unfold RdP); repeat (first | (with_reducible exact HR1.out) | (with_reducible apply rd_seq) | (with_reducible apply Rd.plus) | (with_reducible apply Rd.alloc) | (with_reducible apply Rd.drew) | (with_reducible apply Rd.drewN)))).mono ?_
  rintro e w' ⟨la, lc, rfl, hown, y5, rfl⟩
  have HL := Lib.hid (show Rd encI _ la lc C from hown.rd)
  clear hown
  refine hK _ _ (fun hkn => (by repeat (first | (with_reducible exact HB.out) | apply blk_plus | apply blk_alloc | apply blk_drew))) ?_
  clear hK K
  refine wpPt_val rfl rfl ?_
  apply Exists.intro
  refine ⟨fun w' hS => ?_, ?_⟩
  focus (have rS := cell_of hS; simp [go_sem, ↓IntWalk.iteOmega, rS, hq0, hqs, HWQ.out] <;> first | done | exact rfl | (rw [IntWalk.i64_in _ (by omega)]; exact rfl) | trace_state)
  refine wpPt_val rfl rfl ?_
  apply Exists.intro
  refine ⟨fun w' hS => ?_, ?_⟩
  focus (have rS := cell_of hS; simp [go_sem, ↓IntWalk.iteOmega, rS, hq0, hqs, HWQ.out] <;> first | done | exact rfl | (rw [IntWalk.i64_in _ (by omega)]; exact rfl) | trace_state)
  refine wpPt_val rfl rfl ?_
  apply Exists.intro
  refine ⟨fun w' hS => ?_, ?_⟩
  focus (have rS := cell_of hS; simp [go_sem, ↓IntWalk.iteOmega, rS, hq0, hqs, HWQ.out] <;> first | done | exact rfl | (rw [IntWalk.i64_in _ (by omega)]; exact rfl) | trace_state)
  refine wpPt_val rfl rfl ?_
  apply Exists.intro
  refine ⟨fun w' hS => ?_, ?_⟩
  focus (have rS := cell_of hS; simp [go_sem, ↓IntWalk.iteOmega, rS, hq0, hqs, HWQ.out] <;> first | done | exact rfl | (rw [IntWalk.i64_in _ (by omega)]; exact rfl) | trace_state)
  refine wpPt_val rfl rfl ?_
  apply Exists.intro
  refine ⟨fun w' hS => ?_, ?_⟩
  focus (have rS := cell_of hS; simp [go_sem, ↓IntWalk.iteOmega, rS, hq0, hqs, HWQ.out] <;> first | done | exact rfl | (rw [IntWalk.i64_in _ (by omega)]; exact rfl) | trace_state)
  refine wpPt_val rfl rfl ?_
  apply Exists.intro
  refine ⟨fun w' hS => ?_, ?_⟩
  focus (have rS := cell_of hS; simp [go_sem, ↓IntWalk.iteOmega, rS, hq0, hqs, HWQ.out] <;> first | done | exact rfl | (rw [IntWalk.i64_in _ (by omega)]; exact rfl) | trace_state)
  refine wpPt_one rfl rfl (fun K hK => ?_)
  go_simp
  refine hK _ _ (fun hkn => absurd hkn (by decide)) ?_
  clear hK K
  refine NoPanic.normal ?_
  go_wp2_with fail
  refine wp_nm2 (fun X => X.heap[D]? = some (.cells #[.int .i64 o, .int .i64 l, .int .i64 m, .slice pa ps.length pc, .int .i64 b, .int .i64 last] 27 (0, 0)) ∧ Rd encP X pa pc ps ∧ Rd encI X ia ic C ∧ Rd encI X la lc C ∧ Below w.heap.size w X) ⟨(by repeat (first | (with_reducible exact HB.out) | apply blk_plus | apply blk_alloc | apply blk_drew)), (by (try unfold RdP); repeat (first | (with_reducible exact HR1.out) | (with_reducible apply rd_seq) | (with_reducible apply Rd.plus) | (with_reducible apply Rd.alloc) | (with_reducible apply Rd.drew) | (with_reducible apply Rd.drewN))), (by (try unfold RdP); repeat (first | (with_reducible exact HQ1.out) | (with_reducible apply rd_seq) | (with_reducible apply Rd.plus) | (with_reducible apply Rd.alloc) | (with_reducible apply Rd.drew) | (with_reducible apply Rd.drewN))), HL.out, (by repeat (first | (with_reducible exact hbel) | refine below_plus ?_ (by first | omega | (simp <;> omega)) _ | refine Below.alloc ?_ (by first | omega | (simp <;> omega)) _ | refine below_patch ?_ (by omega) _ | refine Below.drew ?_))⟩ ?_
  clear hbel hDX HB HR1 HQ1 HL HJ
  intro X hX
  have HB := Lib.hid hX.1
  have HR1 := Lib.hid hX.2.1
  have HQ1 := Lib.hid hX.2.2.1
  have HL := Lib.hid hX.2.2.2.1
  have hbel := hX.2.2.2.2
  have hDX : D < X.heap.size := (Array.getElem?_eq_some_iff.1 hX.1).1
  clear hX
  refine wp_region_pt 12 (fun w' => w'.heap[D]? = some (.cells #[.int .i64 o, .int .i64 l, .int .i64 m, .slice pa ps.length pc, .int .i64 b, .int .i64 last] 27 (0, 0))) (Plan.quiet 0 (Plan.quiet 1 (Plan.quiet 2 (Plan.quiet 3 (Plan.quiet 4 (Plan.one 5 (Plan.quiet 6 (Plan.quiet 7 (Plan.quiet 8 (Plan.quiet 9 (Plan.quiet 10 (Plan.quiet 11 (Plan.one 12 Plan.done))))))))))))) (by kernel_rfl) (by kernel_rfl) ((by repeat (first | (with_reducible exact HB.out) | apply blk_plus | apply blk_alloc | apply blk_drew))) ?_
  refine wpPt_val rfl rfl ?_
  apply Exists.intro
  refine ⟨fun w' hS => ?_, ?_⟩
  focus (have rS := cell_of hS; simp [go_sem, ↓IntWalk.iteOmega, rS, hp0, hps, HWP.out, HQT.out] <;> first | done | exact rfl | (rw [IntWalk.i64_in _ (by omega)]; exact rfl) | trace_state)
  refine wpPt_val rfl rfl ?_
  apply Exists.intro
  refine ⟨fun w' hS => ?_, ?_⟩
  focus (have rS := cell_of hS; simp [go_sem, ↓IntWalk.iteOmega, rS, hp0, hps, HWP.out, HQT.out] <;> first | done | exact rfl | (rw [IntWalk.i64_in _ (by omega)]; exact rfl) | trace_state)
  refine wpPt_val rfl rfl ?_
  apply Exists.intro
  refine ⟨fun w' hS => ?_, ?_⟩
  focus (have rS := cell_of hS; simp [go_sem, ↓IntWalk.iteOmega, rS, hp0, hps, HWP.out, HQT.out] <;> first | done | exact rfl | (rw [IntWalk.i64_in _ (by omega)]; exact rfl) | trace_state)
  refine wpPt_val rfl rfl ?_
  apply Exists.intro
  refine ⟨fun w' hS => ?_, ?_⟩
  focus (have rS := cell_of hS; simp [go_sem, ↓IntWalk.iteOmega, rS, hp0, hps, HWP.out, HQT.out] <;> first | done | exact rfl | (rw [IntWalk.i64_in _ (by omega)]; exact rfl) | trace_state)
  refine wpPt_val rfl rfl ?_
  apply Exists.intro
  refine ⟨fun w' hS => ?_, ?_⟩
  focus (have rS := cell_of hS; simp [go_sem, ↓IntWalk.iteOmega, rS, hp0, hps, HWP.out, HQT.out] <;> first | done | exact rfl | (rw [IntWalk.i64_in _ (by omega)]; exact rfl) | trace_state)
  refine wpPt_one rfl rfl (fun K hK => ?_)
  go_simp
  refine (HJ2.out _ pa pc (by (try unfold RdP); repeat (first | (with_reducible exact HR1.out) | (with_reducible apply rd_seq) | (with_reducible apply Rd.plus) | (with_reducible apply Rd.alloc) | (with_reducible apply Rd.drew) | (with_reducible apply Rd.drewN)))).mono ?_
  rintro e w' ⟨fa, fc, rfl, hown, y6, rfl⟩
  have HF := Lib.hid (show Rd encI _ fa fc C2 from hown.rd)
  clear hown
  refine hK _ _ (fun hkn => (by repeat (first | (with_reducible exact HB.out) | apply blk_plus | apply blk_alloc | apply blk_drew))) ?_
  clear hK K
  refine wpPt_val rfl rfl ?_
  apply Exists.intro
  refine ⟨fun w' hS => ?_, ?_⟩
  focus (have rS := cell_of hS; simp [go_sem, ↓IntWalk.iteOmega, rS, hp0, hps, HWP.out, HQT.out] <;> first | done | exact rfl | (rw [IntWalk.i64_in _ (by omega)]; exact rfl) | trace_state)
  refine wpPt_val rfl rfl ?_
  apply Exists.intro
  refine ⟨fun w' hS => ?_, ?_⟩
  focus (have rS := cell_of hS; simp [go_sem, ↓IntWalk.iteOmega, rS, hp0, hps, HWP.out, HQT.out] <;> first | done | exact rfl | (rw [IntWalk.i64_in _ (by omega)]; exact rfl) | trace_state)
  refine wpPt_val rfl rfl ?_
  apply Exists.intro
  refine ⟨fun w' hS => ?_, ?_⟩
  focus (have rS := cell_of hS; simp [go_sem, ↓IntWalk.iteOmega, rS, hp0, hps, HWP.out, HQT.out] <;> first | done | exact rfl | (rw [IntWalk.i64_in _ (by omega)]; exact rfl) | trace_state)
  refine wpPt_val rfl rfl ?_
  apply Exists.intro
  refine ⟨fun w' hS => ?_, ?_⟩
  focus (have rS := cell_of hS; simp [go_sem, ↓IntWalk.iteOmega, rS, hp0, hps, HWP.out, HQT.out] <;> first | done | exact rfl | (rw [IntWalk.i64_in _ (by omega)]; exact rfl) | trace_state)
  refine wpPt_val rfl rfl ?_
  apply Exists.intro
  refine ⟨fun w' hS => ?_, ?_⟩
  focus (have rS := cell_of hS; simp [go_sem, ↓IntWalk.iteOmega, rS, hp0, hps, HWP.out, HQT.out] <;> first | done | exact rfl | (rw [IntWalk.i64_in _ (by omega)]; exact rfl) | trace_state)
  refine wpPt_val rfl rfl ?_
  apply Exists.intro
  refine ⟨fun w' hS => ?_, ?_⟩
  focus (have rS := cell_of hS; simp [go_sem, ↓IntWalk.iteOmega, rS, hp0, hps, HWP.out, HQT.out] <;> first | done | exact rfl | (rw [IntWalk.i64_in _ (by omega)]; exact rfl) | trace_state)
  refine wpPt_one rfl rfl (fun K hK => ?_)
  go_simp
  refine hK _ _ (fun hkn => absurd hkn (by decide)) ?_
  clear hK K
  refine NoPanic.normal ?_
  go_wp2_with fail
  refine calls_nm (fun X => Rd encI X ia ic C ∧ Rd encI X la lc C ∧ Rd encI X fa fc C2 ∧ w.heap.size ≤ X.heap.size ∧ Below w.heap.size w X) ⟨(by (try unfold RdP); repeat (first | (with_reducible exact HQ1.out) | (with_reducible apply rd_seq) | (with_reducible apply Rd.plus) | (with_reducible apply Rd.alloc) | (with_reducible apply Rd.drew) | (with_reducible apply Rd.drewN))), (by (try unfold RdP); repeat (first | (with_reducible exact HL.out) | (with_reducible apply rd_seq) | (with_reducible apply Rd.plus) | (with_reducible apply Rd.alloc) | (with_reducible apply Rd.drew) | (with_reducible apply Rd.drewN))), HF.out, (by simp; omega), (by repeat (first | (with_reducible exact hbel) | refine below_plus ?_ (by first | omega | (simp <;> omega)) _ | refine Below.alloc ?_ (by first | omega | (simp <;> omega)) _ | refine below_patch ?_ (by omega) _ | refine Below.drew ?_))⟩ ?_
  clear hbel hDX HB HR1 HQ1 HL HJ2 HF
  intro X hX
  have HQ1 := Lib.hid hX.1
  have HL := Lib.hid hX.2.1
  have HF := Lib.hid hX.2.2.1
  have hwX := hX.2.2.2.1
  have hbel := hX.2.2.2.2
  clear hX
  have hcc := HQ1.out.1
  have hcd := HQ1.out.2.1
  have v5 : decide ((C2.length : Int) < (C.length : Int)) = true := by simp; omega
  have HC2 := Lib.hid (show Rd encI X ia ic C2 from by rw [← hC3]; exact rd_take HQ1.out _)
  have HWC := Lib.hid (show IntKind.i64.wrap (C2.length : Int) = (C2.length : Int) from IntWalk.i64_in _ (by omega))
  have hcle : (C2.length : Int) ≤ (ic : Int) := by omega
  have hcl0 : (0 : Int) ≤ (C2.length : Int) := by omega
  refine (soInts_yes la ia lc ic C _ (by (try unfold RdP); repeat (first | (with_reducible exact HL.out) | (with_reducible apply rd_seq) | (with_reducible apply Rd.plus) | (with_reducible apply Rd.alloc) | (with_reducible apply Rd.drew) | (with_reducible apply Rd.drewN))) (by (try unfold RdP); repeat (first | (with_reducible exact HQ1.out) | (with_reducible apply rd_seq) | (with_reducible apply Rd.plus) | (with_reducible apply Rd.alloc) | (with_reducible apply Rd.drew) | (with_reducible apply Rd.drewN)))).mono ?_
  rintro e w' ⟨rfl, y7, rfl⟩
  go_wp2_with fail
  refine (soInts_yes fa ia fc ic C2 _ (by (try unfold RdP); repeat (first | (with_reducible exact HF.out) | (with_reducible apply rd_seq) | (with_reducible apply Rd.plus) | (with_reducible apply Rd.alloc) | (with_reducible apply Rd.drew) | (with_reducible apply Rd.drewN))) (by (try unfold RdP); repeat (first | (with_reducible exact HC2.out) | (with_reducible apply rd_seq) | (with_reducible apply Rd.plus) | (with_reducible apply Rd.alloc) | (with_reducible apply Rd.drew) | (with_reducible apply Rd.drewN)))).mono ?_
  rintro e w' ⟨rfl, y8, rfl⟩
  go_wp2_with fail
  go_ret
  exact ⟨rfl, (by repeat (first | (with_reducible exact hbel) | refine below_plus ?_ (by first | omega | (simp <;> omega)) _ | refine Below.alloc ?_ (by first | omega | (simp <;> omega)) _ | refine below_patch ?_ (by omega) _ | refine Below.drew ?_))⟩

end Go.Proofs.Ytibfkfinghcpaaa
