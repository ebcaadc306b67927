/- soReaders of equal readers; soMany; soCut. -/
import Derived.Test.YtibfkfinghcpaaaSok
namespace Go.Proofs.Ytibfkfinghcpaaa
open Go.RowKit
set_option linter.unusedVariables false
set_option linter.unusedSimpArgs false

set_option maxRecDepth 100000 in
set_option maxHeartbeats 2000000 in
theorem soReaders_yes (o l m : Int) (a a' : Option Addr) (cap cap' : Nat) (ps : List Pr) (base last : Int) (s : ByteArray) (z c e1 : Int) (w : World) (hr : RdP w a cap ps) (hr' : RdP w a' cap' ps) :
    Calls Try.prog 35 #[.agg #[.int .i64 o, .int .i64 l, .int .i64 m, .slice a ps.length cap, .int .i64 base, .int .i64 last, .string s, .int .i64 z, .int .i64 c, .int .i64 e1], .agg #[.int .i64 o, .int .i64 l, .int .i64 m, .slice a' ps.length cap', .int .i64 base, .int .i64 last, .string s, .int .i64 z, .int .i64 c, .int .i64 e1]] w (Ret w (.bool true)) := by
  have HR := Lib.hid (show Rd encP w a cap ps from hr)
  have HR' := Lib.hid (show Rd encP w a' cap' ps from hr')
  have v1 : (s.toList == s.toList) = true := by simp
  have v2 : (z == z) = true := by simp
  have v3 : (c == c) = true := by simp
  have v4 : (e1 == e1) = true := by simp
  clear hr hr'
  go_enter Try.func35, Try.ntmps35
  go_wp2_with fail
  refine (soKnown_yes o l m a a' cap cap' ps base last _ (by (try unfold RdP); repeat (first | (with_reducible exact HR.out) | (with_reducible apply rd_seq) | (with_reducible apply Rd.plus) | (with_reducible apply Rd.alloc) | (with_reducible apply Rd.drew) | (with_reducible apply Rd.drewN))) (by (try unfold RdP); repeat (first | (with_reducible exact HR'.out) | (with_reducible apply rd_seq) | (with_reducible apply Rd.plus) | (with_reducible apply Rd.alloc) | (with_reducible apply Rd.drew) | (with_reducible apply Rd.drewN)))).mono ?_
  rintro e w' ⟨rfl, x, rfl⟩
  go_wp2_with fail
  go_ret
  exact Ret.mk (by repeat (first | exact More.refl _ | apply More.plus | apply More.alloc | apply More.drew | apply More.drewN))

set_option maxRecDepth 100000 in
set_option maxHeartbeats 2000000 in
theorem soMany_any (s : ByteArray) (n : Nat) (w : World) (hs : s.size ≤ 4) (hn : n ≤ 5000) : Calls Try.prog 17 #[.string s, .int .i64 n] w (fun e w' => ∃ r : ByteArray, e = .returned (.string r) ∧ r.size = s.size * n ∧ ∃ x, w' = plus w x) := by
  go_enter Try.func17, Try.ntmps17
  go_wp2_with fail
  go_loopw [5, 6] (fun t q wr => ∃ (k : Nat) (r : ByteArray), k ≤ n ∧ r.size = s.size * k ∧ q = .int .i64 k ∧ t = .string r ∧ More w wr) (fun _ q _ => n - (intOf q).toNat)
  case atStart => exact ⟨0, ⟨#[]⟩, Nat.zero_le _, rfl, rfl, rfl, More.refl _⟩
  case round =>
    obtain ⟨k, r, hk, hr, rfl, rfl, x, rfl⟩ := hrel
    have z0 : r.size ≤ 20000 := by rw [hr]; calc s.size * k ≤ 4 * 5000 := Nat.mul_le_mul hs (by omega)
      _ = 20000 := rfl
    have z1 : (r ++ s).size = s.size * (k + 1) := by rw [ByteArray.size_append, hr, Nat.mul_succ]
    rcases dec (k < n) with ⟨hlt, blt⟩ | ⟨hlt, blt⟩
    · go_wp2
      go_roundw
      case rel => exact ⟨k + 1, r ++ s, by omega, z1, by go_num, rfl, (by repeat (first | exact More.refl _ | apply More.plus | apply More.alloc | apply More.drew | apply More.drewN))⟩
      case measure => simp [intOf]; omega
    · obtain rfl : k = n := by omega
      go_wp2
      go_ret
      exact ⟨r, rfl, hr, (by repeat (first | exact More.refl _ | apply More.plus | apply More.alloc | apply More.drew | apply More.drewN))⟩

theorem cut_three (s : ByteArray) {p q : Nat} (h1 : p ≤ q) (h2 : q ≤ s.size) : s.extract 0 p ++ s.extract p q ++ s.extract q s.size = s := by
  have h3 : q ≤ s.data.size := h2
  refine ByteArray.ext ?_
  have h4 : s.size = s.data.size := rfl
  simp only [ByteArray.data_append, ByteArray.data_extract]
  rw [Array.extract_append_extract, show min 0 p = 0 by omega, show max p q = q by omega, Array.extract_append_extract, show min 0 q = 0 by omega, show max q s.size = s.data.size by omega]
  exact Array.extract_size

set_option maxRecDepth 100000 in
set_option maxHeartbeats 2000000 in
theorem soCut_any (s : ByteArray) (a : Option Addr) (cap : Nat) (bs : List UInt8) (w : World) (hr : Rd encB w a cap bs) (hs : s.size ≤ 100000) (hb : bs.length ≤ 1048576) :
    Calls Try.prog 36 #[.string s, .slice a bs.length cap] w (fun e w' => ∃ (G : Nat) (p1 p2 p3 : ByteArray), e = .returned (.slice (some ⟨G, 0, none⟩) 3 3) ∧ p1 ++ p2 ++ p3 = s ∧ w.heap.size ≤ G ∧ w'.heap[G]? = some (.cells #[.string p1, .string p2, .string p3] 9 (0, 0)) ∧ ∃ x, w' = plus w x) := by
  obtain ⟨k, hk⟩ : ∃ k, bs.length = k := ⟨_, rfl⟩
  obtain ⟨v1, hv1⟩ : ∃ v, k % (s.size + 1) = v := ⟨_, rfl⟩
  obtain ⟨v2, hv2⟩ : ∃ v, k / 3 % (s.size - v1 + 1) = v := ⟨_, rfl⟩
  have hl1 : v1 < s.size + 1 := by rw [← hv1]; exact Nat.mod_lt _ (by omega)
  have hl2 : v2 < s.size - v1 + 1 := by rw [← hv2]; exact Nat.mod_lt _ (by omega)
  have g1 := hr.1
  have g2 := hr.2.1
  rw [hk] at hb g1
  have e1 : (k : Int) % ((s.size : Int) + 1) = v1 := by rw [← hv1]; rfl
  have e0 : ((s.size - v1 + 1 : Nat) : Int) = (s.size : Int) - v1 + 1 := by omega
  have e2 : (k : Int) / 3 % ((s.size : Int) - v1 + 1) = v2 := by rw [← e0, ← hv2, Int.natCast_emod, Int.natCast_ediv]; rfl
  have r1 : (0 : Int) ≤ (v1 : Int) := by omega
  have r2 : (v1 : Int) ≤ (s.size : Int) := by omega
  have r3 : (v1 : Int) ≤ (v1 : Int) + (v2 : Int) := by omega
  have r4 : (v1 : Int) + (v2 : Int) ≤ (s.size : Int) := by omega
  have r5 : (0 : Int) ≤ (v1 : Int) + (v2 : Int) := by omega
  have HW1 := Lib.hid (show IntKind.i64.wrap (v1 : Int) = (v1 : Int) from IntWalk.i64_in _ (by omega))
  have HW3 := Lib.hid (show IntKind.i64.wrap ((v1 : Int) + (v2 : Int)) = (v1 : Int) + (v2 : Int) from IntWalk.i64_in _ (by omega))
  rw [hk]
  clear hr e0 hv1 hv2
  go_enter Try.func36, Try.ntmps36
  go_wp2_with fail
  simp only [e1, e2]
  clear e1 e2
  refine wp_region_pt 11 (fun w' => True) (Plan.quiet 0 (Plan.quiet 1 (Plan.quiet 2 (Plan.quiet 3 (Plan.quiet 4 (Plan.quiet 5 (Plan.quiet 6 (Plan.quiet 7 (Plan.quiet 8 (Plan.quiet 9 (Plan.one 10 (Plan.one 11 Plan.done)))))))))))) (by kernel_rfl) (by kernel_rfl) (trivial) ?_
  refine wpPt_val rfl rfl ?_
  apply Exists.intro
  refine ⟨fun w' hS => ?_, ?_⟩
  focus (skip; simp [go_sem, ↓IntWalk.iteOmega, HW1.out, HW3.out, r1, r2, r3, r4, r5] <;> first | done | exact rfl | (rw [IntWalk.i64_in _ (by omega)]; exact rfl) | trace_state)
  refine wpPt_val rfl rfl ?_
  apply Exists.intro
  refine ⟨fun w' hS => ?_, ?_⟩
  focus (skip; simp [go_sem, ↓IntWalk.iteOmega, HW1.out, HW3.out, r1, r2, r3, r4, r5] <;> first | done | exact rfl | (rw [IntWalk.i64_in _ (by omega)]; exact rfl) | trace_state)
  refine wpPt_val rfl rfl ?_
  apply Exists.intro
  refine ⟨fun w' hS => ?_, ?_⟩
  focus (skip; simp [go_sem, ↓IntWalk.iteOmega, HW1.out, HW3.out, r1, r2, r3, r4, r5] <;> first | done | exact rfl | (rw [IntWalk.i64_in _ (by omega)]; exact rfl) | trace_state)
  refine wpPt_val rfl rfl ?_
  apply Exists.intro
  refine ⟨fun w' hS => ?_, ?_⟩
  focus (skip; simp [go_sem, ↓IntWalk.iteOmega, HW1.out, HW3.out, r1, r2, r3, r4, r5] <;> first | done | exact rfl | (rw [IntWalk.i64_in _ (by omega)]; exact rfl) | trace_state)
  refine wpPt_val rfl rfl ?_
  apply Exists.intro
  refine ⟨fun w' hS => ?_, ?_⟩
  focus (skip; simp [go_sem, ↓IntWalk.iteOmega, HW1.out, HW3.out, r1, r2, r3, r4, r5] <;> first | done | exact rfl | (rw [IntWalk.i64_in _ (by omega)]; exact rfl) | trace_state)
  refine wpPt_val rfl rfl ?_
  apply Exists.intro
  refine ⟨fun w' hS => ?_, ?_⟩
  focus (skip; simp [go_sem, ↓IntWalk.iteOmega, HW1.out, HW3.out, r1, r2, r3, r4, r5] <;> first | done | exact rfl | (rw [IntWalk.i64_in _ (by omega)]; exact rfl) | trace_state)
  refine wpPt_val rfl rfl ?_
  apply Exists.intro
  refine ⟨fun w' hS => ?_, ?_⟩
  focus (skip; simp [go_sem, ↓IntWalk.iteOmega, HW1.out, HW3.out, r1, r2, r3, r4, r5] <;> first | done | exact rfl | (rw [IntWalk.i64_in _ (by omega)]; exact rfl) | trace_state)
  refine wpPt_val rfl rfl ?_
  apply Exists.intro
  refine ⟨fun w' hS => ?_, ?_⟩
  focus (skip; simp [go_sem, ↓IntWalk.iteOmega, HW1.out, HW3.out, r1, r2, r3, r4, r5] <;> first | done | exact rfl | (rw [IntWalk.i64_in _ (by omega)]; exact rfl) | trace_state)
  refine wpPt_val rfl rfl ?_
  apply Exists.intro
  refine ⟨fun w' hS => ?_, ?_⟩
  focus (skip; simp [go_sem, ↓IntWalk.iteOmega, HW1.out, HW3.out, r1, r2, r3, r4, r5] <;> first | done | exact rfl | (rw [IntWalk.i64_in _ (by omega)]; exact rfl) | trace_state)
  refine wpPt_val rfl rfl ?_
  apply Exists.intro
  refine ⟨fun w' hS => ?_, ?_⟩
  focus (skip; simp [go_sem, ↓IntWalk.iteOmega, HW1.out, HW3.out, r1, r2, r3, r4, r5] <;> first | done | exact rfl | (rw [IntWalk.i64_in _ (by omega)]; exact rfl) | trace_state)
  refine wpPt_one rfl rfl (fun K hK => ?_)
  go_simp
  refine hK _ _ (fun hkn => trivial) ?_
  clear hK K
  refine wpPt_one rfl rfl (fun K hK => ?_)
  go_simp
  refine hK _ _ (fun hkn => absurd hkn (by decide)) ?_
  clear hK K
  refine NoPanic.normal ?_
  go_wp2_with fail
  go_ret
  refine ⟨w.heap.size, _, _, _, rfl, cut_three s (p := v1) (q := ((v1 : Int) + (v2 : Int)).toNat) (by omega) (by omega), Nat.le_refl _, ?_, (by repeat (first | exact More.refl _ | apply More.plus | apply More.alloc | apply More.drew | apply More.drewN))⟩
  exact (by repeat (first | (with_reducible exact push_new _ _ _ rfl) | (with_reducible exact push_new _ _ _ (by simp)) | (with_reducible apply blk_plus) | (with_reducible apply blk_alloc) | (with_reducible apply blk_drew) | (with_reducible refine blk_patch ?_ (by omega))))

end Go.Proofs.Ytibfkfinghcpaaa
