/- The walks of ReadStream: what both return. -/
import Derived.Test.YtmenpflcmpihpaaLrw
import Derived.Test.YtmenpflcmpihpaaRdr
import Derived.Test.YtmenpflcmpihpaaRng
namespace Go.Proofs.Ytmenpflcmpihpaa
open Go.RowKit
set_option linter.unusedVariables false
set_option linter.unusedSimpArgs false

/-- the bits left over, of L bits -/
def leftV (L : Nat) (R : Rg) : Int := if R.e = 1 then 0 else (L : Int) - R.p

/-- a call that returns a reader, data, a number and true -/
def RetRs (w : World) (o l m b : Int) (sb : ByteArray) (R : Rg) (sz ct : Nat) (u : Int) (E : Ending) (w' : World) : Prop :=
  RetO w (fun a0 c0 => .tuple #[.agg #[.int .i64 o, .int .i64 l, .int .i64 m, .slice a0 R.ps.length c0, .int .i64 b, .int .i64 R.last, .string sb, .int .i64 ((sz : Int) + R.D.length), .int .i64 ((ct : Int) + R.C.length), .int .i64 R.e], .string (bstr R.D), .int .i64 u, .bool true]) R.ps E w'

set_option maxRecDepth 100000 in
set_option maxHeartbeats 4000000 in
theorem specReadStream_go (o l m : Int) (a : Option Addr) (cap : Nat) (ps : List Pr) (b : Nat) (last : Int) (s u : ByteArray) (sz ct : Nat) (w : World) (hr : RdP w a cap ps) (hv : rdb o l m ps (b : Int) last s sz ct 1 = true) (hu : u.size ≤ 4000) (hss : s.size ≤ 100) (R : Rg) (bits : List UInt8) (hbe : s.data.toList ++ unpL o u.data.toList = bits)
    (hR : rdc o l m b sz ct bits (bits.length + 1) ps last 0 [] [] = R) (sb : ByteArray) (hsb : (if R.e = 1 then bstr (bits.drop R.p) else ⟨#[]⟩) = sb) (L : Int) (hL : leftV bits.length R = L) (hL0 : 0 ≤ L) (hL1 : L ≤ 100000) :
    Calls Try.prog 50 #[.agg #[.int .i64 o, .int .i64 l, .int .i64 m, .slice a ps.length cap, .int .i64 b, .int .i64 last, .string s, .int .i64 sz, .int .i64 ct, .int .i64 1], .string u] w (RetRs w o l m b sb R sz ct ((u.size : Int) - L / 8)) := by
  have hv2 := hv
  unfold rdb at hv2
  rw [Bool.and_eq_true] at hv2
  obtain ⟨hk, hrv0⟩ := hv2
  have hrv := rvb_iff.1 hrv0
  obtain ⟨ho, _⟩ := sv_iff.1 (kvb_iff.1 hk).s
  have hsz2 := hrv.z1
  have hct2 : ct < 3100 := by have := hrv.e; simp at this; omega
  have hbb := bitsB_bv.1 hrv.bits
  obtain ⟨y, hy⟩ : ∃ y, bstr (unpL o u.data.toList) = y := ⟨_, rfl⟩
  have hyb : y.data.toList = unpL o u.data.toList := by rw [← hy, bytes_bstr]
  have hys : y.size = 8 * u.size := by rw [← hy, bstr_size, unpL_len, bytes_len]
  have hbt : (s ++ y).data.toList = bits := by rw [← hbe, ← hyb]; simp
  have hbv : BV (s ++ y).data.toList := by
    rw [hbt, ← hbe]
    intro x hx
    rcases List.mem_append.1 hx with hx | hx
    · exact hbb.2 x hx
    · obtain ⟨q, _, hq⟩ := List.mem_flatMap.1 hx
      exact bitsL_bv o _ _ x hq
  have hbl : (s ++ y).size = bits.length := by rw [← bytes_len, hbt]
  have HY := Lib.hid hy
  have HRP := Lib.hid hr
  have HR := Lib.hid (show rdc o l m b sz ct (s ++ y).data.toList ((s ++ y).size + 1) ps last 0 [] [] = R by rw [hbt, hbl]; exact hR)
  have HBV := Lib.hid hbv
  have HSB := Lib.hid hsb
  have HLL := Lib.hid hL
  have HBT := Lib.hid hbt
  have HVV := Lib.hid hv
  have hsm : s.size ≤ maxLen := by unfold maxLen; omega
  clear hr hR hbv hsb hL hbt hy hyb hv hrv0 hrv hbb hbe hbl
  go_enter Try.func50, Try.ntmps50
  go_wp2_with (go_at_call 97; refine (specReaderValid_any _ _ _ _ _ ps _ _ s _ _ _ _ (by repeat (first | exact HRP.out | apply rd_seq | apply Rd.plus | apply Rd.alloc | apply Rd.drew | apply Rd.drewN | refine rd_patch ?_ _ _ (by intro A hA; first | (cases hA; show _ ≠ _; omega) | (have := hal A hA; omega)))) hsm).mono ?_; rintro e w' ⟨rfl, xc, rfl⟩; rw [HVV.out])
  refine wp_region_pt 15 (fun w' => ∃ y, w' = plus _ y) (Plan.quiet 0 (Plan.quiet 1 (Plan.quiet 2 (Plan.quiet 3 (Plan.quiet 4 (Plan.quiet 5 (Plan.two 6 (Plan.two 7 (Plan.quiet 8 (Plan.quiet 9 (Plan.quiet 10 (Plan.quiet 11 (Plan.one 12 (Plan.one 13 (Plan.quiet 14 (Plan.one 15 Plan.done)))))))) 12 (Plan.one 7 (Plan.quiet 8 (Plan.quiet 9 (Plan.quiet 10 (Plan.quiet 11 (Plan.one 13 (Plan.quiet 14 (Plan.one 15 Plan.done))))))))) 12 (Plan.one 6 (Plan.one 7 (Plan.quiet 8 (Plan.quiet 9 (Plan.quiet 10 (Plan.quiet 11 (Plan.one 13 (Plan.quiet 14 (Plan.one 15 Plan.done)))))))))))))))) (by kernel_rfl) (by kernel_rfl) (⟨_, drew_is_plus _⟩) ?_
  refine wpPt_val rfl rfl ?_
  apply Exists.intro
  refine ⟨fun w' hS => ?_, ?_⟩
  focus (obtain ⟨y3, rfl⟩ := hS; simp [go_sem, ↓IntWalk.iteOmega] <;> first | done | exact rfl | (rw [IntWalk.i64_in _ (by omega)]; exact rfl) | trace_state)
  refine wpPt_val rfl rfl ?_
  apply Exists.intro
  refine ⟨fun w' hS => ?_, ?_⟩
  focus (obtain ⟨y3, rfl⟩ := hS; simp [go_sem, ↓IntWalk.iteOmega] <;> first | done | exact rfl | (rw [IntWalk.i64_in _ (by omega)]; exact rfl) | trace_state)
  refine wpPt_val rfl rfl ?_
  apply Exists.intro
  refine ⟨fun w' hS => ?_, ?_⟩
  focus (obtain ⟨y3, rfl⟩ := hS; simp [go_sem, ↓IntWalk.iteOmega] <;> first | done | exact rfl | (rw [IntWalk.i64_in _ (by omega)]; exact rfl) | trace_state)
  refine wpPt_val rfl rfl ?_
  apply Exists.intro
  refine ⟨fun w' hS => ?_, ?_⟩
  focus (obtain ⟨y3, rfl⟩ := hS; simp [go_sem, ↓IntWalk.iteOmega] <;> first | done | exact rfl | (rw [IntWalk.i64_in _ (by omega)]; exact rfl) | trace_state)
  refine wpPt_val rfl rfl ?_
  apply Exists.intro
  refine ⟨fun w' hS => ?_, ?_⟩
  focus (obtain ⟨y3, rfl⟩ := hS; simp [go_sem, ↓IntWalk.iteOmega] <;> first | done | exact rfl | (rw [IntWalk.i64_in _ (by omega)]; exact rfl) | trace_state)
  refine wpPt_val rfl rfl ?_
  apply Exists.intro
  refine ⟨fun w' hS => ?_, ?_⟩
  focus (obtain ⟨y3, rfl⟩ := hS; simp [go_sem, ↓IntWalk.iteOmega] <;> first | done | exact rfl | (rw [IntWalk.i64_in _ (by omega)]; exact rfl) | trace_state)
  refine wpPt_two rfl rfl rfl rfl (fun K hK => ?_) (fun K hK => ?_)
  go_simp
  refine (l1Unpack_any o u _ ho hu).mono ?_
  rintro e w' ⟨rfl, x5, rfl⟩
  rw [HY.out]
  refine hK _ _ (fun hkn => (by repeat (first | exact More.refl _ | (with_reducible apply more_seq) | (with_reducible apply more_draw) | apply More.plus | apply More.alloc | apply More.drew))) ?_
  clear hK K
  refine wpPt_two rfl rfl rfl rfl (fun K hK => ?_) (fun K hK => ?_)
  go_simp
  refine (l3Read_any o l m a cap ps b last s y sz ct _ (by repeat (first | exact HRP.out | apply rd_seq | apply Rd.plus | apply Rd.alloc | apply Rd.drew | apply Rd.drewN | refine rd_patch ?_ _ _ (by intro A hA; first | (cases hA; show _ ≠ _; omega) | (have := hal A hA; omega)))) hk hss (by omega) HBV.out (by omega) hct2 R HR.out).mono ?_
  rintro e w' ⟨pa, pc, rfl, hown, x6, rfl⟩
  (try simp only [plus_plus] at hown)
  have HO := Lib.hid hown
  clear hown
  rw [HBT.out, HSB.out, show (if R.e = 1 then (0 : Int) else (bits.length : Int) - R.p) = L from HLL.out]
  refine hK _ _ (fun hkn => (by repeat (first | exact More.refl _ | (with_reducible apply more_seq) | (with_reducible apply more_draw) | apply More.plus | apply More.alloc | apply More.drew))) ?_
  clear hK K
  refine wpPt_val rfl rfl ?_
  apply Exists.intro
  refine ⟨fun w' hS => ?_, ?_⟩
  focus (obtain ⟨y3, rfl⟩ := hS; simp [go_sem, ↓IntWalk.iteOmega] <;> first | done | exact rfl | (rw [IntWalk.i64_in _ (by omega)]; exact rfl) | trace_state)
  refine wpPt_val rfl rfl ?_
  apply Exists.intro
  refine ⟨fun w' hS => ?_, ?_⟩
  focus (obtain ⟨y3, rfl⟩ := hS; simp [go_sem, ↓IntWalk.iteOmega] <;> first | done | exact rfl | (rw [IntWalk.i64_in _ (by omega)]; exact rfl) | trace_state)
  refine wpPt_val rfl rfl ?_
  apply Exists.intro
  refine ⟨fun w' hS => ?_, ?_⟩
  focus (obtain ⟨y3, rfl⟩ := hS; simp [go_sem, ↓IntWalk.iteOmega] <;> first | done | exact rfl | (rw [IntWalk.i64_in _ (by omega)]; exact rfl) | trace_state)
  refine wpPt_val rfl rfl ?_
  apply Exists.intro
  refine ⟨fun w' hS => ?_, ?_⟩
  focus (obtain ⟨y3, rfl⟩ := hS; simp [go_sem, ↓IntWalk.iteOmega] <;> first | done | exact rfl | (rw [IntWalk.i64_in _ (by omega)]; exact rfl) | trace_state)
  refine wpPt_one rfl rfl (fun K hK => ?_)
  go_simp
  refine hK _ _ (fun hkn => (by repeat (first | exact More.refl _ | (with_reducible apply more_seq) | (with_reducible apply more_draw) | apply More.plus | apply More.alloc | apply More.drew))) ?_
  clear hK K
  refine wpPt_one rfl rfl (fun K hK => ?_)
  go_simp
  refine hK _ _ (fun hkn => (by repeat (first | exact More.refl _ | (with_reducible apply more_seq) | (with_reducible apply more_draw) | apply More.plus | apply More.alloc | apply More.drew))) ?_
  clear hK K
  refine wpPt_val rfl rfl ?_
  apply Exists.intro
  refine ⟨fun w' hS => ?_, ?_⟩
  focus (obtain ⟨y3, rfl⟩ := hS; simp [go_sem, ↓IntWalk.iteOmega] <;> first | done | exact rfl | (rw [IntWalk.i64_in _ (by omega)]; exact rfl) | trace_state)
  refine wpPt_one rfl rfl (fun K hK => ?_)
  go_simp
  refine hK _ _ (fun hkn => absurd hkn (by decide)) ?_
  clear hK K
  refine NoPanic.normal ?_
  rotate_left
  go_simp
  refine hK _ _ (fun hkn => (by repeat (first | exact More.refl _ | (with_reducible apply more_seq) | (with_reducible apply more_draw) | apply More.plus | apply More.alloc | apply More.drew))) ?_
  clear hK K
  refine wpPt_one rfl rfl (fun K hK => ?_)
  go_simp
  refine (l3Read_any o l m a cap ps b last s y sz ct _ (by repeat (first | exact HRP.out | apply rd_seq | apply Rd.plus | apply Rd.alloc | apply Rd.drew | apply Rd.drewN | refine rd_patch ?_ _ _ (by intro A hA; first | (cases hA; show _ ≠ _; omega) | (have := hal A hA; omega)))) hk hss (by omega) HBV.out (by omega) hct2 R HR.out).mono ?_
  rintro e w' ⟨pa, pc, rfl, hown, x6, rfl⟩
  (try simp only [plus_plus] at hown)
  have HO := Lib.hid hown
  clear hown
  rw [HBT.out, HSB.out, show (if R.e = 1 then (0 : Int) else (bits.length : Int) - R.p) = L from HLL.out]
  refine hK _ _ (fun hkn => (by repeat (first | exact More.refl _ | (with_reducible apply more_seq) | (with_reducible apply more_draw) | apply More.plus | apply More.alloc | apply More.drew))) ?_
  clear hK K
  refine wpPt_val rfl rfl ?_
  apply Exists.intro
  refine ⟨fun w' hS => ?_, ?_⟩
  focus (obtain ⟨y3, rfl⟩ := hS; simp [go_sem, ↓IntWalk.iteOmega] <;> first | done | exact rfl | (rw [IntWalk.i64_in _ (by omega)]; exact rfl) | trace_state)
  refine wpPt_val rfl rfl ?_
  apply Exists.intro
  refine ⟨fun w' hS => ?_, ?_⟩
  focus (obtain ⟨y3, rfl⟩ := hS; simp [go_sem, ↓IntWalk.iteOmega] <;> first | done | exact rfl | (rw [IntWalk.i64_in _ (by omega)]; exact rfl) | trace_state)
  refine wpPt_val rfl rfl ?_
  apply Exists.intro
  refine ⟨fun w' hS => ?_, ?_⟩
  focus (obtain ⟨y3, rfl⟩ := hS; simp [go_sem, ↓IntWalk.iteOmega] <;> first | done | exact rfl | (rw [IntWalk.i64_in _ (by omega)]; exact rfl) | trace_state)
  refine wpPt_val rfl rfl ?_
  apply Exists.intro
  refine ⟨fun w' hS => ?_, ?_⟩
  focus (obtain ⟨y3, rfl⟩ := hS; simp [go_sem, ↓IntWalk.iteOmega] <;> first | done | exact rfl | (rw [IntWalk.i64_in _ (by omega)]; exact rfl) | trace_state)
  refine wpPt_one rfl rfl (fun K hK => ?_)
  go_simp
  refine hK _ _ (fun hkn => (by repeat (first | exact More.refl _ | (with_reducible apply more_seq) | (with_reducible apply more_draw) | apply More.plus | apply More.alloc | apply More.drew))) ?_
  clear hK K
  refine wpPt_val rfl rfl ?_
  apply Exists.intro
  refine ⟨fun w' hS => ?_, ?_⟩
  focus (obtain ⟨y3, rfl⟩ := hS; simp [go_sem, ↓IntWalk.iteOmega] <;> first | done | exact rfl | (rw [IntWalk.i64_in _ (by omega)]; exact rfl) | trace_state)
  refine wpPt_one rfl rfl (fun K hK => ?_)
  go_simp
  refine hK _ _ (fun hkn => absurd hkn (by decide)) ?_
  clear hK K
  refine NoPanic.normal ?_
  rotate_left
  go_simp
  refine hK _ _ (fun hkn => (by repeat (first | exact More.refl _ | (with_reducible apply more_seq) | (with_reducible apply more_draw) | apply More.plus | apply More.alloc | apply More.drew))) ?_
  clear hK K
  refine wpPt_one rfl rfl (fun K hK => ?_)
  go_simp
  refine (l1Unpack_any o u _ ho hu).mono ?_
  rintro e w' ⟨rfl, x5, rfl⟩
  rw [HY.out]
  refine hK _ _ (fun hkn => (by repeat (first | exact More.refl _ | (with_reducible apply more_seq) | (with_reducible apply more_draw) | apply More.plus | apply More.alloc | apply More.drew))) ?_
  clear hK K
  refine wpPt_one rfl rfl (fun K hK => ?_)
  go_simp
  refine (l3Read_any o l m a cap ps b last s y sz ct _ (by repeat (first | exact HRP.out | apply rd_seq | apply Rd.plus | apply Rd.alloc | apply Rd.drew | apply Rd.drewN | refine rd_patch ?_ _ _ (by intro A hA; first | (cases hA; show _ ≠ _; omega) | (have := hal A hA; omega)))) hk hss (by omega) HBV.out (by omega) hct2 R HR.out).mono ?_
  rintro e w' ⟨pa, pc, rfl, hown, x6, rfl⟩
  (try simp only [plus_plus] at hown)
  have HO := Lib.hid hown
  clear hown
  rw [HBT.out, HSB.out, show (if R.e = 1 then (0 : Int) else (bits.length : Int) - R.p) = L from HLL.out]
  refine hK _ _ (fun hkn => (by repeat (first | exact More.refl _ | (with_reducible apply more_seq) | (with_reducible apply more_draw) | apply More.plus | apply More.alloc | apply More.drew))) ?_
  clear hK K
  refine wpPt_val rfl rfl ?_
  apply Exists.intro
  refine ⟨fun w' hS => ?_, ?_⟩
  focus (obtain ⟨y3, rfl⟩ := hS; simp [go_sem, ↓IntWalk.iteOmega] <;> first | done | exact rfl | (rw [IntWalk.i64_in _ (by omega)]; exact rfl) | trace_state)
  refine wpPt_val rfl rfl ?_
  apply Exists.intro
  refine ⟨fun w' hS => ?_, ?_⟩
  focus (obtain ⟨y3, rfl⟩ := hS; simp [go_sem, ↓IntWalk.iteOmega] <;> first | done | exact rfl | (rw [IntWalk.i64_in _ (by omega)]; exact rfl) | trace_state)
  refine wpPt_val rfl rfl ?_
  apply Exists.intro
  refine ⟨fun w' hS => ?_, ?_⟩
  focus (obtain ⟨y3, rfl⟩ := hS; simp [go_sem, ↓IntWalk.iteOmega] <;> first | done | exact rfl | (rw [IntWalk.i64_in _ (by omega)]; exact rfl) | trace_state)
  refine wpPt_val rfl rfl ?_
  apply Exists.intro
  refine ⟨fun w' hS => ?_, ?_⟩
  focus (obtain ⟨y3, rfl⟩ := hS; simp [go_sem, ↓IntWalk.iteOmega] <;> first | done | exact rfl | (rw [IntWalk.i64_in _ (by omega)]; exact rfl) | trace_state)
  refine wpPt_one rfl rfl (fun K hK => ?_)
  go_simp
  refine hK _ _ (fun hkn => (by repeat (first | exact More.refl _ | (with_reducible apply more_seq) | (with_reducible apply more_draw) | apply More.plus | apply More.alloc | apply More.drew))) ?_
  clear hK K
  refine wpPt_val rfl rfl ?_
  apply Exists.intro
  refine ⟨fun w' hS => ?_, ?_⟩
  focus (obtain ⟨y3, rfl⟩ := hS; simp [go_sem, ↓IntWalk.iteOmega] <;> first | done | exact rfl | (rw [IntWalk.i64_in _ (by omega)]; exact rfl) | trace_state)
  refine wpPt_one rfl rfl (fun K hK => ?_)
  go_simp
  refine hK _ _ (fun hkn => absurd hkn (by decide)) ?_
  clear hK K
  refine NoPanic.normal ?_
  all_goals
    go_wp2_with fail
    refine bodyPost_ret (v := .tuple #[.agg #[.int .i64 o, .int .i64 l, .int .i64 m, .slice pa R.ps.length pc, .int .i64 b, .int .i64 R.last, .string sb, .int .i64 ((sz : Int) + R.D.length), .int .i64 ((ct : Int) + R.C.length), .int .i64 R.e], .string (bstr R.D), .int .i64 ((u.size : Int) - L / 8), .bool true]) (by simp [results, Try.results50, go_sem, ↓IntWalk.iteOmega]) rfl ?_
    exact ⟨pa, pc, rfl, (by repeat (first | exact (own_swap HO.out (by simp) (by simp <;> omega)).lower (by simp <;> omega) | (with_reducible apply Own.alloc) | (with_reducible apply Own.drew) | (with_reducible apply own_draw) | (with_reducible apply own_seq))), (by repeat (first | exact More.refl _ | apply More.plus | apply More.alloc | apply More.drew | apply More.drewN))⟩

end Go.Proofs.Ytmenpflcmpihpaa
