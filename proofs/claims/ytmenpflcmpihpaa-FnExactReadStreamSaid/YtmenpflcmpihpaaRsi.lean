/- The walk of impl.ReadStream, of a reader that goes on. -/
import Derived.Test.YtmenpflcmpihpaaRst
namespace Go.Proofs.Ytmenpflcmpihpaa
open Go.RowKit
set_option linter.unusedVariables false
set_option linter.unusedSimpArgs false

/-- how many bytes the program says are used -/
def usedI (L ls : Nat) (R : Rg) : Int := if R.e = 1 then (L : Int) else (max 0 ((R.p : Int) - ls) + 7) / 8

/-- a world under a name, with what is known of it -/
theorem wp_named {P : Program} {c : Code} {Q : Exit → Act → World → Prop} {a : Act} {W : World} (F : World → Prop) (hF : F W) (h : ∀ X, F X → c.wp P Q a X) : c.wp P Q a W := h W hF

set_option maxRecDepth 100000 in
set_option maxHeartbeats 8000000 in
theorem implReadStream_go (o l m : Int) (a : Option Addr) (cap : Nat) (ps : List Pr) (b : Nat) (last : Int) (s u : ByteArray) (sz ct : Nat) (w : World) (hr : RdP w a cap ps) (hv : rdb o l m ps (b : Int) last s sz ct 1 = true) (hu : u.size ≤ 4000) (hss : s.size ≤ 100) (R : Rg) (bits : List UInt8) (hbe : s.data.toList ++ unpL o u.data.toList = bits)
    (hR : rdc o l m b sz ct bits (bits.length + 1) ps last 0 [] [] = R) (sb : ByteArray) (hsb : (if R.e = 1 then bstr (bits.drop R.p) else ⟨#[]⟩) = sb) (hRp : R.p ≤ bits.length) (hRl : R.ps.length ≤ 2000) (hRd : sz + R.D.length ≤ 2000) (hRc : ct + R.C.length ≤ 3100) :
    Calls Try.prog 52 #[.agg #[.int .i64 o, .int .i64 l, .int .i64 m, .slice a ps.length cap, .int .i64 b, .int .i64 last, .string s, .int .i64 sz, .int .i64 ct, .int .i64 1], .string u] w (RetRs w o l m b sb R sz ct (usedI u.size s.size R)) := by
  have hv2 := hv
  unfold rdb at hv2
  rw [Bool.and_eq_true] at hv2
  obtain ⟨hk, hrv0⟩ := hv2
  have hrv := rvb_iff.1 hrv0
  obtain ⟨ho, _⟩ := sv_iff.1 (kvb_iff.1 hk).s
  have hsz2 := hrv.z1
  have hct2 : ct < 3100 := by have := hrv.e; simp at this; omega
  obtain ⟨y, hy⟩ : ∃ y, bstr (unpL o u.data.toList) = y := ⟨_, rfl⟩
  have hyb : y.data.toList = unpL o u.data.toList := by rw [← hy, bytes_bstr]
  have hys : y.size = 8 * u.size := by rw [← hy, bstr_size, unpL_len, bytes_len]
  obtain ⟨z, hz⟩ : ∃ z, s ++ y = z := ⟨_, rfl⟩
  have hzt : z.data.toList = bits := by rw [← hz, ← hbe, ← hyb]; simp
  have hzs : z.size = bits.length := by rw [← bytes_len, hzt]
  have hzb : z.size ≤ 32100 := by rw [← hz, ByteArray.size_append]; omega
  have HY := Lib.hid hy
  have HRP := Lib.hid hr
  have HR := Lib.hid (show rdc o l m b sz ct z.data.toList (z.size + 1) ps last 0 [] [] = R by rw [hzt, hzs]; exact hR)
  have HSB := Lib.hid hsb
  have HZT := Lib.hid hzt
  have HVV := Lib.hid hv
  have HK := Lib.hid hk
  have hsm : s.size ≤ maxLen := by unfold maxLen; omega
  have mixed : Try.prog.follows .mixedOrders = true := by kernel_rfl
  clear hr hR hsb hzt hy hyb hv hrv0 hrv hbe hk
  go_enter Try.func52, Try.ntmps52
  go_wp2_with (go_at_call 100; refine (ReaderValid_any _ _ _ _ _ ps _ _ s _ _ _ _ (by repeat (first | exact HRP.out | apply rd_seq | apply Rd.plus | apply Rd.alloc | apply Rd.drew | apply Rd.drewN | refine rd_patch ?_ _ _ (by intro A hA; first | (cases hA; show _ ≠ _; omega) | (have := hal A hA; omega)))) hsm).mono ?_; rintro e w' ⟨rfl, xc, rfl⟩; rw [HVV.out])
  refine wp_region_pt 9 (fun w' => ∃ y, w' = plus _ y) (Plan.quiet 0 (Plan.quiet 1 (Plan.quiet 2 (Plan.quiet 3 (Plan.quiet 4 (Plan.quiet 5 (Plan.quiet 6 (Plan.one 7 (Plan.quiet 8 (Plan.one 9 Plan.done)))))))))) (by kernel_rfl) (by kernel_rfl) (⟨_, drew_is_plus _⟩) ?_
  refine wpPt_val rfl rfl ?_
  apply Exists.intro
  refine ⟨fun w' hS => ?_, ?_⟩
  focus (obtain ⟨y3, rfl⟩ := hS; simp [go_sem, ↓IntWalk.iteOmega, hz] <;> first | done | exact rfl | (rw [IntWalk.i64_in _ (by omega)]; exact rfl) | trace_state)
  refine wpPt_val rfl rfl ?_
  apply Exists.intro
  refine ⟨fun w' hS => ?_, ?_⟩
  focus (obtain ⟨y3, rfl⟩ := hS; simp [go_sem, ↓IntWalk.iteOmega, hz] <;> first | done | exact rfl | (rw [IntWalk.i64_in _ (by omega)]; exact rfl) | trace_state)
  refine wpPt_val rfl rfl ?_
  apply Exists.intro
  refine ⟨fun w' hS => ?_, ?_⟩
  focus (obtain ⟨y3, rfl⟩ := hS; simp [go_sem, ↓IntWalk.iteOmega, hz] <;> first | done | exact rfl | (rw [IntWalk.i64_in _ (by omega)]; exact rfl) | trace_state)
  refine wpPt_val rfl rfl ?_
  apply Exists.intro
  refine ⟨fun w' hS => ?_, ?_⟩
  focus (obtain ⟨y3, rfl⟩ := hS; simp [go_sem, ↓IntWalk.iteOmega, hz] <;> first | done | exact rfl | (rw [IntWalk.i64_in _ (by omega)]; exact rfl) | trace_state)
  refine wpPt_val rfl rfl ?_
  apply Exists.intro
  refine ⟨fun w' hS => ?_, ?_⟩
  focus (obtain ⟨y3, rfl⟩ := hS; simp [go_sem, ↓IntWalk.iteOmega, hz] <;> first | done | exact rfl | (rw [IntWalk.i64_in _ (by omega)]; exact rfl) | trace_state)
  refine wpPt_val rfl rfl ?_
  apply Exists.intro
  refine ⟨fun w' hS => ?_, ?_⟩
  focus (obtain ⟨y3, rfl⟩ := hS; simp [go_sem, ↓IntWalk.iteOmega, hz] <;> first | done | exact rfl | (rw [IntWalk.i64_in _ (by omega)]; exact rfl) | trace_state)
  refine wpPt_val rfl rfl ?_
  apply Exists.intro
  refine ⟨fun w' hS => ?_, ?_⟩
  focus (obtain ⟨y3, rfl⟩ := hS; simp [go_sem, ↓IntWalk.iteOmega, hz] <;> first | done | exact rfl | (rw [IntWalk.i64_in _ (by omega)]; exact rfl) | trace_state)
  refine wpPt_one rfl rfl (fun K hK => ?_)
  go_simp
  refine (unpackBytes_any o u _ hu).mono ?_
  rintro e w' ⟨rfl, x5, rfl⟩
  rw [HY.out]
  refine hK _ _ (fun hkn => (by repeat (first | exact More.refl _ | (with_reducible apply more_seq) | (with_reducible apply more_draw) | apply More.plus | apply More.alloc | apply More.drew))) ?_
  clear hK K
  refine wpPt_val rfl rfl ?_
  apply Exists.intro
  refine ⟨fun w' hS => ?_, ?_⟩
  focus (obtain ⟨y3, rfl⟩ := hS; simp [go_sem, ↓IntWalk.iteOmega, hz] <;> first | done | exact rfl | (rw [IntWalk.i64_in _ (by omega)]; exact rfl) | trace_state)
  refine wpPt_one rfl rfl (fun K hK => ?_)
  go_simp
  refine hK _ _ (fun hkn => absurd hkn (by decide)) ?_
  clear hK K
  refine NoPanic.normal ?_
  go_wp2_with fail
  refine (readCodes_any o l m a cap ps b last z sz ct _ (by repeat (first | exact HRP.out | apply rd_seq | apply Rd.plus | apply Rd.alloc | apply Rd.drew | apply Rd.drewN | refine rd_patch ?_ _ _ (by intro A hA; first | (cases hA; show _ ≠ _; omega) | (have := hal A hA; omega)))) HK.out (by omega) (by omega) hct2 R HR.out).mono ?_
  rintro e w' ⟨pa, pc, ca, cc, da, dc, rfl, hop, hoc, hod, x6, rfl⟩
  (try simp only [plus_plus] at hop hod)
  have HOP := Lib.hid hop
  have HOD := Lib.hid hod
  have HOR := Lib.hid hop.rd
  clear hop hoc hod
  have VW1 := Lib.hid (show IntKind.i64.wrap ((sz : Int) + R.D.length) = (sz : Int) + R.D.length from IntWalk.i64_in _ (by omega))
  have VW2 := Lib.hid (show IntKind.i64.wrap ((ct : Int) + R.C.length) = (ct : Int) + R.C.length from IntWalk.i64_in _ (by omega))
  go_wp2_with fail
  refine wp_region_pt 19 (fun w' => ∃ y, w' = plus _ y) (Plan.quiet 0 (Plan.quiet 1 (Plan.quiet 3 (Plan.quiet 4 (Plan.quiet 5 (Plan.quiet 6 (Plan.quiet 7 (Plan.quiet 8 (Plan.quiet 9 (Plan.quiet 10 (Plan.quiet 11 (Plan.quiet 12 (Plan.quiet 13 (Plan.quiet 14 (Plan.quiet 15 (Plan.quiet 16 (Plan.two 2 (Plan.quiet 17 (Plan.one 18 (Plan.one 19 Plan.done))) 18 (Plan.one 2 (Plan.quiet 17 (Plan.one 19 Plan.done)))))))))))))))))))) (by kernel_rfl) (by kernel_rfl) (⟨_, drew_is_plus _⟩) ?_
  refine wpPt_val rfl rfl ?_
  apply Exists.intro
  refine ⟨fun w' hS => ?_, ?_⟩
  focus (obtain ⟨y3, rfl⟩ := hS; simp [go_sem, ↓IntWalk.iteOmega, VW1.out, VW2.out] <;> first | done | exact rfl | (rw [IntWalk.i64_in _ (by omega)]; exact rfl) | trace_state)
  refine wpPt_val rfl rfl ?_
  apply Exists.intro
  refine ⟨fun w' hS => ?_, ?_⟩
  focus (obtain ⟨y3, rfl⟩ := hS; simp [go_sem, ↓IntWalk.iteOmega, VW1.out, VW2.out] <;> first | done | exact rfl | (rw [IntWalk.i64_in _ (by omega)]; exact rfl) | trace_state)
  refine wpPt_val rfl rfl ?_
  apply Exists.intro
  refine ⟨fun w' hS => ?_, ?_⟩
  focus (obtain ⟨y3, rfl⟩ := hS; simp [go_sem, ↓IntWalk.iteOmega, VW1.out, VW2.out] <;> first | done | exact rfl | (rw [IntWalk.i64_in _ (by omega)]; exact rfl) | trace_state)
  refine wpPt_val rfl rfl ?_
  apply Exists.intro
  refine ⟨fun w' hS => ?_, ?_⟩
  focus (obtain ⟨y3, rfl⟩ := hS; simp [go_sem, ↓IntWalk.iteOmega, VW1.out, VW2.out] <;> first | done | exact rfl | (rw [IntWalk.i64_in _ (by omega)]; exact rfl) | trace_state)
  refine wpPt_val rfl rfl ?_
  apply Exists.intro
  refine ⟨fun w' hS => ?_, ?_⟩
  focus (obtain ⟨y3, rfl⟩ := hS; simp [go_sem, ↓IntWalk.iteOmega, VW1.out, VW2.out] <;> first | done | exact rfl | (rw [IntWalk.i64_in _ (by omega)]; exact rfl) | trace_state)
  refine wpPt_val rfl rfl ?_
  apply Exists.intro
  refine ⟨fun w' hS => ?_, ?_⟩
  focus (obtain ⟨y3, rfl⟩ := hS; simp [go_sem, ↓IntWalk.iteOmega, VW1.out, VW2.out] <;> first | done | exact rfl | (rw [IntWalk.i64_in _ (by omega)]; exact rfl) | trace_state)
  refine wpPt_val rfl rfl ?_
  apply Exists.intro
  refine ⟨fun w' hS => ?_, ?_⟩
  focus (obtain ⟨y3, rfl⟩ := hS; simp [go_sem, ↓IntWalk.iteOmega, VW1.out, VW2.out] <;> first | done | exact rfl | (rw [IntWalk.i64_in _ (by omega)]; exact rfl) | trace_state)
  refine wpPt_val rfl rfl ?_
  apply Exists.intro
  refine ⟨fun w' hS => ?_, ?_⟩
  focus (obtain ⟨y3, rfl⟩ := hS; simp [go_sem, ↓IntWalk.iteOmega, VW1.out, VW2.out] <;> first | done | exact rfl | (rw [IntWalk.i64_in _ (by omega)]; exact rfl) | trace_state)
  refine wpPt_val rfl rfl ?_
  apply Exists.intro
  refine ⟨fun w' hS => ?_, ?_⟩
  focus (obtain ⟨y3, rfl⟩ := hS; simp [go_sem, ↓IntWalk.iteOmega, VW1.out, VW2.out] <;> first | done | exact rfl | (rw [IntWalk.i64_in _ (by omega)]; exact rfl) | trace_state)
  refine wpPt_val rfl rfl ?_
  apply Exists.intro
  refine ⟨fun w' hS => ?_, ?_⟩
  focus (obtain ⟨y3, rfl⟩ := hS; simp [go_sem, ↓IntWalk.iteOmega, VW1.out, VW2.out] <;> first | done | exact rfl | (rw [IntWalk.i64_in _ (by omega)]; exact rfl) | trace_state)
  refine wpPt_val rfl rfl ?_
  apply Exists.intro
  refine ⟨fun w' hS => ?_, ?_⟩
  focus (obtain ⟨y3, rfl⟩ := hS; simp [go_sem, ↓IntWalk.iteOmega, VW1.out, VW2.out] <;> first | done | exact rfl | (rw [IntWalk.i64_in _ (by omega)]; exact rfl) | trace_state)
  refine wpPt_val rfl rfl ?_
  apply Exists.intro
  refine ⟨fun w' hS => ?_, ?_⟩
  focus (obtain ⟨y3, rfl⟩ := hS; simp [go_sem, ↓IntWalk.iteOmega, VW1.out, VW2.out] <;> first | done | exact rfl | (rw [IntWalk.i64_in _ (by omega)]; exact rfl) | trace_state)
  refine wpPt_val rfl rfl ?_
  apply Exists.intro
  refine ⟨fun w' hS => ?_, ?_⟩
  focus (obtain ⟨y3, rfl⟩ := hS; simp [go_sem, ↓IntWalk.iteOmega, VW1.out, VW2.out] <;> first | done | exact rfl | (rw [IntWalk.i64_in _ (by omega)]; exact rfl) | trace_state)
  refine wpPt_val rfl rfl ?_
  apply Exists.intro
  refine ⟨fun w' hS => ?_, ?_⟩
  focus (obtain ⟨y3, rfl⟩ := hS; simp [go_sem, ↓IntWalk.iteOmega, VW1.out, VW2.out] <;> first | done | exact rfl | (rw [IntWalk.i64_in _ (by omega)]; exact rfl) | trace_state)
  refine wpPt_val rfl rfl ?_
  apply Exists.intro
  refine ⟨fun w' hS => ?_, ?_⟩
  focus (obtain ⟨y3, rfl⟩ := hS; simp [go_sem, ↓IntWalk.iteOmega, VW1.out, VW2.out] <;> first | done | exact rfl | (rw [IntWalk.i64_in _ (by omega)]; exact rfl) | trace_state)
  refine wpPt_val rfl rfl ?_
  apply Exists.intro
  refine ⟨fun w' hS => ?_, ?_⟩
  focus (obtain ⟨y3, rfl⟩ := hS; simp [go_sem, ↓IntWalk.iteOmega, VW1.out, VW2.out] <;> first | done | exact rfl | (rw [IntWalk.i64_in _ (by omega)]; exact rfl) | trace_state)
  refine wpPt_two rfl rfl rfl rfl (fun K hK => ?_) (fun K hK => ?_)
  go_simp
  refine (copyKnown_any _ _ _ _ _ R.ps _ _ _ (by repeat (first | exact HOR.out | apply rd_seq | apply Rd.plus | apply Rd.alloc | apply Rd.drew | apply Rd.drewN | refine rd_patch ?_ _ _ (by intro A hA; first | (cases hA; show _ ≠ _; omega) | (have := hal A hA; omega)))) (by omega)).mono ?_
  rintro e w' ⟨qa, qc, rfl, hq, x7, rfl⟩
  (try simp only [plus_plus] at hq)
  have HQ := Lib.hid hq
  clear hq
  refine hK _ _ (fun hkn => (by repeat (first | exact More.refl _ | (with_reducible apply more_seq) | (with_reducible apply more_draw) | apply More.plus | apply More.alloc | apply More.drew))) ?_
  clear hK K
  refine wpPt_val rfl rfl ?_
  apply Exists.intro
  refine ⟨fun w' hS => ?_, ?_⟩
  focus (obtain ⟨y3, rfl⟩ := hS; simp [go_sem, ↓IntWalk.iteOmega, VW1.out, VW2.out] <;> first | done | exact rfl | (rw [IntWalk.i64_in _ (by omega)]; exact rfl) | trace_state)
  refine wpPt_one rfl rfl (fun K hK => ?_)
  go_simp
  refine hK _ _ (fun hkn => (by repeat (first | exact More.refl _ | (with_reducible apply more_seq) | (with_reducible apply more_draw) | apply More.plus | apply More.alloc | apply More.drew))) ?_
  clear hK K
  refine wpPt_one rfl rfl (fun K hK => ?_)
  go_simp
  refine hK _ _ (fun hkn => absurd hkn (by decide)) ?_
  clear hK K
  refine NoPanic.normal ?_
  rotate_left
  go_simp
  refine hK _ _ (fun hkn => (by repeat (first | exact More.refl _ | (with_reducible apply more_seq) | (with_reducible apply more_draw) | apply More.plus | apply More.alloc | apply More.drew))) ?_
  clear hK K
  refine wpPt_one rfl rfl (fun K hK => ?_)
  go_simp
  refine (copyKnown_any _ _ _ _ _ R.ps _ _ _ (by repeat (first | exact HOR.out | apply rd_seq | apply Rd.plus | apply Rd.alloc | apply Rd.drew | apply Rd.drewN | refine rd_patch ?_ _ _ (by intro A hA; first | (cases hA; show _ ≠ _; omega) | (have := hal A hA; omega)))) (by omega)).mono ?_
  rintro e w' ⟨qa, qc, rfl, hq, x7, rfl⟩
  (try simp only [plus_plus] at hq)
  have HQ := Lib.hid hq
  clear hq
  refine hK _ _ (fun hkn => (by repeat (first | exact More.refl _ | (with_reducible apply more_seq) | (with_reducible apply more_draw) | apply More.plus | apply More.alloc | apply More.drew))) ?_
  clear hK K
  refine wpPt_val rfl rfl ?_
  apply Exists.intro
  refine ⟨fun w' hS => ?_, ?_⟩
  focus (obtain ⟨y3, rfl⟩ := hS; simp [go_sem, ↓IntWalk.iteOmega, VW1.out, VW2.out] <;> first | done | exact rfl | (rw [IntWalk.i64_in _ (by omega)]; exact rfl) | trace_state)
  refine wpPt_one rfl rfl (fun K hK => ?_)
  go_simp
  refine hK _ _ (fun hkn => absurd hkn (by decide)) ?_
  clear hK K
  refine NoPanic.normal ?_
  ·
    have hcv := fun (W : World) (h : Own encB 5 W da dc R.D (w.heap.size + 2)) => run_str_own (P := Try.prog) (W := W) Try.underlying90 Try.underlying5 Try.underlying9 h
    have q1 : w.heap.size < w.heap.size + 1 + 1 + (xc.n + x5.n + x6.n) := by omega
    have q2 : w.heap.size + 1 < w.heap.size + 1 + 1 + (xc.n + x5.n + x6.n) := by omega
    have q3 : w.heap.size < w.heap.size + 1 + 1 + (xc.n + x5.n + x6.n) + 1 := by omega
    have q4 : w.heap.size + 1 < w.heap.size + 1 + 1 + (xc.n + x5.n + x6.n) + 1 := by omega
    have q5 : w.heap.size < w.heap.size + 1 + 1 + (xc.n + x5.n + x6.n) + 1 + 1 := by omega
    have q6 : w.heap.size + 1 < w.heap.size + 1 + 1 + (xc.n + x5.n + x6.n) + 1 + 1 := by omega
    have q7 : w.heap.size + 1 + 1 + (xc.n + x5.n + x6.n) < w.heap.size + 1 + 1 + (xc.n + x5.n + x6.n) + 1 + 1 := by omega
    have q8 : w.heap.size < w.heap.size + 1 + 1 + (xc.n + x5.n + x6.n) + 1 + x7.n := by omega
    have q9 : w.heap.size + 1 < w.heap.size + 1 + 1 + (xc.n + x5.n + x6.n) + 1 + x7.n := by omega
    have q10 : w.heap.size + 1 + 1 + (xc.n + x5.n + x6.n) < w.heap.size + 1 + 1 + (xc.n + x5.n + x6.n) + 1 + x7.n := by omega
    by_cases he : R.e = 1
    · have v2 : (R.e == 1) = true := by simp [he]
      have HU := Lib.hid (show usedI u.size s.size R = (u.size : Int) by unfold usedI; rw [if_pos he])
      have hsx : z.extract R.p bits.length = sb := by rw [← hzs, ← HSB.out, if_pos he, ← HZT.out, ← ext_drop, bstr_bytes]
      have HHE := Lib.hid he
      clear he
      go_wp2_with fail
      refine wp_named (fun wX => wX.heap[w.heap.size + 1]? = some (.cells #[.int .i64 0, .int .i64 0, .int .i64 0, .slice none 0 0, .int .i64 0, .int .i64 0, .string ⟨#[]⟩, .int .i64 0, .int .i64 0, .int .i64 0] 69 (0, 0)) ∧
        wX.heap[w.heap.size + 1 + 1 + (xc.n + x5.n + x6.n) + 1]? = some (.cells #[.int .i64 o, .int .i64 l, .int .i64 m, .slice qa R.ps.length qc, .int .i64 b, .int .i64 R.last, .string sb, .int .i64 ((sz : Int) + R.D.length), .int .i64 ((ct : Int) + R.C.length), .int .i64 R.e] 69 (0, 0)) ∧
        wX.heap[w.heap.size + 1 + 1 + (xc.n + x5.n + x6.n)]? = some (.cells #[.int .i64 o, .int .i64 l, .int .i64 m, .slice pa R.ps.length pc, .int .i64 b, .int .i64 R.last, .slice ca R.C.length cc, .slice da R.D.length dc, .int .i64 R.e, .int .i64 R.p] 99 (0, 0)) ∧
        Own encB 5 wX da dc R.D (w.heap.size + 2) ∧ Own encP 127 wX qa qc R.ps (w.heap.size + 2) ∧ Below w.heap.size w wX) ⟨?_, ?_, ?_, ?_, ?_, ?_⟩ ?_
      · (repeat (first | exact push_new _ _ _ (by simp <;> omega) | apply blk_plus | apply blk_alloc))
      · (repeat (first | exact push_new _ _ _ (by simp <;> omega) | apply blk_plus | apply blk_alloc))
      · (repeat (first | exact push_new _ _ _ (by simp <;> omega) | apply blk_plus | apply blk_alloc))
      · (repeat (first | exact HOD.out.lower (by simp) | (with_reducible apply Own.plus) | (with_reducible apply Own.alloc)))
      · (repeat (first | exact (own_swap HQ.out (by simp) (by simp <;> omega)).lower (by simp <;> omega) | (with_reducible apply Own.plus) | (with_reducible apply Own.alloc)))
      · exact (by repeat (first | exact Below.refl _ _ | refine below_plus ?_ (by first | omega | (simp <;> omega)) _ | refine Below.alloc ?_ (by first | omega | (simp <;> omega)) _ | refine below_patch ?_ (by omega) _ | refine Below.drew ?_))
      rintro wX ⟨h1, h2, h3, h4, h5, h6⟩
      have r1 := cell_of h1
      have f1 := free_of h1
      have u1 := fun i v => setCell_patch h1 i v
      have r2 := cell_of h2
      have r3 := cell_of h3
      have z1 := (Array.getElem?_eq_some_iff.1 h1).1
      have hc1 := hcv _ h4
      have hc2 := hcv _ h4.drew
      have hc3 := fun ob => hcv _ (own_patch (ob := ob) (b := w.heap.size + 1) h4 (fun X hX e => by have := own_lo h4 X hX; omega))
      have hc4 := fun ob => hcv _ (own_patch (ob := ob) (b := w.heap.size + 1) h4 (fun X hX e => by have := own_lo h4 X hX; omega)).drew
      have HO5 := Lib.hid h5
      have HB6 := Lib.hid h6
      clear h1 h2 h3 h4 h5 h6 hcv
      go_region_o
      go_wp2
      refine bodyPost_ret (v := .tuple #[.agg #[.int .i64 o, .int .i64 l, .int .i64 m, .slice qa R.ps.length qc, .int .i64 b, .int .i64 R.last, .string sb, .int .i64 ((sz : Int) + R.D.length), .int .i64 ((ct : Int) + R.C.length), .int .i64 R.e], .string (bstr R.D), .int .i64 (u.size), .bool true]) (by simp [results, Try.results52, go_sem, ↓IntWalk.iteOmega]) rfl ?_
      rw [HU.out]
      exact ⟨qa, qc, by rfl, ((own_patch HO5.out (fun X hX e => by have := own_lo HO5.out X hX; omega)).drew).lower (by omega), below_more (Below.drew (below_patch HB6.out (by omega) _))⟩
    · have v2 : (R.e == 1) = false := by simp [he]
      obtain ⟨M, hM⟩ : ∃ M, max 0 ((R.p : Int) - (s.size : Int)) = M := ⟨_, rfl⟩
      have hM0 : 0 ≤ M := by omega
      have hM1 : M ≤ 100000 := by omega
      have HU := Lib.hid (show usedI u.size s.size R = (M + 7) / 8 by unfold usedI; rw [if_neg he, hM])
      have HSX := Lib.hid (show ⟨#[]⟩ = sb by rw [← HSB.out, if_neg he])
      clear he
      go_wp2_with fail
      refine wp_named (fun wX => wX.heap[w.heap.size + 1]? = some (.cells #[.int .i64 0, .int .i64 0, .int .i64 0, .slice none 0 0, .int .i64 0, .int .i64 0, .string ⟨#[]⟩, .int .i64 0, .int .i64 0, .int .i64 0] 69 (0, 0)) ∧
        wX.heap[w.heap.size + 1 + 1 + (xc.n + x5.n + x6.n) + 1]? = some (.cells #[.int .i64 o, .int .i64 l, .int .i64 m, .slice qa R.ps.length qc, .int .i64 b, .int .i64 R.last, .string ⟨#[]⟩, .int .i64 ((sz : Int) + R.D.length), .int .i64 ((ct : Int) + R.C.length), .int .i64 R.e] 69 (0, 0)) ∧
        wX.heap[w.heap.size + 1 + 1 + (xc.n + x5.n + x6.n)]? = some (.cells #[.int .i64 o, .int .i64 l, .int .i64 m, .slice pa R.ps.length pc, .int .i64 b, .int .i64 R.last, .slice ca R.C.length cc, .slice da R.D.length dc, .int .i64 R.e, .int .i64 R.p] 99 (0, 0)) ∧
        Own encB 5 wX da dc R.D (w.heap.size + 2) ∧ Own encP 127 wX qa qc R.ps (w.heap.size + 2) ∧ Below w.heap.size w wX) ⟨?_, ?_, ?_, ?_, ?_, ?_⟩ ?_
      · (repeat (first | exact push_new _ _ _ (by simp <;> omega) | apply blk_plus | apply blk_alloc))
      · (repeat (first | exact push_new _ _ _ (by simp <;> omega) | apply blk_plus | apply blk_alloc))
      · (repeat (first | exact push_new _ _ _ (by simp <;> omega) | apply blk_plus | apply blk_alloc))
      · (repeat (first | exact HOD.out.lower (by simp) | (with_reducible apply Own.plus) | (with_reducible apply Own.alloc)))
      · (repeat (first | exact (own_swap HQ.out (by simp) (by simp <;> omega)).lower (by simp <;> omega) | (with_reducible apply Own.plus) | (with_reducible apply Own.alloc)))
      · exact (by repeat (first | exact Below.refl _ _ | refine below_plus ?_ (by first | omega | (simp <;> omega)) _ | refine Below.alloc ?_ (by first | omega | (simp <;> omega)) _ | refine below_patch ?_ (by omega) _ | refine Below.drew ?_))
      rintro wX ⟨h1, h2, h3, h4, h5, h6⟩
      have r1 := cell_of h1
      have f1 := free_of h1
      have u1 := fun i v => setCell_patch h1 i v
      have r2 := cell_of h2
      have r3 := cell_of h3
      have z1 := (Array.getElem?_eq_some_iff.1 h1).1
      have hc1 := hcv _ h4
      have hc2 := hcv _ h4.drew
      have hc3 := fun ob => hcv _ (own_patch (ob := ob) (b := w.heap.size + 1) h4 (fun X hX e => by have := own_lo h4 X hX; omega))
      have hc4 := fun ob => hcv _ (own_patch (ob := ob) (b := w.heap.size + 1) h4 (fun X hX e => by have := own_lo h4 X hX; omega)).drew
      have HO5 := Lib.hid h5
      have HB6 := Lib.hid h6
      clear h1 h2 h3 h4 h5 h6 hcv
      go_region_o
      go_wp2
      refine bodyPost_ret (v := .tuple #[.agg #[.int .i64 o, .int .i64 l, .int .i64 m, .slice qa R.ps.length qc, .int .i64 b, .int .i64 R.last, .string ⟨#[]⟩, .int .i64 ((sz : Int) + R.D.length), .int .i64 ((ct : Int) + R.C.length), .int .i64 R.e], .string (bstr R.D), .int .i64 ((M + 7) / 8), .bool true]) (by simp [results, Try.results52, go_sem, ↓IntWalk.iteOmega]) rfl ?_
      rw [HU.out]
      exact ⟨qa, qc, by rw [HSX.out], ((own_patch HO5.out (fun X hX e => by have := own_lo HO5.out X hX; omega)).drew).lower (by omega), below_more (Below.drew (below_patch HB6.out (by omega) _))⟩
  ·
    have hcv := fun (W : World) (h : Own encB 5 W da dc R.D (w.heap.size + 2)) => run_str_own (P := Try.prog) (W := W) Try.underlying90 Try.underlying5 Try.underlying9 h
    have q1 : w.heap.size < w.heap.size + 1 + 1 + (xc.n + x5.n + x6.n) := by omega
    have q2 : w.heap.size + 1 < w.heap.size + 1 + 1 + (xc.n + x5.n + x6.n) := by omega
    have q3 : w.heap.size < w.heap.size + 1 + 1 + (xc.n + x5.n + x6.n) + 1 := by omega
    have q4 : w.heap.size + 1 < w.heap.size + 1 + 1 + (xc.n + x5.n + x6.n) + 1 := by omega
    have q5 : w.heap.size < w.heap.size + 1 + 1 + (xc.n + x5.n + x6.n) + 1 + 1 := by omega
    have q6 : w.heap.size + 1 < w.heap.size + 1 + 1 + (xc.n + x5.n + x6.n) + 1 + 1 := by omega
    have q7 : w.heap.size + 1 + 1 + (xc.n + x5.n + x6.n) < w.heap.size + 1 + 1 + (xc.n + x5.n + x6.n) + 1 + 1 := by omega
    have q8 : w.heap.size < w.heap.size + 1 + 1 + (xc.n + x5.n + x6.n) + 1 + x7.n := by omega
    have q9 : w.heap.size + 1 < w.heap.size + 1 + 1 + (xc.n + x5.n + x6.n) + 1 + x7.n := by omega
    have q10 : w.heap.size + 1 + 1 + (xc.n + x5.n + x6.n) < w.heap.size + 1 + 1 + (xc.n + x5.n + x6.n) + 1 + x7.n := by omega
    by_cases he : R.e = 1
    · have v2 : (R.e == 1) = true := by simp [he]
      have HU := Lib.hid (show usedI u.size s.size R = (u.size : Int) by unfold usedI; rw [if_pos he])
      have hsx : z.extract R.p bits.length = sb := by rw [← hzs, ← HSB.out, if_pos he, ← HZT.out, ← ext_drop, bstr_bytes]
      have HHE := Lib.hid he
      clear he
      go_wp2_with fail
      refine wp_named (fun wX => wX.heap[w.heap.size + 1]? = some (.cells #[.int .i64 0, .int .i64 0, .int .i64 0, .slice none 0 0, .int .i64 0, .int .i64 0, .string ⟨#[]⟩, .int .i64 0, .int .i64 0, .int .i64 0] 69 (0, 0)) ∧
        wX.heap[w.heap.size + 1 + 1 + (xc.n + x5.n + x6.n) + 1 + x7.n]? = some (.cells #[.int .i64 o, .int .i64 l, .int .i64 m, .slice qa R.ps.length qc, .int .i64 b, .int .i64 R.last, .string sb, .int .i64 ((sz : Int) + R.D.length), .int .i64 ((ct : Int) + R.C.length), .int .i64 R.e] 69 (0, 0)) ∧
        wX.heap[w.heap.size + 1 + 1 + (xc.n + x5.n + x6.n)]? = some (.cells #[.int .i64 o, .int .i64 l, .int .i64 m, .slice pa R.ps.length pc, .int .i64 b, .int .i64 R.last, .slice ca R.C.length cc, .slice da R.D.length dc, .int .i64 R.e, .int .i64 R.p] 99 (0, 0)) ∧
        Own encB 5 wX da dc R.D (w.heap.size + 2) ∧ Own encP 127 wX qa qc R.ps (w.heap.size + 2) ∧ Below w.heap.size w wX) ⟨?_, ?_, ?_, ?_, ?_, ?_⟩ ?_
      · (repeat (first | exact push_new _ _ _ (by simp <;> omega) | apply blk_plus | apply blk_alloc))
      · (repeat (first | exact push_new _ _ _ (by simp <;> omega) | apply blk_plus | apply blk_alloc))
      · (repeat (first | exact push_new _ _ _ (by simp <;> omega) | apply blk_plus | apply blk_alloc))
      · (repeat (first | exact HOD.out.lower (by simp) | (with_reducible apply Own.plus) | (with_reducible apply Own.alloc)))
      · (repeat (first | exact (own_swap HQ.out (by simp) (by simp <;> omega)).lower (by simp <;> omega) | (with_reducible apply Own.plus) | (with_reducible apply Own.alloc)))
      · exact (by repeat (first | exact Below.refl _ _ | refine below_plus ?_ (by first | omega | (simp <;> omega)) _ | refine Below.alloc ?_ (by first | omega | (simp <;> omega)) _ | refine below_patch ?_ (by omega) _ | refine Below.drew ?_))
      rintro wX ⟨h1, h2, h3, h4, h5, h6⟩
      have r1 := cell_of h1
      have f1 := free_of h1
      have u1 := fun i v => setCell_patch h1 i v
      have r2 := cell_of h2
      have r3 := cell_of h3
      have z1 := (Array.getElem?_eq_some_iff.1 h1).1
      have hc1 := hcv _ h4
      have hc2 := hcv _ h4.drew
      have hc3 := fun ob => hcv _ (own_patch (ob := ob) (b := w.heap.size + 1) h4 (fun X hX e => by have := own_lo h4 X hX; omega))
      have hc4 := fun ob => hcv _ (own_patch (ob := ob) (b := w.heap.size + 1) h4 (fun X hX e => by have := own_lo h4 X hX; omega)).drew
      have HO5 := Lib.hid h5
      have HB6 := Lib.hid h6
      clear h1 h2 h3 h4 h5 h6 hcv
      go_region_o
      go_wp2
      refine bodyPost_ret (v := .tuple #[.agg #[.int .i64 o, .int .i64 l, .int .i64 m, .slice qa R.ps.length qc, .int .i64 b, .int .i64 R.last, .string sb, .int .i64 ((sz : Int) + R.D.length), .int .i64 ((ct : Int) + R.C.length), .int .i64 R.e], .string (bstr R.D), .int .i64 (u.size), .bool true]) (by simp [results, Try.results52, go_sem, ↓IntWalk.iteOmega]) rfl ?_
      rw [HU.out]
      exact ⟨qa, qc, by rfl, ((own_patch HO5.out (fun X hX e => by have := own_lo HO5.out X hX; omega)).drew).lower (by omega), below_more (Below.drew (below_patch HB6.out (by omega) _))⟩
    · have v2 : (R.e == 1) = false := by simp [he]
      obtain ⟨M, hM⟩ : ∃ M, max 0 ((R.p : Int) - (s.size : Int)) = M := ⟨_, rfl⟩
      have hM0 : 0 ≤ M := by omega
      have hM1 : M ≤ 100000 := by omega
      have HU := Lib.hid (show usedI u.size s.size R = (M + 7) / 8 by unfold usedI; rw [if_neg he, hM])
      have HSX := Lib.hid (show ⟨#[]⟩ = sb by rw [← HSB.out, if_neg he])
      clear he
      go_wp2_with fail
      refine wp_named (fun wX => wX.heap[w.heap.size + 1]? = some (.cells #[.int .i64 0, .int .i64 0, .int .i64 0, .slice none 0 0, .int .i64 0, .int .i64 0, .string ⟨#[]⟩, .int .i64 0, .int .i64 0, .int .i64 0] 69 (0, 0)) ∧
        wX.heap[w.heap.size + 1 + 1 + (xc.n + x5.n + x6.n) + 1 + x7.n]? = some (.cells #[.int .i64 o, .int .i64 l, .int .i64 m, .slice qa R.ps.length qc, .int .i64 b, .int .i64 R.last, .string ⟨#[]⟩, .int .i64 ((sz : Int) + R.D.length), .int .i64 ((ct : Int) + R.C.length), .int .i64 R.e] 69 (0, 0)) ∧
        wX.heap[w.heap.size + 1 + 1 + (xc.n + x5.n + x6.n)]? = some (.cells #[.int .i64 o, .int .i64 l, .int .i64 m, .slice pa R.ps.length pc, .int .i64 b, .int .i64 R.last, .slice ca R.C.length cc, .slice da R.D.length dc, .int .i64 R.e, .int .i64 R.p] 99 (0, 0)) ∧
        Own encB 5 wX da dc R.D (w.heap.size + 2) ∧ Own encP 127 wX qa qc R.ps (w.heap.size + 2) ∧ Below w.heap.size w wX) ⟨?_, ?_, ?_, ?_, ?_, ?_⟩ ?_
      · (repeat (first | exact push_new _ _ _ (by simp <;> omega) | apply blk_plus | apply blk_alloc))
      · (repeat (first | exact push_new _ _ _ (by simp <;> omega) | apply blk_plus | apply blk_alloc))
      · (repeat (first | exact push_new _ _ _ (by simp <;> omega) | apply blk_plus | apply blk_alloc))
      · (repeat (first | exact HOD.out.lower (by simp) | (with_reducible apply Own.plus) | (with_reducible apply Own.alloc)))
      · (repeat (first | exact (own_swap HQ.out (by simp) (by simp <;> omega)).lower (by simp <;> omega) | (with_reducible apply Own.plus) | (with_reducible apply Own.alloc)))
      · exact (by repeat (first | exact Below.refl _ _ | refine below_plus ?_ (by first | omega | (simp <;> omega)) _ | refine Below.alloc ?_ (by first | omega | (simp <;> omega)) _ | refine below_patch ?_ (by omega) _ | refine Below.drew ?_))
      rintro wX ⟨h1, h2, h3, h4, h5, h6⟩
      have r1 := cell_of h1
      have f1 := free_of h1
      have u1 := fun i v => setCell_patch h1 i v
      have r2 := cell_of h2
      have r3 := cell_of h3
      have z1 := (Array.getElem?_eq_some_iff.1 h1).1
      have hc1 := hcv _ h4
      have hc2 := hcv _ h4.drew
      have hc3 := fun ob => hcv _ (own_patch (ob := ob) (b := w.heap.size + 1) h4 (fun X hX e => by have := own_lo h4 X hX; omega))
      have hc4 := fun ob => hcv _ (own_patch (ob := ob) (b := w.heap.size + 1) h4 (fun X hX e => by have := own_lo h4 X hX; omega)).drew
      have HO5 := Lib.hid h5
      have HB6 := Lib.hid h6
      clear h1 h2 h3 h4 h5 h6 hcv
      go_region_o
      go_wp2
      refine bodyPost_ret (v := .tuple #[.agg #[.int .i64 o, .int .i64 l, .int .i64 m, .slice qa R.ps.length qc, .int .i64 b, .int .i64 R.last, .string ⟨#[]⟩, .int .i64 ((sz : Int) + R.D.length), .int .i64 ((ct : Int) + R.C.length), .int .i64 R.e], .string (bstr R.D), .int .i64 ((M + 7) / 8), .bool true]) (by simp [results, Try.results52, go_sem, ↓IntWalk.iteOmega]) rfl ?_
      rw [HU.out]
      exact ⟨qa, qc, by rw [HSX.out], ((own_patch HO5.out (fun X hX e => by have := own_lo HO5.out X hX; omega)).drew).lower (by omega), below_more (Below.drew (below_patch HB6.out (by omega) _))⟩

end Go.Proofs.Ytmenpflcmpihpaa
