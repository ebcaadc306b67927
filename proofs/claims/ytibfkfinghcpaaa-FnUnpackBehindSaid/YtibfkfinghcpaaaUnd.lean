/- The walks of the reference's UnpackCodes where nothing is read, and of its Decompress. -/
import Derived.Test.YtibfkfinghcpaaaUnc
import Derived.Test.YtibfkfinghcpaaaPck
namespace Go.Proofs.Ytibfkfinghcpaaa
open Go.RowKit
set_option linter.unusedVariables false
set_option linter.unusedSimpArgs false

set_option maxRecDepth 100000 in
set_option maxHeartbeats 1000000 in
theorem specUnpackCodes_no (o l m : Int) (a : Option Addr) (cap : Nat) (ps : List Pr) (base last : Int) (s : ByteArray) (w : World) (hr : RdP w a cap ps) (hm : s.size ≤ maxLen) (h : kvb o l m ps base last = false ∨ 4000 < s.size) :
    Calls Try.prog 15 #[.agg #[.int .i64 o, .int .i64 l, .int .i64 m, .slice a ps.length cap, .int .i64 base, .int .i64 last], .string s] w (RetUc w [] 4 0) := by
  unfold maxLen at hm
  have HRP := Lib.hid hr
  clear hr
  cases hk : kvb o l m ps base last
  · go_enter Try.func15, Try.ntmps15
    go_wp2_with (go_at_call 63; refine (specKnownValid_any _ _ _ _ _ _ _ _ _ (by repeat (first | exact HRP.out | apply rd_seq | apply Rd.plus | apply Rd.alloc | apply Rd.drew | apply Rd.drewN | refine rd_patch ?_ _ _ (by intro A hA; first | (cases hA; show _ ≠ _; omega) | (have := hal A hA; omega))))).mono ?_; rintro e w' ⟨rfl, xc, rfl⟩)
    exact bodyPost_ret (v := .tuple #[.slice (some ⟨w.heap.size + 1, 0, none⟩) 0 0, .int .i64 4, .int .i64 0]) (by simp [results, Try.results15, go_sem, ↓IntWalk.iteOmega]) rfl ⟨_, 0, rfl, Wrt.lower (lo := w.heap.size + 1) (by repeat (first | exact wrt_empty (by simp) (by omega) | apply Wrt.plus | apply Wrt.alloc)) (by omega), (by repeat (first | exact More.refl _ | apply More.plus | apply More.alloc | apply More.drew | apply More.drewN))⟩
  · have hs : 4000 < s.size := by
      rcases h with h | h
      · rw [hk] at h; cases h
      · exact h
    have v1 : decide (4000 < s.size) = true := decide_eq_true hs
    go_enter Try.func15, Try.ntmps15
    go_wp2_with (go_at_call 63; refine (specKnownValid_any _ _ _ _ _ _ _ _ _ (by repeat (first | exact HRP.out | apply rd_seq | apply Rd.plus | apply Rd.alloc | apply Rd.drew | apply Rd.drewN | refine rd_patch ?_ _ _ (by intro A hA; first | (cases hA; show _ ≠ _; omega) | (have := hal A hA; omega))))).mono ?_; rintro e w' ⟨rfl, xc, rfl⟩)
    exact bodyPost_ret (v := .tuple #[.slice (some ⟨w.heap.size + 1, 0, none⟩) 0 0, .int .i64 4, .int .i64 0]) (by simp [results, Try.results15, go_sem, ↓IntWalk.iteOmega]) rfl ⟨_, 0, rfl, Wrt.lower (lo := w.heap.size + 1) (by repeat (first | exact wrt_empty (by simp) (by omega) | apply Wrt.plus | apply Wrt.alloc)) (by omega), (by repeat (first | exact More.refl _ | apply More.plus | apply More.alloc | apply More.drew | apply More.drewN))⟩

theorem specUnpackCodes_yes2 (o l m : Int) (a : Option Addr) (cap : Nat) (ps : List Pr) (b : Nat) (last : Int) (s : ByteArray) (w : World) (hr : RdP w a cap ps) (hk : kvb o l m ps (b : Int) last = true) (hsz : s.size ≤ 4000) (R : Rg) (hR : unR o l m b ps last s = R) :
    Calls Try.prog 15 #[.agg #[.int .i64 o, .int .i64 l, .int .i64 m, .slice a ps.length cap, .int .i64 b, .int .i64 last], .string s] w (RetUc w R.C R.e (usedV s.size R)) :=
  (specUnpackCodes_yes o l m a cap ps b last s w hr hk hsz R hR).mono fun e w' ⟨a1, c1, he, hown, hx⟩ => ⟨a1, c1, he, hown.wrt, hx⟩

set_option maxRecDepth 100000 in
set_option maxHeartbeats 1000000 in
theorem specDecompress_no (o l m : Int) (a : Option Addr) (cap : Nat) (ps : List Pr) (base last : Int) (s : ByteArray) (w : World) (hr : RdP w a cap ps) (hm : s.size ≤ maxLen) (h : kvb o l m ps base last = false ∨ 4000 < s.size) :
    Calls Try.prog 24 #[.agg #[.int .i64 o, .int .i64 l, .int .i64 m, .slice a ps.length cap, .int .i64 base, .int .i64 last], .string s] w (Ret w (.tuple #[.string ⟨#[]⟩, .int .i64 4, .int .i64 0])) := by
  have HRP := Lib.hid hr
  clear hr
  go_enter Try.func24, Try.ntmps24
  go_wp2_with fail
  refine (specUnpackCodes_no o l m a cap ps base last s _ (by repeat (first | exact HRP.out | apply rd_seq | apply Rd.plus | apply Rd.alloc | apply Rd.drew | apply Rd.drewN | refine rd_patch ?_ _ _ (by intro A hA; first | (cases hA; show _ ≠ _; omega) | (have := hal A hA; omega)))) hm h).mono ?_
  rintro e w1 ⟨ca, cc, rfl, _, x1, rfl⟩
  go_wp2_with fail
  exact bodyPost_ret (v := .tuple #[.string ⟨#[]⟩, .int .i64 4, .int .i64 0]) (by simp [results, Try.results24, go_sem, ↓IntWalk.iteOmega]) rfl (Ret.mk (by repeat (first | exact More.refl _ | apply More.plus | apply More.alloc | apply More.drew | apply More.drewN)))

set_option maxRecDepth 100000 in
set_option maxHeartbeats 1000000 in
theorem specDecompress_yes (o l m : Int) (a : Option Addr) (cap : Nat) (ps : List Pr) (b : Nat) (last : Int) (s : ByteArray) (w : World) (hr : RdP w a cap ps) (hk : kvb o l m ps (b : Int) last = true) (hsz : s.size ≤ 4000) (R : Rg) (hR : unR o l m b ps last s = R) :
    Calls Try.prog 24 #[.agg #[.int .i64 o, .int .i64 l, .int .i64 m, .slice a ps.length cap, .int .i64 b, .int .i64 last], .string s] w (Ret w (.tuple #[.string (bstr R.D), .int .i64 R.e, .int .i64 (usedV s.size R)])) := by
  obtain ⟨⟨W', hW⟩, h2, h3, _⟩ := unR_facts (s := s) hk
  have h4 : R.e ≤ 3 := by rw [← hR]; exact (rdc_e _ _ _ _ _ _).2
  have v1 : (R.e == 4) = false := by simp; omega
  have HRP := Lib.hid hr
  have HR := Lib.hid hR
  rw [hR] at hW h2 h3
  have HW := Lib.hid hW
  clear hr hR hW
  go_enter Try.func24, Try.ntmps24
  go_wp2_with fail
  refine (specUnpackCodes_yes2 o l m a cap ps b last s _ (by repeat (first | exact HRP.out | apply rd_seq | apply Rd.plus | apply Rd.alloc | apply Rd.drew | apply Rd.drewN | refine rd_patch ?_ _ _ (by intro A hA; first | (cases hA; show _ ≠ _; omega) | (have := hal A hA; omega)))) hk hsz R HR.out).mono ?_
  rintro e w1 ⟨ca, cc, rfl, hc, x1, rfl⟩
  have HC := Lib.hid hc.rd
  clear hc
  go_wp2_with fail
  refine (l2Walk_any o l m a cap ps b last ca cc R.C _ (by repeat (first | exact HRP.out | apply rd_seq | apply Rd.plus | apply Rd.alloc | apply Rd.drew | apply Rd.drewN | refine rd_patch ?_ _ _ (by intro A hA; first | (cases hA; show _ ≠ _; omega) | (have := hal A hA; omega)))) (by repeat (first | exact HC.out | apply rd_seq | apply Rd.plus | apply Rd.alloc | apply Rd.drew | apply Rd.drewN | refine rd_patch ?_ _ _ (by intro A hA; first | (cases hA; show _ ≠ _; omega) | (have := hal A hA; omega)))) hk h2 b rfl _ HW.out).mono ?_
  rintro e w2 ⟨pa, pn, pc, la, wa, wc, W1, y1, bb, rfl, _, _, hmt, x2, rfl⟩
  obtain ⟨_, rfl, _, _⟩ := hmt
  go_wp2_with fail
  exact bodyPost_ret (v := .tuple #[.string (bstr R.D), .int .i64 R.e, .int .i64 (usedV s.size R)]) (by simp [results, Try.results24, go_sem, ↓IntWalk.iteOmega]) rfl (Ret.mk (by repeat (first | exact More.refl _ | apply More.plus | apply More.alloc | apply More.drew | apply More.drewN)))

end Go.Proofs.Ytibfkfinghcpaaa
