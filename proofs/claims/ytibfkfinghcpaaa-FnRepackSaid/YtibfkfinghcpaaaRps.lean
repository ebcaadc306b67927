/- The walks of RepackStream, of the program and of the reference. -/
import Derived.Test.YtibfkfinghcpaaaPks
import Derived.Test.YtibfkfinghcpaaaUnd
namespace Go.Proofs.Ytibfkfinghcpaaa
open Go.RowKit
set_option linter.unusedVariables false
set_option linter.unusedSimpArgs false

theorem turn_k {o l m : Int} {ps : List Pr} {base last : Int} (h : kvb o l m ps base last = true) : kvb (1 - o) l m ps base last = true := by
  have hk := kvb_iff.1 h
  obtain ⟨ho, h2⟩ := sv_iff.1 hk.s
  exact kvb_iff.2 ⟨sv_iff.2 ⟨by omega, h2⟩, hk.len, hk.ok, hk.b0, hk.b1, hk.last⟩

set_option maxRecDepth 100000 in
set_option maxHeartbeats 1000000 in
theorem implRepack_no (o l m : Int) (a : Option Addr) (cap : Nat) (ps : List Pr) (base last : Int) (s : ByteArray) (w : World) (hr : RdP w a cap ps) (C : List Int) (e1 u : Int) (he : e1 ≠ 0)
    (hU : ∀ (W : World) (a : Option Addr) (cap : Nat), RdP W a cap ps → Calls Try.prog 14 #[.agg #[.int .i64 o, .int .i64 l, .int .i64 m, .slice a ps.length cap, .int .i64 base, .int .i64 last], .string s] W (RetUc W C e1 u)) :
    Calls Try.prog 30 #[.agg #[.int .i64 o, .int .i64 l, .int .i64 m, .slice a ps.length cap, .int .i64 base, .int .i64 last], .string s] w (Ret w (.tuple #[.string ⟨#[]⟩, .bool false])) := by
  have v1 : (e1 != 0) = true := by simp [he]
  have HU := Lib.hid hU
  have HRP := Lib.hid hr
  clear hU hr
  go_enter Try.func30, Try.ntmps30
  go_wp2_with fail
  refine (HU.out _ _ _ (by repeat (first | exact HRP.out | apply rd_seq | apply Rd.plus | apply Rd.alloc | apply Rd.drew | apply Rd.drewN | refine rd_patch ?_ _ _ (by intro A hA; first | (cases hA; show _ ≠ _; omega) | (have := hal A hA; omega))))).mono ?_
  rintro e w1 ⟨ca, cc, rfl, hc, x1, rfl⟩
  go_wp2_with fail
  go_ret2
  exact Ret.mk (by repeat (first | exact More.refl _ | apply More.plus | apply More.alloc | apply More.drew | apply More.drewN))

set_option maxRecDepth 100000 in
set_option maxHeartbeats 1000000 in
theorem specRepack_no (o l m : Int) (a : Option Addr) (cap : Nat) (ps : List Pr) (base last : Int) (s : ByteArray) (w : World) (hr : RdP w a cap ps) (C : List Int) (e1 u : Int) (he : e1 ≠ 0)
    (hU : ∀ (W : World) (a : Option Addr) (cap : Nat), RdP W a cap ps → Calls Try.prog 15 #[.agg #[.int .i64 o, .int .i64 l, .int .i64 m, .slice a ps.length cap, .int .i64 base, .int .i64 last], .string s] W (RetUc W C e1 u)) :
    Calls Try.prog 31 #[.agg #[.int .i64 o, .int .i64 l, .int .i64 m, .slice a ps.length cap, .int .i64 base, .int .i64 last], .string s] w (Ret w (.tuple #[.string ⟨#[]⟩, .bool false])) := by
  have v1 : (e1 != 0) = true := by simp [he]
  have HU := Lib.hid hU
  have HRP := Lib.hid hr
  clear hU hr
  go_enter Try.func31, Try.ntmps31
  go_wp2_with fail
  refine (HU.out _ _ _ (by repeat (first | exact HRP.out | apply rd_seq | apply Rd.plus | apply Rd.alloc | apply Rd.drew | apply Rd.drewN | refine rd_patch ?_ _ _ (by intro A hA; first | (cases hA; show _ ≠ _; omega) | (have := hal A hA; omega))))).mono ?_
  rintro e w1 ⟨ca, cc, rfl, hc, x1, rfl⟩
  go_wp2_with fail
  go_ret2
  exact Ret.mk (by repeat (first | exact More.refl _ | apply More.plus | apply More.alloc | apply More.drew | apply More.drewN))

set_option maxRecDepth 100000 in
set_option maxHeartbeats 2000000 in
theorem implRepack_yes (o l m : Int) (a : Option Addr) (cap : Nat) (ps : List Pr) (b : Nat) (last : Int) (s : ByteArray) (w : World) (hr : RdP w a cap ps) (hk : kvb o l m ps (b : Int) last = true) (C : List Int) (u : Int) (hCl : C.length ≤ 3100) (W : List Int) (D : List UInt8) (hW : wlk l m b C ps last [] [] = some (W, D))
    (hU : ∀ (W : World) (a : Option Addr) (cap : Nat), RdP W a cap ps → Calls Try.prog 14 #[.agg #[.int .i64 o, .int .i64 l, .int .i64 m, .slice a ps.length cap, .int .i64 b, .int .i64 last], .string s] W (RetUc W C 0 u)) :
    Calls Try.prog 30 #[.agg #[.int .i64 o, .int .i64 l, .int .i64 m, .slice a ps.length cap, .int .i64 b, .int .i64 last], .string s] w (Ret w (.tuple #[.string (bstr (pckL (1 - o) (cbits (1 - o) C W))), .bool true])) := by
  obtain ⟨ho, _⟩ := sv_iff.1 (kvb_iff.1 hk).s
  have HK := Lib.hid (turn_k hk)
  have HU := Lib.hid hU
  have HRP := Lib.hid hr
  have HW := Lib.hid hW
  clear hU hr hW hk
  go_enter Try.func30, Try.ntmps30
  go_wp2_with fail
  refine (HU.out _ _ _ (by repeat (first | exact HRP.out | apply rd_seq | apply Rd.plus | apply Rd.alloc | apply Rd.drew | apply Rd.drewN | refine rd_patch ?_ _ _ (by intro A hA; first | (cases hA; show _ ≠ _; omega) | (have := hal A hA; omega))))).mono ?_
  rintro e w1 ⟨ca, cc, rfl, hc, x1, rfl⟩
  have HC := Lib.hid hc
  clear hc
  go_wp2_with fail
  have HC2 := Lib.hid (wrt_swap (w2 := w.alloc (.cells #[.int .i64 (1 - o), .int .i64 l, .int .i64 m, .slice a ps.length cap, .int .i64 b, .int .i64 last] 27)) HC.out (by simp) (by simp)).rd
  refine (PackCodes_yes (1 - o) l m a cap ps b last ca cc C _ (by repeat (first | exact HRP.out | apply rd_seq | apply Rd.plus | apply Rd.alloc | apply Rd.drew | apply Rd.drewN | refine rd_patch ?_ _ _ (by intro A hA; first | (cases hA; show _ ≠ _; omega) | (have := hal A hA; omega)))) (by repeat (first | exact HC2.out | apply rd_seq | apply Rd.plus | apply Rd.alloc | apply Rd.drew | apply Rd.drewN | refine rd_patch ?_ _ _ (by intro A hA; first | (cases hA; show _ ≠ _; omega) | (have := hal A hA; omega)))) HK.out hCl b rfl W D HW.out).mono ?_
  rintro e w' ⟨rfl, x2, rfl⟩
  go_wp2_with fail
  go_ret2
  exact Ret.mk (by repeat (first | exact More.refl _ | apply More.plus | apply More.alloc | apply More.drew | apply More.drewN))

set_option maxRecDepth 100000 in
set_option maxHeartbeats 2000000 in
theorem specRepack_yes (o l m : Int) (a : Option Addr) (cap : Nat) (ps : List Pr) (b : Nat) (last : Int) (s : ByteArray) (w : World) (hr : RdP w a cap ps) (hk : kvb o l m ps (b : Int) last = true) (C : List Int) (u : Int) (hCl : C.length ≤ 3100) (W : List Int) (D : List UInt8) (hW : wlk l m b C ps last [] [] = some (W, D))
    (hU : ∀ (W : World) (a : Option Addr) (cap : Nat), RdP W a cap ps → Calls Try.prog 15 #[.agg #[.int .i64 o, .int .i64 l, .int .i64 m, .slice a ps.length cap, .int .i64 b, .int .i64 last], .string s] W (RetUc W C 0 u)) :
    Calls Try.prog 31 #[.agg #[.int .i64 o, .int .i64 l, .int .i64 m, .slice a ps.length cap, .int .i64 b, .int .i64 last], .string s] w (Ret w (.tuple #[.string (bstr (pckL (1 - o) (cbits (1 - o) C W))), .bool true])) := by
  obtain ⟨ho, _⟩ := sv_iff.1 (kvb_iff.1 hk).s
  have ho1 : 1 - o = 0 ∨ 1 - o = 1 := by omega
  have hk2 := turn_k hk
  obtain ⟨hts, htv, htb⟩ := cbits_str hk hCl hW (1 - o)
  obtain ⟨t, ht⟩ : ∃ t, bstr (cbits (1 - o) C W) = t := ⟨_, rfl⟩
  rw [ht] at hts htv htb
  have HTV := Lib.hid htv
  have HTB := Lib.hid htb
  have HT := Lib.hid ht
  have HK := Lib.hid hk2
  have HU := Lib.hid hU
  have HRP := Lib.hid hr
  have HW := Lib.hid hW
  clear hU hr hW hk hk2 htv htb ht
  go_enter Try.func31, Try.ntmps31
  go_wp2_with fail
  refine (HU.out _ _ _ (by repeat (first | exact HRP.out | apply rd_seq | apply Rd.plus | apply Rd.alloc | apply Rd.drew | apply Rd.drewN | refine rd_patch ?_ _ _ (by intro A hA; first | (cases hA; show _ ≠ _; omega) | (have := hal A hA; omega))))).mono ?_
  rintro e w1 ⟨ca, cc, rfl, hc, x1, rfl⟩
  have HC := Lib.hid hc.rd
  clear hc
  go_wp2_with fail
  refine wp_region_pt 7 (fun w' => ∃ y, w' = plus _ y) (Plan.quiet 0 (Plan.quiet 1 (Plan.quiet 2 (Plan.quiet 3 (Plan.quiet 4 (Plan.one 5 (Plan.one 6 (Plan.one 7 (Plan.one 8 Plan.done))))))))) (by kernel_rfl) (by kernel_rfl) (⟨_, drew_is_plus _⟩) ?_
  refine wpPt_val rfl rfl ?_
  apply Exists.intro
  refine ⟨fun w' hS => ?_, ?_⟩
  focus (obtain ⟨y3, rfl⟩ := hS; simp [go_sem, ↓IntWalk.iteOmega] <;> first | done | exact rfl | (rw [IntWalk.i64_in _ (by omega)]; exact rfl) | trace_state)
  refine wpPt_val rfl rfl ?_
  apply Exists.intro
  refine ⟨fun w' hS => ?_, ?_⟩
  focus (obtain ⟨y3, rfl⟩ := hS; simp [go_sem, ↓IntWalk.iteOmega] <;> first | done | exact rfl | (rw [IntWalk.i64_in _ (by omega)]; exact rfl) | trace_state)
  refine wpPt_val rfl rfl ?_
  apply Exists.intro
  refine ⟨fun w' hS => ?_, ?_⟩
  focus (obtain ⟨y3, rfl⟩ := hS; simp [go_sem, ↓IntWalk.iteOmega] <;> first | done | exact rfl | (rw [IntWalk.i64_in _ (by omega)]; exact rfl) | trace_state)
  refine wpPt_val rfl rfl ?_
  apply Exists.intro
  refine ⟨fun w' hS => ?_, ?_⟩
  focus (obtain ⟨y3, rfl⟩ := hS; simp [go_sem, ↓IntWalk.iteOmega] <;> first | done | exact rfl | (rw [IntWalk.i64_in _ (by omega)]; exact rfl) | trace_state)
  refine wpPt_val rfl rfl ?_
  apply Exists.intro
  refine ⟨fun w' hS => ?_, ?_⟩
  focus (obtain ⟨y3, rfl⟩ := hS; simp [go_sem, ↓IntWalk.iteOmega] <;> first | done | exact rfl | (rw [IntWalk.i64_in _ (by omega)]; exact rfl) | trace_state)
  refine wpPt_one rfl rfl (fun K hK => ?_)
  go_simp
  refine (l2Pack_any (1 - o) l m a cap ps b last ca cc C _ (by repeat (first | exact HRP.out | apply rd_seq | apply Rd.plus | apply Rd.alloc | apply Rd.drew | apply Rd.drewN | refine rd_patch ?_ _ _ (by intro A hA; first | (cases hA; show _ ≠ _; omega) | (have := hal A hA; omega)))) (by repeat (first | exact HC.out | apply rd_seq | apply Rd.plus | apply Rd.alloc | apply Rd.drew | apply Rd.drewN | refine rd_patch ?_ _ _ (by intro A hA; first | (cases hA; show _ ≠ _; omega) | (have := hal A hA; omega)))) HK.out hCl b rfl W _ HW.out).mono ?_
  rintro e w' ⟨rfl, x7, rfl⟩
  rw [HT.out]
  refine hK _ _ (fun hkn => (by repeat (first | exact More.refl _ | (with_reducible apply more_seq) | (with_reducible apply more_draw) | apply More.plus | apply More.alloc | apply More.drew))) ?_
  clear hK K
  refine wpPt_one rfl rfl (fun K hK => ?_)
  go_simp
  refine (l1Pack_any (1 - o) t _ ho1 (by omega) HTV.out).mono ?_
  rintro e w' ⟨rfl, x8, rfl⟩
  refine hK _ _ (fun hkn => (by repeat (first | exact More.refl _ | (with_reducible apply more_seq) | (with_reducible apply more_draw) | apply More.plus | apply More.alloc | apply More.drew))) ?_
  clear hK K
  refine wpPt_one rfl rfl (fun K hK => ?_)
  go_simp
  refine hK _ _ (fun hkn => absurd hkn (by decide)) ?_
  clear hK K
  refine wpPt_one rfl rfl (fun K hK => ?_)
  go_simp
  refine hK _ _ (fun hkn => absurd hkn (by decide)) ?_
  clear hK K
  refine NoPanic.normal ?_
  go_wp2
  go_ret2
  exact ⟨by simp [HTB.out], (by repeat (first | exact More.refl _ | apply More.plus | apply More.alloc | apply More.drew | apply More.drewN))⟩

end Go.Proofs.Ytibfkfinghcpaaa
