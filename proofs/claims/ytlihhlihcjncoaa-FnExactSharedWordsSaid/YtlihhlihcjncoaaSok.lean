/- soKnown of equal things; After of the clear code. -/
import Derived.Test.YtlihhlihcjncoaaSwi
import Derived.Test.YtlihhlihcjncoaaAdv
namespace Go.Proofs.Ytlihhlihcjncoaa
open Go.RowKit
set_option linter.unusedVariables false
set_option linter.unusedSimpArgs false

set_option maxRecDepth 100000 in
set_option maxHeartbeats 2000000 in
theorem soKnown_yes (o l m : Int) (a a' : Option Addr) (cap cap' : Nat) (ps : List Pr) (base last : Int) (w : World) (hr : RdP w a cap ps) (hr' : RdP w a' cap' ps) :
    Calls Try.prog 28 #[.agg #[.int .i64 o, .int .i64 l, .int .i64 m, .slice a ps.length cap, .int .i64 base, .int .i64 last], .agg #[.int .i64 o, .int .i64 l, .int .i64 m, .slice a' ps.length cap', .int .i64 base, .int .i64 last]] w (Ret w (.bool true)) := by
  obtain ⟨r1, r2, r3⟩ := hr.open
  obtain ⟨s1, s2, s3⟩ := hr'.open
  go_enter Try.func28, Try.ntmps28
  go_wp2_with fail
  go_loopw [5] (fun i wr => ∃ (k : Nat) (x : Ext), k ≤ ps.length ∧ i = .int .i64 k ∧ wr = plus ((w.alloc (.cells #[.int .i64 o, .int .i64 l, .int .i64 m, .slice a ps.length cap, .int .i64 base, .int .i64 last] 27)).alloc (.cells #[.int .i64 o, .int .i64 l, .int .i64 m, .slice a' ps.length cap', .int .i64 base, .int .i64 last] 27)) x) (fun i _ => ps.length - (intOf i).toNat)
  case atStart => exact ⟨0, _, Nat.zero_le _, rfl, (plus_self _).symm⟩
  case round =>
    obtain ⟨k, x, hk, rfl, rfl⟩ := hrel
    rcases dec (k < ps.length) with ⟨hlt, blt⟩ | ⟨hlt, blt⟩
    · obtain ⟨p, hp⟩ : ∃ p, ps[k]? = some p := ⟨ps[k], List.getElem?_eq_getElem hlt⟩
      rcases r3 with rfl | ⟨b, off, rfl, hb, hc⟩
      · exact absurd hlt (by omega)
      rcases s3 with rfl | ⟨b', off', rfl, hb', hc'⟩
      · exact absurd hlt (by omega)
      obtain ⟨c1, c2⟩ := hc k p hp
      obtain ⟨d1, d2⟩ := hc' k p hp
      clear hc hc' hp
      go_wp2_with fail
      refine wp_region_pu 10 (fun w' => ∃ y, w' = plus _ y) (Plan.quiet 0 (Plan.quiet 1 (Plan.quiet 2 (Plan.quiet 3 (Plan.quiet 4 (Plan.quiet 5 (Plan.quiet 6 (Plan.quiet 7 (Plan.quiet 8 (Plan.quiet 9 (Plan.one 10 Plan.done))))))))))) (by kernel_rfl) (by kernel_rfl) (⟨_, drew_is_plus _⟩) ?_
      refine wpPt_val rfl rfl ?_
      apply Exists.intro
      refine ⟨fun w' hS => ?_, ?_⟩
      focus (obtain ⟨y3, rfl⟩ := hS; simp [go_sem, ↓IntWalk.iteOmega, c1, c2, d1, d2] <;> first | done | exact rfl | (rw [IntWalk.i64_in _ (by omega)]; exact rfl) | trace_state)
      refine wpPt_val rfl rfl ?_
      apply Exists.intro
      refine ⟨fun w' hS => ?_, ?_⟩
      focus (obtain ⟨y3, rfl⟩ := hS; simp [go_sem, ↓IntWalk.iteOmega, c1, c2, d1, d2] <;> first | done | exact rfl | (rw [IntWalk.i64_in _ (by omega)]; exact rfl) | trace_state)
      refine wpPt_val rfl rfl ?_
      apply Exists.intro
      refine ⟨fun w' hS => ?_, ?_⟩
      focus (obtain ⟨y3, rfl⟩ := hS; simp [go_sem, ↓IntWalk.iteOmega, c1, c2, d1, d2] <;> first | done | exact rfl | (rw [IntWalk.i64_in _ (by omega)]; exact rfl) | trace_state)
      refine wpPt_val rfl rfl ?_
      apply Exists.intro
      refine ⟨fun w' hS => ?_, ?_⟩
      focus (obtain ⟨y3, rfl⟩ := hS; simp [go_sem, ↓IntWalk.iteOmega, c1, c2, d1, d2] <;> first | done | exact rfl | (rw [IntWalk.i64_in _ (by omega)]; exact rfl) | trace_state)
      refine wpPt_val rfl rfl ?_
      apply Exists.intro
      refine ⟨fun w' hS => ?_, ?_⟩
      focus (obtain ⟨y3, rfl⟩ := hS; simp [go_sem, ↓IntWalk.iteOmega, c1, c2, d1, d2] <;> first | done | exact rfl | (rw [IntWalk.i64_in _ (by omega)]; exact rfl) | trace_state)
      refine wpPt_val rfl rfl ?_
      apply Exists.intro
      refine ⟨fun w' hS => ?_, ?_⟩
      focus (obtain ⟨y3, rfl⟩ := hS; simp [go_sem, ↓IntWalk.iteOmega, c1, c2, d1, d2] <;> first | done | exact rfl | (rw [IntWalk.i64_in _ (by omega)]; exact rfl) | trace_state)
      refine wpPt_val rfl rfl ?_
      apply Exists.intro
      refine ⟨fun w' hS => ?_, ?_⟩
      focus (obtain ⟨y3, rfl⟩ := hS; simp [go_sem, ↓IntWalk.iteOmega, c1, c2, d1, d2] <;> first | done | exact rfl | (rw [IntWalk.i64_in _ (by omega)]; exact rfl) | trace_state)
      refine wpPt_val rfl rfl ?_
      apply Exists.intro
      refine ⟨fun w' hS => ?_, ?_⟩
      focus (obtain ⟨y3, rfl⟩ := hS; simp [go_sem, ↓IntWalk.iteOmega, c1, c2, d1, d2] <;> first | done | exact rfl | (rw [IntWalk.i64_in _ (by omega)]; exact rfl) | trace_state)
      refine wpPt_val rfl rfl ?_
      apply Exists.intro
      refine ⟨fun w' hS => ?_, ?_⟩
      focus (obtain ⟨y3, rfl⟩ := hS; simp [go_sem, ↓IntWalk.iteOmega, c1, c2, d1, d2] <;> first | done | exact rfl | (rw [IntWalk.i64_in _ (by omega)]; exact rfl) | trace_state)
      refine wpPt_val rfl rfl ?_
      apply Exists.intro
      refine ⟨fun w' hS => ?_, ?_⟩
      focus (obtain ⟨y3, rfl⟩ := hS; simp [go_sem, ↓IntWalk.iteOmega, c1, c2, d1, d2] <;> first | done | exact rfl | (rw [IntWalk.i64_in _ (by omega)]; exact rfl) | trace_state)
      refine wpPt_one rfl rfl (fun K hK => ?_)
      go_simp
      refine hK _ _ (fun hkn => absurd hkn (by decide)) ?_
      clear hK K
      refine NoPanic.normal ?_
      go_wp2_with fail
      go_roundw
      case rel => exact ⟨k + 1, _, by omega, by go_num, rfl⟩
      case measure => simp [intOf]; omega
    · obtain rfl : k = ps.length := by omega
      go_wp2_with fail
      go_ret
      exact Ret.mk (by repeat (first | exact More.refl _ | apply More.plus | apply More.alloc | apply More.drew | apply More.drewN))

set_option maxRecDepth 100000 in
set_option maxHeartbeats 2000000 in
theorem implAfter_clear (o l m : Int) (a : Option Addr) (cap : Nat) (ps : List Pr) (b : Nat) (last : Int) (w : World) (hr : RdP w a cap ps) (hkv : KV o l m ps (b : Int) last) :
    Calls Try.prog 37 #[.agg #[.int .i64 o, .int .i64 l, .int .i64 m, .slice a ps.length cap, .int .i64 b, .int .i64 last], .int .i64 (two l)] w (RetO w (fun a0 c0 => .tuple #[.agg #[.int .i64 o, .int .i64 l, .int .i64 m, .slice a0 (ps.take b).length c0, .int .i64 b, .int .i64 (-1)], .bool true]) (ps.take b)) := by
  have hlen := kv_len (kvb_iff.2 hkv)
  have hs := hkv.s
  have hb : b ≤ ps.length := by have := hkv.b1; omega
  obtain ⟨_, _, _, _, t1, t2, t4, _⟩ := hkv.lim.bds
  have hgt : two l ≤ gt l m ps.length last := by
    unfold gt nw
    split <;> omega
  have hcan : canB l m ps.length last (two l) = true := canB_iff.2 ⟨by omega, hgt⟩
  have hk := kvb_iff.2 hkv
  have v1 : (two l == two l + 1) = false := by simp; omega
  have v2 : (two l != two l) = false := by simp
  have HRP := Lib.hid hr
  have hlt : (ps.take b).length = b := by rw [List.length_take]; omega
  obtain ⟨qs, hqs⟩ : ∃ qs, ps.take b = qs := ⟨_, rfl⟩
  rw [hqs] at hlt ⊢
  have HQ := Lib.hid hqs
  have HLT := Lib.hid hlt
  clear hgt hr hqs
  go_enter Try.func37, Try.ntmps37
  go_wp2_with fail
  refine (KnownValid_any o l m a cap ps b last _ (by repeat (first | exact HRP.out | apply rd_seq | apply Rd.plus | apply Rd.alloc | apply Rd.drew | apply Rd.drewN | refine rd_patch ?_ _ _ (by intro A hA; first | (cases hA; show _ ≠ _; omega) | (have := hal A hA; omega))))).mono ?_
  rintro e w' ⟨rfl, x1, rfl⟩
  rw [hk]
  go_wp2_with fail
  refine (canFollow_any o l m a ps.length cap b last (two l) _ hs (by omega)).mono ?_
  rintro e w' ⟨rfl, x2, rfl⟩
  rw [hcan]
  go_wp2_with fail
  refine (EndCode_yes _ _ _ hs _).mono ?_
  rintro e w' ⟨rfl, x3, rfl⟩
  go_wp2_with fail
  refine (ClearCode_yes _ _ _ hs _).mono ?_
  rintro e w' ⟨rfl, x4, rfl⟩
  go_wp2_with fail
  refine (copyKnown_any o l m a cap ps b last _ (by repeat (first | exact HRP.out | apply rd_seq | apply Rd.plus | apply Rd.alloc | apply Rd.drew | apply Rd.drewN | refine rd_patch ?_ _ _ (by intro A hA; first | (cases hA; show _ ≠ _; omega) | (have := hal A hA; omega)))) (by omega)).mono ?_
  rintro e w' ⟨pa, pc, rfl, hown, x5, rfl⟩
  have HO := Lib.hid hown.rd
  clear hown
  go_wp2_with fail
  refine (advance_clear o l m pa pc ps.length b last 0 _ hs hb HO.out.1 HO.out.2.1).mono ?_
  rintro e w' ⟨rfl, x6, rfl⟩
  have ht := rd_take HO.out b
  rw [HQ.out] at ht
  (try simp only [plus_plus] at ht)
  have HT := Lib.hid ht
  clear ht
  go_wp2_with fail
  have HCP := Lib.hid (fun (W : World) (h : RdP W pa pc qs) => copyKnown_any o l m pa pc qs b (-1) W h (by omega))
  rw [HLT.out] at HCP
  refine (HCP.out _ (by repeat (first | exact HT.out | apply rd_seq | apply Rd.plus | apply Rd.alloc | apply Rd.drew | apply Rd.drewN | refine rd_patch ?_ _ _ (by intro A hA; first | (cases hA; show _ ≠ _; omega) | (have := hal A hA; omega))))).mono ?_
  rintro e w' ⟨pa7, pc7, rfl, hown, x7, rfl⟩
  (try simp only [plus_plus] at hown)
  have HO7 := Lib.hid hown
  clear hown
  go_wp2_with fail
  refine bodyPost_ret (v := .tuple #[.agg #[.int .i64 o, .int .i64 l, .int .i64 m, .slice pa7 qs.length pc7, .int .i64 b, .int .i64 (-1)], .bool true]) (by simp [results, Try.results37, go_sem, ↓IntWalk.iteOmega, HLT.out]) rfl ⟨pa7, pc7, rfl, ?_, (by repeat (first | exact More.refl _ | apply More.plus | apply More.alloc | apply More.drew | apply More.drewN))⟩
  exact (by repeat (first | exact (own_swap HO7.out (by simp) (by simp <;> omega)).lower (by simp <;> omega) | (with_reducible apply Own.alloc) | (with_reducible apply Own.drew) | (with_reducible apply own_draw) | (with_reducible apply own_seq)))

end Go.Proofs.Ytlihhlihcjncoaa
