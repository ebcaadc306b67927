/- The walks of unpack, UnpackCodes (program). -/
import Derived.Test.YtibfkfinghcpaaaIrc
import Derived.Test.YtibfkfinghcpaaaUsd
import Derived.Test.YtibfkfinghcpaaaGs
namespace Go.Proofs.Ytibfkfinghcpaaa
open Go.RowKit
set_option linter.unusedVariables false
set_option linter.unusedSimpArgs false

theorem rdc_p {o l m : Int} {b sz ct : Nat} {bits : List UInt8} : ∀ (f : Nat) (ps : List Pr) (last : Int) (p : Nat) (C : List Int) (D : List UInt8), p ≤ bits.length → (rdc o l m b sz ct bits f ps last p C D).p ≤ bits.length
  | 0, ps, last, p, C, D, hp => hp
  | f + 1, ps, last, p, C, D, hp => by
    unfold rdc
    by_cases hn : bits.length - p < (wd l m ps.length last).toNat
    · rw [if_pos hn]; exact hp
    · rw [if_neg hn]
      have h2 : p + (wd l m ps.length last).toNat ≤ bits.length := by omega
      repeat' split
      all_goals first | exact h2 | exact rdc_p f _ _ _ _ _ h2

/-- what unpack leaves -/
def RetRu (w : World) (o l m base : Int) (R : Rg) (u : Int) (E : Ending) (w' : World) : Prop :=
  ∃ pa pc ca cc da dc, E = .returned (.tuple #[.agg #[.int .i64 o, .int .i64 l, .int .i64 m, .slice pa R.ps.length pc, .int .i64 base, .int .i64 R.last, .slice ca R.C.length cc, .slice da R.D.length dc, .int .i64 R.e, .int .i64 R.p], .int .i64 u]) ∧
    Own encI 3 w' ca cc R.C w.heap.size ∧ Own encB 5 w' da dc R.D w.heap.size ∧ ∃ x, w' = plus w x

/-- nothing read -/
def noRg : Rg := ⟨[], 0, [], [], 4, 0⟩

set_option maxRecDepth 100000 in
set_option maxHeartbeats 1000000 in
theorem unpack_no (o l m : Int) (a : Option Addr) (cap : Nat) (ps : List Pr) (base last : Int) (s : ByteArray) (w : World) (hr : RdP w a cap ps) (hm : s.size ≤ maxLen) (h : kvb o l m ps base last = false ∨ 4000 < s.size) :
    Calls Try.prog 61 #[.agg #[.int .i64 o, .int .i64 l, .int .i64 m, .slice a ps.length cap, .int .i64 base, .int .i64 last], .string s] w (RetRu w 0 0 0 0 noRg 0) := by
  unfold maxLen at hm
  have HRP := Lib.hid hr
  clear hr
  cases hk : kvb o l m ps base last
  · go_enter Try.func61, Try.ntmps61
    go_wp2_with (go_at_call 89; refine (KnownValid_any _ _ _ _ _ _ _ _ _ (by repeat (first | exact HRP.out | apply rd_seq | apply Rd.plus | apply Rd.alloc | apply Rd.drew | apply Rd.drewN | refine rd_patch ?_ _ _ (by intro A hA; first | (cases hA; show _ ≠ _; omega) | (have := hal A hA; omega))))).mono ?_; rintro e w' ⟨rfl, xc, rfl⟩)
    exact bodyPost_ret (v := .tuple #[.agg #[.int .i64 0, .int .i64 0, .int .i64 0, .slice none 0 0, .int .i64 0, .int .i64 0, .slice none 0 0, .slice none 0 0, .int .i64 4, .int .i64 0], .int .i64 0]) (by simp [results, Try.results61, go_sem, ↓IntWalk.iteOmega]) rfl ⟨none, 0, none, 0, none, 0, rfl, .inl ⟨rfl, rfl, rfl⟩, .inl ⟨rfl, rfl, rfl⟩, (by repeat (first | exact More.refl _ | apply More.plus | apply More.alloc | apply More.drew | apply More.drewN))⟩
  · have hs : 4000 < s.size := by
      rcases h with h | h
      · rw [hk] at h; cases h
      · exact h
    have v1 : decide (4000 < s.size) = true := decide_eq_true hs
    go_enter Try.func61, Try.ntmps61
    go_wp2_with (go_at_call 89; refine (KnownValid_any _ _ _ _ _ _ _ _ _ (by repeat (first | exact HRP.out | apply rd_seq | apply Rd.plus | apply Rd.alloc | apply Rd.drew | apply Rd.drewN | refine rd_patch ?_ _ _ (by intro A hA; first | (cases hA; show _ ≠ _; omega) | (have := hal A hA; omega))))).mono ?_; rintro e w' ⟨rfl, xc, rfl⟩)
    exact bodyPost_ret (v := .tuple #[.agg #[.int .i64 0, .int .i64 0, .int .i64 0, .slice none 0 0, .int .i64 0, .int .i64 0, .slice none 0 0, .slice none 0 0, .int .i64 4, .int .i64 0], .int .i64 0]) (by simp [results, Try.results61, go_sem, ↓IntWalk.iteOmega]) rfl ⟨none, 0, none, 0, none, 0, rfl, .inl ⟨rfl, rfl, rfl⟩, .inl ⟨rfl, rfl, rfl⟩, (by repeat (first | exact More.refl _ | apply More.plus | apply More.alloc | apply More.drew | apply More.drewN))⟩

set_option maxRecDepth 100000 in
set_option maxHeartbeats 4000000 in
theorem unpack_yes (o l m : Int) (a : Option Addr) (cap : Nat) (ps : List Pr) (b : Nat) (last : Int) (s : ByteArray) (w : World) (hr : RdP w a cap ps) (hk : kvb o l m ps (b : Int) last = true) (hsz : s.size ≤ 4000) (R : Rg)
    (hR : rdc o l m b 0 0 (unpL o s.data.toList) (8 * s.size + 1) ps last 0 [] [] = R) :
    Calls Try.prog 61 #[.agg #[.int .i64 o, .int .i64 l, .int .i64 m, .slice a ps.length cap, .int .i64 b, .int .i64 last], .string s] w (RetRu w o l m b R (usedV s.size R)) := by
  have v1 : decide (4000 < s.size) = false := by simp; omega
  obtain ⟨z, hz⟩ : ∃ z, bstr (unpL o s.data.toList) = z := ⟨_, rfl⟩
  have hzb : z.data.toList = unpL o s.data.toList := by rw [← hz, bytes_bstr]
  have hzs : z.size = 8 * s.size := by rw [← hz, bstr_size, unpL_len, bytes_len]
  rw [← hzb, ← hzs] at hR
  have HRP := Lib.hid hr
  have HR := Lib.hid hR
  have HZ := Lib.hid hz
  clear hr hR hz hzb
  by_cases he : R.e = 1
  · have v2 : (R.e == 1) = true := by simp [he]
    have HU := Lib.hid (show usedV s.size R = (s.size : Int) by unfold usedV; rw [if_pos he])
    clear he
    go_enter Try.func61, Try.ntmps61
    go_wp2_with (first | (go_at_call 89; refine (KnownValid_any _ _ _ _ _ _ _ _ _ (by repeat (first | exact HRP.out | apply rd_seq | apply Rd.plus | apply Rd.alloc | apply Rd.drew | apply Rd.drewN | refine rd_patch ?_ _ _ (by intro A hA; first | (cases hA; show _ ≠ _; omega) | (have := hal A hA; omega))))).mono ?_; rintro e w' ⟨rfl, xc, rfl⟩) | fail)
    refine wp_region_pt 8 (fun w' => ∃ y, w' = plus _ y) (Plan.quiet 0 (Plan.quiet 1 (Plan.quiet 2 (Plan.quiet 3 (Plan.quiet 4 (Plan.two 5 (Plan.two 6 (Plan.one 7 (Plan.one 8 Plan.done)) 7 (Plan.one 6 (Plan.one 8 Plan.done))) 7 (Plan.one 5 (Plan.one 6 (Plan.one 8 Plan.done))))))))) (by kernel_rfl) (by kernel_rfl) (⟨_, drew_is_plus _⟩) ?_
    refine wpPt_val rfl rfl ?_
    apply Exists.intro
    refine ⟨fun w' hS => ?_, ?_⟩
    focus (obtain ⟨y3, rfl⟩ := hS; simp [go_sem, ↓IntWalk.iteOmega] <;> first | done | exact rfl | (rw [IntWalk.i64_in _ (by omega)]; exact rfl) | trace_state)
    refine wpPt_val rfl rfl ?_
    apply Exists.intro
    refine ⟨fun w' hS => ?_, ?_⟩
    focus (obtain ⟨y3, rfl⟩ := hS; simp [go_sem, ↓IntWalk.iteOmega] <;> first | done | exact rfl | (rw [IntWalk.i64_in _ (by omega)]; exact rfl) | trace_state)
    refine wpPt_val rfl rfl ?_
    apply Exists.intro
    refine ⟨fun w' hS => ?_, ?_⟩
    focus (obtain ⟨y3, rfl⟩ := hS; simp [go_sem, ↓IntWalk.iteOmega] <;> first | done | exact rfl | (rw [IntWalk.i64_in _ (by omega)]; exact rfl) | trace_state)
    refine wpPt_val rfl rfl ?_
    apply Exists.intro
    refine ⟨fun w' hS => ?_, ?_⟩
    focus (obtain ⟨y3, rfl⟩ := hS; simp [go_sem, ↓IntWalk.iteOmega] <;> first | done | exact rfl | (rw [IntWalk.i64_in _ (by omega)]; exact rfl) | trace_state)
    refine wpPt_val rfl rfl ?_
    apply Exists.intro
    refine ⟨fun w' hS => ?_, ?_⟩
    focus (obtain ⟨y3, rfl⟩ := hS; simp [go_sem, ↓IntWalk.iteOmega] <;> first | done | exact rfl | (rw [IntWalk.i64_in _ (by omega)]; exact rfl) | trace_state)
    refine wpPt_two rfl rfl rfl rfl (fun K hK => ?_) (fun K hK => ?_)
    go_simp
    refine (unpackBytes_any o s _ hsz).mono ?_
    rintro e w' ⟨rfl, x5, rfl⟩
    rw [HZ.out]
    refine hK _ _ (fun hkn => (by repeat (first | exact More.refl _ | (with_reducible apply more_seq) | (with_reducible apply more_draw) | apply More.plus | apply More.alloc | apply More.drew))) ?_
    clear hK K
    refine wpPt_two rfl rfl rfl rfl (fun K hK => ?_) (fun K hK => ?_)
    go_simp
    refine (readCodes_any o l m a cap ps b last z 0 0 _ (by repeat (first | exact HRP.out | apply rd_seq | apply Rd.plus | apply Rd.alloc | apply Rd.drew | apply Rd.drewN | refine rd_patch ?_ _ _ (by intro A hA; first | (cases hA; show _ ≠ _; omega) | (have := hal A hA; omega)))) hk (by omega) (by omega) (by omega) R HR.out).mono ?_
    rintro e w' ⟨pa, pc, ca, cc, da, dc, rfl, _, hoc, hod, x6, rfl⟩
    (try simp only [plus_plus] at hoc hod)
    have HOC := Lib.hid hoc
    have HOD := Lib.hid hod
    clear hoc hod
    refine hK _ _ (fun hkn => (by repeat (first | exact More.refl _ | (with_reducible apply more_seq) | (with_reducible apply more_draw) | apply More.plus | apply More.alloc | apply More.drew))) ?_
    clear hK K
    refine wpPt_one rfl rfl (fun K hK => ?_)
    go_simp
    refine hK _ _ (fun hkn => (by repeat (first | exact More.refl _ | (with_reducible apply more_seq) | (with_reducible apply more_draw) | apply More.plus | apply More.alloc | apply More.drew))) ?_
    clear hK K
    refine wpPt_one rfl rfl (fun K hK => ?_)
    go_simp
    refine hK _ _ (fun hkn => absurd hkn (by decide)) ?_
    clear hK K
    refine NoPanic.normal ?_
    rotate_left
    go_simp
    refine hK _ _ (fun hkn => (by repeat (first | exact More.refl _ | (with_reducible apply more_seq) | (with_reducible apply more_draw) | apply More.plus | apply More.alloc | apply More.drew))) ?_
    clear hK K
    refine wpPt_one rfl rfl (fun K hK => ?_)
    go_simp
    refine (readCodes_any o l m a cap ps b last z 0 0 _ (by repeat (first | exact HRP.out | apply rd_seq | apply Rd.plus | apply Rd.alloc | apply Rd.drew | apply Rd.drewN | refine rd_patch ?_ _ _ (by intro A hA; first | (cases hA; show _ ≠ _; omega) | (have := hal A hA; omega)))) hk (by omega) (by omega) (by omega) R HR.out).mono ?_
    rintro e w' ⟨pa, pc, ca, cc, da, dc, rfl, _, hoc, hod, x6, rfl⟩
    (try simp only [plus_plus] at hoc hod)
    have HOC := Lib.hid hoc
    have HOD := Lib.hid hod
    clear hoc hod
    refine hK _ _ (fun hkn => (by repeat (first | exact More.refl _ | (with_reducible apply more_seq) | (with_reducible apply more_draw) | apply More.plus | apply More.alloc | apply More.drew))) ?_
    clear hK K
    refine wpPt_one rfl rfl (fun K hK => ?_)
    go_simp
    refine hK _ _ (fun hkn => absurd hkn (by decide)) ?_
    clear hK K
    refine NoPanic.normal ?_
    rotate_left
    go_simp
    refine hK _ _ (fun hkn => (by repeat (first | exact More.refl _ | (with_reducible apply more_seq) | (with_reducible apply more_draw) | apply More.plus | apply More.alloc | apply More.drew))) ?_
    clear hK K
    refine wpPt_one rfl rfl (fun K hK => ?_)
    go_simp
    refine (unpackBytes_any o s _ hsz).mono ?_
    rintro e w' ⟨rfl, x5, rfl⟩
    rw [HZ.out]
    refine hK _ _ (fun hkn => (by repeat (first | exact More.refl _ | (with_reducible apply more_seq) | (with_reducible apply more_draw) | apply More.plus | apply More.alloc | apply More.drew))) ?_
    clear hK K
    refine wpPt_one rfl rfl (fun K hK => ?_)
    go_simp
    refine (readCodes_any o l m a cap ps b last z 0 0 _ (by repeat (first | exact HRP.out | apply rd_seq | apply Rd.plus | apply Rd.alloc | apply Rd.drew | apply Rd.drewN | refine rd_patch ?_ _ _ (by intro A hA; first | (cases hA; show _ ≠ _; omega) | (have := hal A hA; omega)))) hk (by omega) (by omega) (by omega) R HR.out).mono ?_
    rintro e w' ⟨pa, pc, ca, cc, da, dc, rfl, _, hoc, hod, x6, rfl⟩
    (try simp only [plus_plus] at hoc hod)
    have HOC := Lib.hid hoc
    have HOD := Lib.hid hod
    clear hoc hod
    refine hK _ _ (fun hkn => (by repeat (first | exact More.refl _ | (with_reducible apply more_seq) | (with_reducible apply more_draw) | apply More.plus | apply More.alloc | apply More.drew))) ?_
    clear hK K
    refine wpPt_one rfl rfl (fun K hK => ?_)
    go_simp
    refine hK _ _ (fun hkn => absurd hkn (by decide)) ?_
    clear hK K
    refine NoPanic.normal ?_
    all_goals
      go_wp2_with fail
      refine bodyPost_ret (v := .tuple #[.agg #[.int .i64 o, .int .i64 l, .int .i64 m, .slice pa R.ps.length pc, .int .i64 b, .int .i64 R.last, .slice ca R.C.length cc, .slice da R.D.length dc, .int .i64 R.e, .int .i64 R.p], .int .i64 ((s.size : Int))]) (by simp [results, Try.results61, go_sem, ↓IntWalk.iteOmega]) rfl ?_
      exact ⟨pa, pc, ca, cc, da, dc, by rw [HU.out], (by repeat (first | exact (own_swap HOC.out (by simp) (by simp <;> omega)).lower (by simp <;> omega) | (with_reducible apply Own.alloc) | (with_reducible apply Own.drew) | (with_reducible apply own_draw) | (with_reducible apply own_seq))), (by repeat (first | exact (own_swap HOD.out (by simp) (by simp <;> omega)).lower (by simp <;> omega) | (with_reducible apply Own.alloc) | (with_reducible apply Own.drew) | (with_reducible apply own_draw) | (with_reducible apply own_seq))), (by repeat (first | exact More.refl _ | apply More.plus | apply More.alloc | apply More.drew | apply More.drewN))⟩
  · have v2 : (R.e == 1) = false := by simp [he]
    have HU := Lib.hid (show usedV s.size R = ((R.p : Int) + 7) / 8 by unfold usedV; rw [if_neg he])
    have hpb : R.p ≤ 100000 := by
      have := rdc_p (o := o) (l := l) (m := m) (b := b) (sz := 0) (ct := 0) (bits := z.data.toList) (z.size + 1) ps last 0 [] [] (by omega)
      rw [HR.out, bytes_len] at this
      omega
    clear he
    have mixed : Try.prog.follows .mixedOrders = true := by kernel_rfl
    go_enter Try.func61, Try.ntmps61
    go_wp2_with (first | (go_at_call 89; refine (KnownValid_any _ _ _ _ _ _ _ _ _ (by repeat (first | exact HRP.out | apply rd_seq | apply Rd.plus | apply Rd.alloc | apply Rd.drew | apply Rd.drewN | refine rd_patch ?_ _ _ (by intro A hA; first | (cases hA; show _ ≠ _; omega) | (have := hal A hA; omega))))).mono ?_; rintro e w' ⟨rfl, xc, rfl⟩) | fail)
    refine wp_region_pt 8 (fun w' => ∃ y, w' = plus _ y) (Plan.quiet 0 (Plan.quiet 1 (Plan.quiet 2 (Plan.quiet 3 (Plan.quiet 4 (Plan.two 5 (Plan.two 6 (Plan.one 7 (Plan.one 8 Plan.done)) 7 (Plan.one 6 (Plan.one 8 Plan.done))) 7 (Plan.one 5 (Plan.one 6 (Plan.one 8 Plan.done))))))))) (by kernel_rfl) (by kernel_rfl) (⟨_, drew_is_plus _⟩) ?_
    refine wpPt_val rfl rfl ?_
    apply Exists.intro
    refine ⟨fun w' hS => ?_, ?_⟩
    focus (obtain ⟨y3, rfl⟩ := hS; simp [go_sem, ↓IntWalk.iteOmega] <;> first | done | exact rfl | (rw [IntWalk.i64_in _ (by omega)]; exact rfl) | trace_state)
    refine wpPt_val rfl rfl ?_
    apply Exists.intro
    refine ⟨fun w' hS => ?_, ?_⟩
    focus (obtain ⟨y3, rfl⟩ := hS; simp [go_sem, ↓IntWalk.iteOmega] <;> first | done | exact rfl | (rw [IntWalk.i64_in _ (by omega)]; exact rfl) | trace_state)
    refine wpPt_val rfl rfl ?_
    apply Exists.intro
    refine ⟨fun w' hS => ?_, ?_⟩
    focus (obtain ⟨y3, rfl⟩ := hS; simp [go_sem, ↓IntWalk.iteOmega] <;> first | done | exact rfl | (rw [IntWalk.i64_in _ (by omega)]; exact rfl) | trace_state)
    refine wpPt_val rfl rfl ?_
    apply Exists.intro
    refine ⟨fun w' hS => ?_, ?_⟩
    focus (obtain ⟨y3, rfl⟩ := hS; simp [go_sem, ↓IntWalk.iteOmega] <;> first | done | exact rfl | (rw [IntWalk.i64_in _ (by omega)]; exact rfl) | trace_state)
    refine wpPt_val rfl rfl ?_
    apply Exists.intro
    refine ⟨fun w' hS => ?_, ?_⟩
    focus (obtain ⟨y3, rfl⟩ := hS; simp [go_sem, ↓IntWalk.iteOmega] <;> first | done | exact rfl | (rw [IntWalk.i64_in _ (by omega)]; exact rfl) | trace_state)
    refine wpPt_two rfl rfl rfl rfl (fun K hK => ?_) (fun K hK => ?_)
    go_simp
    refine (unpackBytes_any o s _ hsz).mono ?_
    rintro e w' ⟨rfl, x5, rfl⟩
    rw [HZ.out]
    refine hK _ _ (fun hkn => (by repeat (first | exact More.refl _ | (with_reducible apply more_seq) | (with_reducible apply more_draw) | apply More.plus | apply More.alloc | apply More.drew))) ?_
    clear hK K
    refine wpPt_two rfl rfl rfl rfl (fun K hK => ?_) (fun K hK => ?_)
    go_simp
    refine (readCodes_any o l m a cap ps b last z 0 0 _ (by repeat (first | exact HRP.out | apply rd_seq | apply Rd.plus | apply Rd.alloc | apply Rd.drew | apply Rd.drewN | refine rd_patch ?_ _ _ (by intro A hA; first | (cases hA; show _ ≠ _; omega) | (have := hal A hA; omega)))) hk (by omega) (by omega) (by omega) R HR.out).mono ?_
    rintro e w' ⟨pa, pc, ca, cc, da, dc, rfl, _, hoc, hod, x6, rfl⟩
    (try simp only [plus_plus] at hoc hod)
    have HOC := Lib.hid hoc
    have HOD := Lib.hid hod
    clear hoc hod
    refine hK _ _ (fun hkn => (by repeat (first | exact More.refl _ | (with_reducible apply more_seq) | (with_reducible apply more_draw) | apply More.plus | apply More.alloc | apply More.drew))) ?_
    clear hK K
    refine wpPt_one rfl rfl (fun K hK => ?_)
    go_simp
    refine hK _ _ (fun hkn => (by repeat (first | exact More.refl _ | (with_reducible apply more_seq) | (with_reducible apply more_draw) | apply More.plus | apply More.alloc | apply More.drew))) ?_
    clear hK K
    refine wpPt_one rfl rfl (fun K hK => ?_)
    go_simp
    refine hK _ _ (fun hkn => absurd hkn (by decide)) ?_
    clear hK K
    refine NoPanic.normal ?_
    rotate_left
    go_simp
    refine hK _ _ (fun hkn => (by repeat (first | exact More.refl _ | (with_reducible apply more_seq) | (with_reducible apply more_draw) | apply More.plus | apply More.alloc | apply More.drew))) ?_
    clear hK K
    refine wpPt_one rfl rfl (fun K hK => ?_)
    go_simp
    refine (readCodes_any o l m a cap ps b last z 0 0 _ (by repeat (first | exact HRP.out | apply rd_seq | apply Rd.plus | apply Rd.alloc | apply Rd.drew | apply Rd.drewN | refine rd_patch ?_ _ _ (by intro A hA; first | (cases hA; show _ ≠ _; omega) | (have := hal A hA; omega)))) hk (by omega) (by omega) (by omega) R HR.out).mono ?_
    rintro e w' ⟨pa, pc, ca, cc, da, dc, rfl, _, hoc, hod, x6, rfl⟩
    (try simp only [plus_plus] at hoc hod)
    have HOC := Lib.hid hoc
    have HOD := Lib.hid hod
    clear hoc hod
    refine hK _ _ (fun hkn => (by repeat (first | exact More.refl _ | (with_reducible apply more_seq) | (with_reducible apply more_draw) | apply More.plus | apply More.alloc | apply More.drew))) ?_
    clear hK K
    refine wpPt_one rfl rfl (fun K hK => ?_)
    go_simp
    refine hK _ _ (fun hkn => absurd hkn (by decide)) ?_
    clear hK K
    refine NoPanic.normal ?_
    rotate_left
    go_simp
    refine hK _ _ (fun hkn => (by repeat (first | exact More.refl _ | (with_reducible apply more_seq) | (with_reducible apply more_draw) | apply More.plus | apply More.alloc | apply More.drew))) ?_
    clear hK K
    refine wpPt_one rfl rfl (fun K hK => ?_)
    go_simp
    refine (unpackBytes_any o s _ hsz).mono ?_
    rintro e w' ⟨rfl, x5, rfl⟩
    rw [HZ.out]
    refine hK _ _ (fun hkn => (by repeat (first | exact More.refl _ | (with_reducible apply more_seq) | (with_reducible apply more_draw) | apply More.plus | apply More.alloc | apply More.drew))) ?_
    clear hK K
    refine wpPt_one rfl rfl (fun K hK => ?_)
    go_simp
    refine (readCodes_any o l m a cap ps b last z 0 0 _ (by repeat (first | exact HRP.out | apply rd_seq | apply Rd.plus | apply Rd.alloc | apply Rd.drew | apply Rd.drewN | refine rd_patch ?_ _ _ (by intro A hA; first | (cases hA; show _ ≠ _; omega) | (have := hal A hA; omega)))) hk (by omega) (by omega) (by omega) R HR.out).mono ?_
    rintro e w' ⟨pa, pc, ca, cc, da, dc, rfl, _, hoc, hod, x6, rfl⟩
    (try simp only [plus_plus] at hoc hod)
    have HOC := Lib.hid hoc
    have HOD := Lib.hid hod
    clear hoc hod
    refine hK _ _ (fun hkn => (by repeat (first | exact More.refl _ | (with_reducible apply more_seq) | (with_reducible apply more_draw) | apply More.plus | apply More.alloc | apply More.drew))) ?_
    clear hK K
    refine wpPt_one rfl rfl (fun K hK => ?_)
    go_simp
    refine hK _ _ (fun hkn => absurd hkn (by decide)) ?_
    clear hK K
    refine NoPanic.normal ?_
    ·
      have q1 : w.heap.size < w.heap.size + 1 + 1 + xc.n := by omega
      have q2 : w.heap.size + 1 < w.heap.size + 1 + 1 + xc.n := by omega
      have q3 : w.heap.size + 1 < w.heap.size + 1 + 1 := by omega
      go_wp2_with fail
      go_region_o
      go_wp2_with fail
      refine bodyPost_ret (v := .tuple #[.agg #[.int .i64 o, .int .i64 l, .int .i64 m, .slice pa R.ps.length pc, .int .i64 b, .int .i64 R.last, .slice ca R.C.length cc, .slice da R.D.length dc, .int .i64 R.e, .int .i64 R.p], .int .i64 (((R.p : Int) + 7) / 8)]) (by simp [results, Try.results61, go_sem, ↓IntWalk.iteOmega]) rfl ?_
      exact ⟨pa, pc, ca, cc, da, dc, by rw [HU.out], (by repeat (first | exact (own_swap HOC.out (by simp) (by simp <;> omega)).lower (by simp <;> omega) | (with_reducible apply Own.alloc) | (with_reducible apply Own.drew) | (with_reducible apply own_draw) | (with_reducible apply own_seq))), (by repeat (first | exact (own_swap HOD.out (by simp) (by simp <;> omega)).lower (by simp <;> omega) | (with_reducible apply Own.alloc) | (with_reducible apply Own.drew) | (with_reducible apply own_draw) | (with_reducible apply own_seq))), (by repeat (first | exact More.refl _ | apply More.plus | apply More.alloc | apply More.drew | apply More.drewN))⟩
    ·
      have q1 : w.heap.size < w.heap.size + 1 + 1 + (xc.n + x5.n + x6.n) := by omega
      have q2 : w.heap.size + 1 < w.heap.size + 1 + 1 + (xc.n + x5.n + x6.n) := by omega
      have q3 : w.heap.size + 1 < w.heap.size + 1 + 1 := by omega
      go_wp2_with fail
      go_region_o
      go_wp2_with fail
      refine bodyPost_ret (v := .tuple #[.agg #[.int .i64 o, .int .i64 l, .int .i64 m, .slice pa R.ps.length pc, .int .i64 b, .int .i64 R.last, .slice ca R.C.length cc, .slice da R.D.length dc, .int .i64 R.e, .int .i64 R.p], .int .i64 (((R.p : Int) + 7) / 8)]) (by simp [results, Try.results61, go_sem, ↓IntWalk.iteOmega]) rfl ?_
      exact ⟨pa, pc, ca, cc, da, dc, by rw [HU.out], (by repeat (first | exact (own_swap HOC.out (by simp) (by simp <;> omega)).lower (by simp <;> omega) | (with_reducible apply Own.alloc) | (with_reducible apply Own.drew) | (with_reducible apply own_draw) | (with_reducible apply own_seq))), (by repeat (first | exact (own_swap HOD.out (by simp) (by simp <;> omega)).lower (by simp <;> omega) | (with_reducible apply Own.alloc) | (with_reducible apply Own.drew) | (with_reducible apply own_draw) | (with_reducible apply own_seq))), (by repeat (first | exact More.refl _ | apply More.plus | apply More.alloc | apply More.drew | apply More.drewN))⟩
    ·
      have q1 : w.heap.size < w.heap.size + 1 + 1 + (xc.n + x5.n) := by omega
      have q2 : w.heap.size + 1 < w.heap.size + 1 + 1 + (xc.n + x5.n) := by omega
      have q3 : w.heap.size + 1 < w.heap.size + 1 + 1 := by omega
      go_wp2_with fail
      go_region_o
      go_wp2_with fail
      refine bodyPost_ret (v := .tuple #[.agg #[.int .i64 o, .int .i64 l, .int .i64 m, .slice pa R.ps.length pc, .int .i64 b, .int .i64 R.last, .slice ca R.C.length cc, .slice da R.D.length dc, .int .i64 R.e, .int .i64 R.p], .int .i64 (((R.p : Int) + 7) / 8)]) (by simp [results, Try.results61, go_sem, ↓IntWalk.iteOmega]) rfl ?_
      exact ⟨pa, pc, ca, cc, da, dc, by rw [HU.out], (by repeat (first | exact (own_swap HOC.out (by simp) (by simp <;> omega)).lower (by simp <;> omega) | (with_reducible apply Own.alloc) | (with_reducible apply Own.drew) | (with_reducible apply own_draw) | (with_reducible apply own_seq))), (by repeat (first | exact (own_swap HOD.out (by simp) (by simp <;> omega)).lower (by simp <;> omega) | (with_reducible apply Own.alloc) | (with_reducible apply Own.drew) | (with_reducible apply own_draw) | (with_reducible apply own_seq))), (by repeat (first | exact More.refl _ | apply More.plus | apply More.alloc | apply More.drew | apply More.drewN))⟩

end Go.Proofs.Ytibfkfinghcpaaa
