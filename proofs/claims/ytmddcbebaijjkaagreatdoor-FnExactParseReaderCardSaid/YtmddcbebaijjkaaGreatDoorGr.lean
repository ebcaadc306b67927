/- Lemmas and walks, part Gr. -/
import Derived.Test.YtmddcbebaijjkaaGreatDoorGc
import Derived.Test.YtmddcbebaijjkaaGreatDoorGb

/- Walks: ReaderValid and ReaderNeeds of the program and of the reference. -/
namespace Go.Proofs.YtmddcbebaijjkaaGreatDoor
open Go.RowKit
set_option linter.unusedVariables false
set_option linter.unusedSimpArgs false

/-- what a valid reader is, beside what it knows -/
structure RV (l m n last : Int) (s : ByteArray) (z c e : Int) : Prop where
  bits : bitsB s = true
  z0 : 0 ≤ z
  z1 : z ≤ 2000
  c0 : 0 ≤ c
  c1 : c ≤ 3100
  e : (e = 1 ∧ (s.size : Int) < wd l m n last ∧ c < 3100) ∨ ((e = 0 ∨ e = 2 ∨ e = 3) ∧ s.size = 0)

noncomputable def rvb (l m n last : Int) (s : ByteArray) (z c e : Int) : Bool := @decide (RV l m n last s z c e) (Classical.propDecidable _)

theorem rvb_iff {l m n last : Int} {s : ByteArray} {z c e : Int} : rvb l m n last s z c e = true ↔ RV l m n last s z c e := by simp [rvb]

theorem rvb_no {l m n last : Int} {s : ByteArray} {z c e : Int} : rvb l m n last s z c e = false ↔ ¬ RV l m n last s z c e := by simp [rvb]

/-- a valid reader -/
noncomputable def rdb (o l m : Int) (ps : List Pr) (base last : Int) (s : ByteArray) (z c e : Int) : Bool := kvb o l m ps base last && rvb l m ps.length last s z c e

theorem ended_e {l m n last : Int} {s : ByteArray} {z c e : Int} (hb : bitsB s = true) (z0 : 0 ≤ z) (z1 : z ≤ 2000) (c0 : 0 ≤ c) (c1 : c ≤ 3100) (he : e = 0 ∨ e = 2 ∨ e = 3) :
    s.toList.isEmpty = rvb l m n last s z c e := by
  rw [isEmpty_size]
  by_cases h : s.size = 0
  · rw [rvb_iff.2 ⟨hb, z0, z1, c0, c1, .inr ⟨he, h⟩⟩]; simp [h]
  · rw [rvb_no.2 fun hh => by rcases hh.e with h1 | h1 <;> omega]; simp [h]

set_option maxHeartbeats 1000000 in
theorem ReaderValid_any (o l m : Int) (a : Option Addr) (cap : Nat) (ps : List Pr) (base last : Int) (s : ByteArray) (z c e : Int) (w : World) (hr : RdP w a cap ps) (hs : s.size ≤ maxLen) :
    Calls Tryz.prog 19 #[.agg #[.int .i64 o, .int .i64 l, .int .i64 m, .slice a ps.length cap, .int .i64 base, .int .i64 last, .string s, .int .i64 z, .int .i64 c, .int .i64 e]] w (Ret w (.bool (rdb o l m ps base last s z c e))) := by
  have hs' := hs
  unfold maxLen at hs'
  cases hk : kvb o l m ps base last
  · have e1 : rdb o l m ps base last s z c e = false := by unfold rdb; rw [hk]; rfl
    rw [e1]; clear e1
    go_enter Tryz.func19, Tryz.ntmps19
    go_wp2_with (go_at_call 24; refine (KnownValid_any _ _ _ _ _ _ _ _ _ (by repeat (first | exact hr | apply rd_seq | apply Rd.plus | apply Rd.alloc | apply Rd.drew | apply Rd.drewN | refine rd_patch ?_ _ _ (by intro A hA; first | (cases hA; show _ ≠ _; omega) | (have := hal A hA; omega))))).mono ?_; rintro e w' ⟨rfl, xc, rfl⟩)
    go_ret
    exact Ret.mk (by repeat (first | exact More.refl _ | apply More.plus | apply More.alloc | apply More.drew | apply More.drewN))
  have hkv := kvb_iff.1 hk
  have hlim := hkv.lim
  have hlen := kv_len hk
  have e1 : rdb o l m ps base last s z c e = rvb l m ps.length last s z c e := by unfold rdb; rw [hk]; rfl
  rw [e1]; clear e1
  cases hb : bitsB s
  · have e1 : rvb l m ps.length last s z c e = false := rvb_no.2 fun h => by have := h.bits; rw [hb] at this; cases this
    rw [e1]; clear e1
    go_enter Tryz.func19, Tryz.ntmps19
    go_wp2_with (first | (go_at_call 24; refine (KnownValid_any _ _ _ _ _ _ _ _ _ (by repeat (first | exact hr | apply rd_seq | apply Rd.plus | apply Rd.alloc | apply Rd.drew | apply Rd.drewN | refine rd_patch ?_ _ _ (by intro A hA; first | (cases hA; show _ ≠ _; omega) | (have := hal A hA; omega))))).mono ?_; rintro e w' ⟨rfl, xc, rfl⟩) | (go_at_call 57; refine (BitsValid_any _ _ hs).mono ?_; rintro e w' ⟨rfl, xc, rfl⟩))
    go_ret
    exact Ret.mk (by repeat (first | exact More.refl _ | apply More.plus | apply More.alloc | apply More.drew | apply More.drewN))
  by_cases hin : 0 ≤ z ∧ z ≤ 2000 ∧ 0 ≤ c ∧ c ≤ 3100
  · obtain ⟨z0, z1, c0, c1⟩ := hin
    have hn : ps.length ≤ 1000000 := by omega
    have hw := need_bd (gt l m ps.length last)
    rcases (by omega : e = 1 ∨ e = 0 ∨ e = 2 ∨ e = 3 ∨ (e ≠ 1 ∧ e ≠ 0 ∧ e ≠ 2 ∧ e ≠ 3)) with rfl | rfl | rfl | rfl | ⟨n1, n0, n2, n3⟩
    · rcases dec ((s.size : Int) < wd l m ps.length last) with ⟨u1, v1⟩ | ⟨u1, v1⟩
      all_goals
        have HU := Lib.hid u1
        clear u1
        go_enter Tryz.func19, Tryz.ntmps19
        go_wp2_with (first | (go_at_call 24; refine (KnownValid_any _ _ _ _ _ _ _ _ _ (by repeat (first | exact hr | apply rd_seq | apply Rd.plus | apply Rd.alloc | apply Rd.drew | apply Rd.drewN | refine rd_patch ?_ _ _ (by intro A hA; first | (cases hA; show _ ≠ _; omega) | (have := hal A hA; omega))))).mono ?_; rintro e w' ⟨rfl, xc, rfl⟩) | (go_at_call 57; refine (BitsValid_any _ _ hs).mono ?_; rintro e w' ⟨rfl, xc, rfl⟩))
        (refine wp_region_calm (by kernel_rfl) (by kernel_rfl) ?_
         repeat (first | go_big_quiet_skip | (go_big_quiet_want; go_big_quiet_op; first | go_big_quiet_on | (apply Exists.intro; refine ⟨fun _ => ?_, ?_⟩; (focus ((first | (go_at_call 58; first | refine calm_of (width_any _ _ _ _ _ _ _ _ _ hlim hn) | refine calm_seq (width_any _ _ _ _ _ _ _ _ _ hlim hn))))); go_big_quiet_on)))
         refine wpQuiet_nil ?_
         intro _ hw'
         obtain ⟨xq, hw''⟩ := hw'
         subst hw'')
        go_wp2
        go_ret
        refine ret_of (bool_ret ?_) (by repeat (first | exact More.refl _ | apply More.plus | apply More.alloc | apply More.drew | apply More.drewN))
        have hu := HU.out
        by_cases hc : c < 3100
        all_goals first | (refine (Eq.trans ?_ (rvb_iff.2 ⟨hb, z0, z1, c0, c1, .inl ⟨rfl, hu, hc⟩⟩).symm); simp; omega) | (refine (Eq.trans ?_ (rvb_no.2 fun h => by rcases h.e with h1 | h1 <;> omega).symm); simp; omega) | (refine (Eq.trans ?_ (rvb_no.2 fun h => by rcases h.e with h1 | h1 <;> omega).symm); rfl)
    · go_enter Tryz.func19, Tryz.ntmps19
      go_wp2_with (first | (go_at_call 24; refine (KnownValid_any _ _ _ _ _ _ _ _ _ (by repeat (first | exact hr | apply rd_seq | apply Rd.plus | apply Rd.alloc | apply Rd.drew | apply Rd.drewN | refine rd_patch ?_ _ _ (by intro A hA; first | (cases hA; show _ ≠ _; omega) | (have := hal A hA; omega))))).mono ?_; rintro e w' ⟨rfl, xc, rfl⟩) | (go_at_call 57; refine (BitsValid_any _ _ hs).mono ?_; rintro e w' ⟨rfl, xc, rfl⟩))
      go_ret
      exact ret_of (bool_ret (ended_e hb z0 z1 c0 c1 (by omega))) (by repeat (first | exact More.refl _ | apply More.plus | apply More.alloc | apply More.drew | apply More.drewN))
    · go_enter Tryz.func19, Tryz.ntmps19
      go_wp2_with (first | (go_at_call 24; refine (KnownValid_any _ _ _ _ _ _ _ _ _ (by repeat (first | exact hr | apply rd_seq | apply Rd.plus | apply Rd.alloc | apply Rd.drew | apply Rd.drewN | refine rd_patch ?_ _ _ (by intro A hA; first | (cases hA; show _ ≠ _; omega) | (have := hal A hA; omega))))).mono ?_; rintro e w' ⟨rfl, xc, rfl⟩) | (go_at_call 57; refine (BitsValid_any _ _ hs).mono ?_; rintro e w' ⟨rfl, xc, rfl⟩))
      go_ret
      exact ret_of (bool_ret (ended_e hb z0 z1 c0 c1 (by omega))) (by repeat (first | exact More.refl _ | apply More.plus | apply More.alloc | apply More.drew | apply More.drewN))
    · go_enter Tryz.func19, Tryz.ntmps19
      go_wp2_with (first | (go_at_call 24; refine (KnownValid_any _ _ _ _ _ _ _ _ _ (by repeat (first | exact hr | apply rd_seq | apply Rd.plus | apply Rd.alloc | apply Rd.drew | apply Rd.drewN | refine rd_patch ?_ _ _ (by intro A hA; first | (cases hA; show _ ≠ _; omega) | (have := hal A hA; omega))))).mono ?_; rintro e w' ⟨rfl, xc, rfl⟩) | (go_at_call 57; refine (BitsValid_any _ _ hs).mono ?_; rintro e w' ⟨rfl, xc, rfl⟩))
      go_ret
      exact ret_of (bool_ret (ended_e hb z0 z1 c0 c1 (by omega))) (by repeat (first | exact More.refl _ | apply More.plus | apply More.alloc | apply More.drew | apply More.drewN))
    · have b1 : (e == 1) = false := by simp [n1]
      have b0 : (e == 0) = false := by simp [n0]
      have b2 : (e == 2) = false := by simp [n2]
      have b3 : (e == 3) = false := by simp [n3]
      have e1 : rvb l m ps.length last s z c e = false := rvb_no.2 fun h => by rcases h.e with h1 | h1 <;> omega
      rw [e1]; clear e1
      go_enter Tryz.func19, Tryz.ntmps19
      go_wp2_with (first | (go_at_call 24; refine (KnownValid_any _ _ _ _ _ _ _ _ _ (by repeat (first | exact hr | apply rd_seq | apply Rd.plus | apply Rd.alloc | apply Rd.drew | apply Rd.drewN | refine rd_patch ?_ _ _ (by intro A hA; first | (cases hA; show _ ≠ _; omega) | (have := hal A hA; omega))))).mono ?_; rintro e w' ⟨rfl, xc, rfl⟩) | (go_at_call 57; refine (BitsValid_any _ _ hs).mono ?_; rintro e w' ⟨rfl, xc, rfl⟩))
      go_ret
      exact Ret.mk (by repeat (first | exact More.refl _ | apply More.plus | apply More.alloc | apply More.drew | apply More.drewN))
  · have e1 : rvb l m ps.length last s z c e = false := rvb_no.2 fun h => hin ⟨h.z0, h.z1, h.c0, h.c1⟩
    rw [e1]; clear e1
    rcases dec (z < 0) with ⟨u1, v1⟩ | ⟨u1, v1⟩ <;> rcases dec (2000 < z) with ⟨u2, v2⟩ | ⟨u2, v2⟩ <;> rcases dec (c < 0) with ⟨u3, v3⟩ | ⟨u3, v3⟩ <;> rcases dec (3100 < c) with ⟨u4, v4⟩ | ⟨u4, v4⟩
    all_goals try (exfalso; omega)
    all_goals
      clear hin
      go_enter Tryz.func19, Tryz.ntmps19
      go_wp2_with (first | (go_at_call 24; refine (KnownValid_any _ _ _ _ _ _ _ _ _ (by repeat (first | exact hr | apply rd_seq | apply Rd.plus | apply Rd.alloc | apply Rd.drew | apply Rd.drewN | refine rd_patch ?_ _ _ (by intro A hA; first | (cases hA; show _ ≠ _; omega) | (have := hal A hA; omega))))).mono ?_; rintro e w' ⟨rfl, xc, rfl⟩) | (go_at_call 57; refine (BitsValid_any _ _ hs).mono ?_; rintro e w' ⟨rfl, xc, rfl⟩))
      go_ret
      exact Ret.mk (by repeat (first | exact More.refl _ | apply More.plus | apply More.alloc | apply More.drew | apply More.drewN))

set_option maxHeartbeats 1000000 in
theorem specReaderValid_any (o l m : Int) (a : Option Addr) (cap : Nat) (ps : List Pr) (base last : Int) (s : ByteArray) (z c e : Int) (w : World) (hr : RdP w a cap ps) (hs : s.size ≤ maxLen) :
    Calls Tryz.prog 47 #[.agg #[.int .i64 o, .int .i64 l, .int .i64 m, .slice a ps.length cap, .int .i64 base, .int .i64 last, .string s, .int .i64 z, .int .i64 c, .int .i64 e]] w (Ret w (.bool (rdb o l m ps base last s z c e))) := by
  have hs' := hs
  unfold maxLen at hs'
  cases hk : kvb o l m ps base last
  · have e1 : rdb o l m ps base last s z c e = false := by unfold rdb; rw [hk]; rfl
    rw [e1]; clear e1
    go_enter Tryz.func47, Tryz.ntmps47
    go_wp2_with (go_at_call 62; refine (specKnownValid_any _ _ _ _ _ _ _ _ _ (by repeat (first | exact hr | apply rd_seq | apply Rd.plus | apply Rd.alloc | apply Rd.drew | apply Rd.drewN | refine rd_patch ?_ _ _ (by intro A hA; first | (cases hA; show _ ≠ _; omega) | (have := hal A hA; omega))))).mono ?_; rintro e w' ⟨rfl, xc, rfl⟩)
    go_ret
    exact Ret.mk (by repeat (first | exact More.refl _ | apply More.plus | apply More.alloc | apply More.drew | apply More.drewN))
  have hkv := kvb_iff.1 hk
  have hlim := hkv.lim
  have hlen := kv_len hk
  have e1 : rdb o l m ps base last s z c e = rvb l m ps.length last s z c e := by unfold rdb; rw [hk]; rfl
  rw [e1]; clear e1
  cases hb : bitsB s
  · have e1 : rvb l m ps.length last s z c e = false := rvb_no.2 fun h => by have := h.bits; rw [hb] at this; cases this
    rw [e1]; clear e1
    go_enter Tryz.func47, Tryz.ntmps47
    go_wp2_with (first | (go_at_call 62; refine (specKnownValid_any _ _ _ _ _ _ _ _ _ (by repeat (first | exact hr | apply rd_seq | apply Rd.plus | apply Rd.alloc | apply Rd.drew | apply Rd.drewN | refine rd_patch ?_ _ _ (by intro A hA; first | (cases hA; show _ ≠ _; omega) | (have := hal A hA; omega))))).mono ?_; rintro e w' ⟨rfl, xc, rfl⟩) | (go_at_call 92; refine (specBitsValid_any _ _ hs).mono ?_; rintro e w' ⟨rfl, xc, rfl⟩))
    go_ret
    exact Ret.mk (by repeat (first | exact More.refl _ | apply More.plus | apply More.alloc | apply More.drew | apply More.drewN))
  cases hz : inB 0 z 2000
  · have e1 : rvb l m ps.length last s z c e = false := rvb_no.2 fun h => inB_no.1 hz ⟨h.z0, h.z1⟩
    rw [e1]; clear e1
    go_enter Tryz.func47, Tryz.ntmps47
    go_wp2_with (first | (go_at_call 62; refine (specKnownValid_any _ _ _ _ _ _ _ _ _ (by repeat (first | exact hr | apply rd_seq | apply Rd.plus | apply Rd.alloc | apply Rd.drew | apply Rd.drewN | refine rd_patch ?_ _ _ (by intro A hA; first | (cases hA; show _ ≠ _; omega) | (have := hal A hA; omega))))).mono ?_; rintro e w' ⟨rfl, xc, rfl⟩) | (go_at_call 92; refine (specBitsValid_any _ _ hs).mono ?_; rintro e w' ⟨rfl, xc, rfl⟩) | (go_at_call 93; refine (l1In_any _ _ _ _).mono ?_; rintro e w' ⟨rfl, xc, rfl⟩))
    go_ret
    exact Ret.mk (by repeat (first | exact More.refl _ | apply More.plus | apply More.alloc | apply More.drew | apply More.drewN))
  cases hc : inB 0 c 3100
  · have e1 : rvb l m ps.length last s z c e = false := rvb_no.2 fun h => inB_no.1 hc ⟨h.c0, h.c1⟩
    rw [e1]; clear e1
    go_enter Tryz.func47, Tryz.ntmps47
    go_wp2_with (first | (go_at_call 62; refine (specKnownValid_any _ _ _ _ _ _ _ _ _ (by repeat (first | exact hr | apply rd_seq | apply Rd.plus | apply Rd.alloc | apply Rd.drew | apply Rd.drewN | refine rd_patch ?_ _ _ (by intro A hA; first | (cases hA; show _ ≠ _; omega) | (have := hal A hA; omega))))).mono ?_; rintro e w' ⟨rfl, xc, rfl⟩) | (go_at_call 92; refine (specBitsValid_any _ _ hs).mono ?_; rintro e w' ⟨rfl, xc, rfl⟩) | (go_at_call 93; refine (l1In_any _ _ _ _).mono ?_; rintro e w' ⟨rfl, xc, rfl⟩))
    go_ret
    exact Ret.mk (by repeat (first | exact More.refl _ | apply More.plus | apply More.alloc | apply More.drew | apply More.drewN))
  have hn : ps.length ≤ 1000000 := by omega
  have hw := need_bd (gt l m ps.length last)
  have HZ := Lib.hid (inB_iff.1 hz)
  have HC := Lib.hid (inB_iff.1 hc)
  by_cases h1 : e = 1
  · subst h1
    rcases dec ((s.size : Int) < wd l m ps.length last) with ⟨u1, v1⟩ | ⟨u1, v1⟩
    all_goals
      have HU := Lib.hid u1
      clear u1
      go_enter Tryz.func47, Tryz.ntmps47
      go_wp2_with (first | (go_at_call 62; refine (specKnownValid_any _ _ _ _ _ _ _ _ _ (by repeat (first | exact hr | apply rd_seq | apply Rd.plus | apply Rd.alloc | apply Rd.drew | apply Rd.drewN | refine rd_patch ?_ _ _ (by intro A hA; first | (cases hA; show _ ≠ _; omega) | (have := hal A hA; omega))))).mono ?_; rintro e w' ⟨rfl, xc, rfl⟩) | (go_at_call 92; refine (specBitsValid_any _ _ hs).mono ?_; rintro e w' ⟨rfl, xc, rfl⟩) | (go_at_call 93; refine (l1In_any _ _ _ _).mono ?_; rintro e w' ⟨rfl, xc, rfl⟩))
      (refine wp_region_calm (by kernel_rfl) (by kernel_rfl) ?_
       repeat (first | go_big_quiet_skip | (go_big_quiet_want; go_big_quiet_op; first | go_big_quiet_on | (apply Exists.intro; refine ⟨fun _ => ?_, ?_⟩; (focus ((first | (go_at_call 94; first | refine calm_of (l2Width_any _ _ _ _ _ _ _ _ _ hlim hn) | refine calm_seq (l2Width_any _ _ _ _ _ _ _ _ _ hlim hn))))); go_big_quiet_on)))
       refine wpQuiet_nil ?_
       intro _ hw'
       obtain ⟨xq, hw''⟩ := hw'
       subst hw'')
      go_wp2
      go_ret
      refine ret_of (bool_ret ?_) (by repeat (first | exact More.refl _ | apply More.plus | apply More.alloc | apply More.drew | apply More.drewN))
      have hu := HU.out
      obtain ⟨z0, z1⟩ := HZ.out
      obtain ⟨c0, c1⟩ := HC.out
      by_cases hc : c < 3100
      all_goals first | (refine (Eq.trans ?_ (rvb_iff.2 ⟨hb, z0, z1, c0, c1, .inl ⟨rfl, hu, hc⟩⟩).symm); simp; omega) | (refine (Eq.trans ?_ (rvb_no.2 fun h => by rcases h.e with h1 | h1 <;> omega).symm); simp; omega) | (refine (Eq.trans ?_ (rvb_no.2 fun h => by rcases h.e with h1 | h1 <;> omega).symm); rfl)
  · have b1 : (e == 1) = false := by simp [h1]
    have H1 := Lib.hid h1
    clear h1
    cases he : inB 0 e 3
    · have e1 : rvb l m ps.length last s z c e = false := rvb_no.2 fun h => by
        have := inB_no.1 he
        rcases h.e with h1 | h1 <;> omega
      rw [e1]; clear e1
      go_enter Tryz.func47, Tryz.ntmps47
      go_wp2_with (first | (go_at_call 62; refine (specKnownValid_any _ _ _ _ _ _ _ _ _ (by repeat (first | exact hr | apply rd_seq | apply Rd.plus | apply Rd.alloc | apply Rd.drew | apply Rd.drewN | refine rd_patch ?_ _ _ (by intro A hA; first | (cases hA; show _ ≠ _; omega) | (have := hal A hA; omega))))).mono ?_; rintro e w' ⟨rfl, xc, rfl⟩) | (go_at_call 92; refine (specBitsValid_any _ _ hs).mono ?_; rintro e w' ⟨rfl, xc, rfl⟩) | (go_at_call 93; refine (l1In_any _ _ _ _).mono ?_; rintro e w' ⟨rfl, xc, rfl⟩))
      go_ret
      exact Ret.mk (by repeat (first | exact More.refl _ | apply More.plus | apply More.alloc | apply More.drew | apply More.drewN))
    · go_enter Tryz.func47, Tryz.ntmps47
      go_wp2_with (first | (go_at_call 62; refine (specKnownValid_any _ _ _ _ _ _ _ _ _ (by repeat (first | exact hr | apply rd_seq | apply Rd.plus | apply Rd.alloc | apply Rd.drew | apply Rd.drewN | refine rd_patch ?_ _ _ (by intro A hA; first | (cases hA; show _ ≠ _; omega) | (have := hal A hA; omega))))).mono ?_; rintro e w' ⟨rfl, xc, rfl⟩) | (go_at_call 92; refine (specBitsValid_any _ _ hs).mono ?_; rintro e w' ⟨rfl, xc, rfl⟩) | (go_at_call 93; refine (l1In_any _ _ _ _).mono ?_; rintro e w' ⟨rfl, xc, rfl⟩))
      go_ret
      obtain ⟨z0, z1⟩ := HZ.out
      obtain ⟨c0, c1⟩ := HC.out
      have h1 := H1.out
      have h2 := inB_iff.1 he
      exact ret_of (bool_ret (ended_e hb z0 z1 c0 c1 (by omega))) (by repeat (first | exact More.refl _ | apply More.plus | apply More.alloc | apply More.drew | apply More.drewN))

end Go.Proofs.YtmddcbebaijjkaaGreatDoor

/- Walks: ReaderNeeds of the program and of the reference; the laws' sizes and copies of readers. -/
namespace Go.Proofs.YtmddcbebaijjkaaGreatDoor
open Go.RowKit
set_option linter.unusedVariables false
set_option linter.unusedSimpArgs false

theorem rdb_parts {o l m : Int} {ps : List Pr} {base last : Int} {s : ByteArray} {z c e : Int} (h : rdb o l m ps base last s z c e = true) : KV o l m ps base last ∧ RV l m ps.length last s z c e := by
  unfold rdb at h
  rw [Bool.and_eq_true] at h
  exact ⟨kvb_iff.1 h.1, rvb_iff.1 h.2⟩

end Go.Proofs.YtmddcbebaijjkaaGreatDoor
