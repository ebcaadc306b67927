/- The walks of WriterValid, of the program and of the reference. -/
import Derived.Test.YtmenpflcmpihpaaGe
namespace Go.Proofs.Ytmenpflcmpihpaa
open Go.RowKit
set_option linter.unusedVariables false
set_option linter.unusedSimpArgs false

/-- what a valid writer is, beside what it knows -/
def WV (l m : Int) (ps : List Pr) (last : Int) (sp sq : ByteArray) (bg : Bool) : Prop :=
  bitsB sq = true ∧ sq.size ≤ 7 ∧ (bg = false → sp.size = 0 ∧ sq.size = 0) ∧ (sp.size = 0 ∨ ∃ c, 0 ≤ c ∧ IsFnd l m ps last sp.data.toList c)

noncomputable def wvp (l m : Int) (ps : List Pr) (last : Int) (sp sq : ByteArray) (bg : Bool) : Bool := @decide (WV l m ps last sp sq bg) (Classical.propDecidable _)

theorem wvp_yes {l m : Int} {ps : List Pr} {last : Int} {sp sq : ByteArray} {bg : Bool} (h : WV l m ps last sp sq bg) : wvp l m ps last sp sq bg = true := by simp [wvp, h]

theorem wvp_no {l m : Int} {ps : List Pr} {last : Int} {sp sq : ByteArray} {bg : Bool} (h : ¬ WV l m ps last sp sq bg) : wvp l m ps last sp sq bg = false := by simp [wvp, h]

/-- a valid writer -/
noncomputable def wvb (o l m : Int) (ps : List Pr) (base last : Int) (sp sq : ByteArray) (bg : Bool) : Bool := kvb o l m ps base last && (dfB o l m sp && wvp l m ps last sp sq bg)

set_option maxHeartbeats 2000000 in
theorem implWriterValid_any (o l m : Int) (a : Option Addr) (cap : Nat) (ps : List Pr) (base last : Int) (sp sq : ByteArray) (bg : Bool) (w : World) (hr : RdP w a cap ps) (hs1 : sp.size ≤ maxLen) (hs2 : sq.size ≤ maxLen) :
    Calls Try.prog 92 #[.agg #[.int .i64 o, .int .i64 l, .int .i64 m, .slice a ps.length cap, .int .i64 base, .int .i64 last, .string sp, .string sq, .bool bg]] w (Ret w (.bool (wvb o l m ps base last sp sq bg))) := by
  have hz1 := hs1
  have hz2 := hs2
  unfold maxLen at hz1 hz2
  have he1 := isEmpty_size sp
  have he2 := isEmpty_size sq
  cases hk : kvb o l m ps base last
  · rw [show wvb o l m ps base last sp sq bg = false from by unfold wvb; rw [hk]; rfl]
    clear he1 he2
    go_enter Try.func92, Try.ntmps92
    go_wp2_with (first | (go_at_call 61; refine (KnownValid_any _ _ _ _ _ _ _ _ _ (by repeat (first | exact hr | apply rd_seq | apply Rd.plus | apply Rd.alloc | apply Rd.drew | apply Rd.drewN | refine rd_patch ?_ _ _ (by intro A hA; first | (cases hA; show _ ≠ _; omega) | (have := hal A hA; omega))))).mono ?_; rintro e w' ⟨rfl, xc, rfl⟩))
    go_ret
    exact Ret.mk (by repeat (first | exact More.refl _ | apply More.plus | apply More.alloc | apply More.drew | apply More.drewN))
  have hkv := kvb_iff.1 hk
  cases hd : dfB o l m sp
  · rw [show wvb o l m ps base last sp sq bg = false from by unfold wvb; rw [hk, hd]; rfl]
    clear he1 he2 hkv
    go_enter Try.func92, Try.ntmps92
    go_wp2_with (first | (go_at_call 61; refine (KnownValid_any _ _ _ _ _ _ _ _ _ (by repeat (first | exact hr | apply rd_seq | apply Rd.plus | apply Rd.alloc | apply Rd.drew | apply Rd.drewN | refine rd_patch ?_ _ _ (by intro A hA; first | (cases hA; show _ ≠ _; omega) | (have := hal A hA; omega))))).mono ?_; rintro e w' ⟨rfl, xc, rfl⟩) | (go_at_call 62; refine (DataFits_any _ _ _ _ _ hs1).mono ?_; rintro e w' ⟨rfl, xc, rfl⟩))
    go_ret
    exact Ret.mk (by repeat (first | exact More.refl _ | apply More.plus | apply More.alloc | apply More.drew | apply More.drewN))
  have hw : wvb o l m ps base last sp sq bg = wvp l m ps last sp sq bg := by unfold wvb; rw [hk, hd]; rfl
  rw [hw]
  clear hw
  cases hb : bitsB sq
  · rw [show wvp l m ps last sp sq bg = false from wvp_no fun h => by have := h.1; rw [hb] at this; cases this]
    clear he1 he2 hkv
    go_enter Try.func92, Try.ntmps92
    go_wp2_with (first | (go_at_call 61; refine (KnownValid_any _ _ _ _ _ _ _ _ _ (by repeat (first | exact hr | apply rd_seq | apply Rd.plus | apply Rd.alloc | apply Rd.drew | apply Rd.drewN | refine rd_patch ?_ _ _ (by intro A hA; first | (cases hA; show _ ≠ _; omega) | (have := hal A hA; omega))))).mono ?_; rintro e w' ⟨rfl, xc, rfl⟩) | (go_at_call 62; refine (DataFits_any _ _ _ _ _ hs1).mono ?_; rintro e w' ⟨rfl, xc, rfl⟩) | (go_at_call 133; refine (BitsValid_any _ _ hs2).mono ?_; rintro e w' ⟨rfl, xc, rfl⟩))
    go_ret
    exact Ret.mk (by repeat (first | exact More.refl _ | apply More.plus | apply More.alloc | apply More.drew | apply More.drewN))
  by_cases h8 : sq.size ≤ 7
  case neg =>
    rw [show wvp l m ps last sp sq bg = false from wvp_no fun h => h8 h.2.1]
    clear he1 he2 hkv
    go_enter Try.func92, Try.ntmps92
    go_wp2_with (first | (go_at_call 61; refine (KnownValid_any _ _ _ _ _ _ _ _ _ (by repeat (first | exact hr | apply rd_seq | apply Rd.plus | apply Rd.alloc | apply Rd.drew | apply Rd.drewN | refine rd_patch ?_ _ _ (by intro A hA; first | (cases hA; show _ ≠ _; omega) | (have := hal A hA; omega))))).mono ?_; rintro e w' ⟨rfl, xc, rfl⟩) | (go_at_call 62; refine (DataFits_any _ _ _ _ _ hs1).mono ?_; rintro e w' ⟨rfl, xc, rfl⟩) | (go_at_call 133; refine (BitsValid_any _ _ hs2).mono ?_; rintro e w' ⟨rfl, xc, rfl⟩))
    go_ret
    exact Ret.mk (by repeat (first | exact More.refl _ | apply More.plus | apply More.alloc | apply More.drew | apply More.drewN))
  cases bg
  · rcases dec (sp.size = 0) with ⟨u1, v1⟩ | ⟨u1, v1⟩ <;> rcases dec (sq.size = 0) with ⟨u2, v2⟩ | ⟨u2, v2⟩
    all_goals
      rw [v1] at he1
      rw [v2] at he2
      first | rw [show wvp l m ps last sp sq false = true from wvp_yes ⟨hb, h8, fun _ => ⟨u1, u2⟩, .inl u1⟩] | rw [show wvp l m ps last sp sq false = false from wvp_no fun h => by have := h.2.2.1 rfl; omega]
      clear u1 u2 v1 v2 hkv
      go_enter Try.func92, Try.ntmps92
      go_wp2_with (first | (go_at_call 61; refine (KnownValid_any _ _ _ _ _ _ _ _ _ (by repeat (first | exact hr | apply rd_seq | apply Rd.plus | apply Rd.alloc | apply Rd.drew | apply Rd.drewN | refine rd_patch ?_ _ _ (by intro A hA; first | (cases hA; show _ ≠ _; omega) | (have := hal A hA; omega))))).mono ?_; rintro e w' ⟨rfl, xc, rfl⟩) | (go_at_call 62; refine (DataFits_any _ _ _ _ _ hs1).mono ?_; rintro e w' ⟨rfl, xc, rfl⟩) | (go_at_call 133; refine (BitsValid_any _ _ hs2).mono ?_; rintro e w' ⟨rfl, xc, rfl⟩))
      go_ret
      exact Ret.mk (by repeat (first | exact More.refl _ | apply More.plus | apply More.alloc | apply More.drew | apply More.drewN))
  · rcases dec (sp.size = 0) with ⟨u1, v1⟩ | ⟨u1, v1⟩
    · rw [v1] at he1
      rw [show wvp l m ps last sp sq true = true from wvp_yes ⟨hb, h8, fun h => (by cases h), .inl u1⟩]
      clear u1 v1 hkv he2
      go_enter Try.func92, Try.ntmps92
      go_wp2_with (first | (go_at_call 61; refine (KnownValid_any _ _ _ _ _ _ _ _ _ (by repeat (first | exact hr | apply rd_seq | apply Rd.plus | apply Rd.alloc | apply Rd.drew | apply Rd.drewN | refine rd_patch ?_ _ _ (by intro A hA; first | (cases hA; show _ ≠ _; omega) | (have := hal A hA; omega))))).mono ?_; rintro e w' ⟨rfl, xc, rfl⟩) | (go_at_call 62; refine (DataFits_any _ _ _ _ _ hs1).mono ?_; rintro e w' ⟨rfl, xc, rfl⟩) | (go_at_call 133; refine (BitsValid_any _ _ hs2).mono ?_; rintro e w' ⟨rfl, xc, rfl⟩))
      go_ret
      exact Ret.mk (by repeat (first | exact More.refl _ | apply More.plus | apply More.alloc | apply More.drew | apply More.drewN))
    · rw [v1] at he1
      obtain ⟨l1, l2, m2, lm, t1, t2, t4, t3⟩ := hkv.lim.bds
      obtain ⟨c, hc⟩ := fnd_ex l m ps last sp.data.toList t1
      have HC := Lib.hid hc
      have HV := Lib.hid hkv
      have hcc : c = -1 ∨ 0 ≤ c := by
        rcases hc with ⟨h, _⟩ | ⟨h, _⟩
        · exact .inl h
        · exact .inr (h.nonneg t1)
      rcases hcc with rfl | hcp
      · rw [show wvp l m ps last sp sq true = false from wvp_no fun h => by
          rcases h.2.2.2 with h | ⟨c', h1, h2⟩
          · exact u1 h
          · have := h2.eq hc; omega]
        clear u1 v1 hkv he2 hc
        have v1 : decide ((0 : Int) ≤ -1) = false := by decide
        have hcv := codeV_no
        go_enter Try.func92, Try.ntmps92
        go_wp2_with (first | (go_at_call 61; refine (KnownValid_any _ _ _ _ _ _ _ _ _ (by repeat (first | exact hr | apply rd_seq | apply Rd.plus | apply Rd.alloc | apply Rd.drew | apply Rd.drewN | refine rd_patch ?_ _ _ (by intro A hA; first | (cases hA; show _ ≠ _; omega) | (have := hal A hA; omega))))).mono ?_; rintro e w' ⟨rfl, xc, rfl⟩) | (go_at_call 62; refine (DataFits_any _ _ _ _ _ hs1).mono ?_; rintro e w' ⟨rfl, xc, rfl⟩) | (go_at_call 133; refine (BitsValid_any _ _ hs2).mono ?_; rintro e w' ⟨rfl, xc, rfl⟩) | (go_at_call 143; refine (implCodeOfWord_yes _ _ _ _ _ _ _ _ _ _ (by repeat (first | exact hr | apply rd_seq | apply Rd.plus | apply Rd.alloc | apply Rd.drew | apply Rd.drewN | refine rd_patch ?_ _ _ (by intro A hA; first | (cases hA; show _ ≠ _; omega) | (have := hal A hA; omega)))) hk hs1 _ HC.out).mono ?_; rintro e w' ⟨rfl, xc, rfl⟩))
        go_ret
        exact Ret.mk (by repeat (first | exact More.refl _ | apply More.plus | apply More.alloc | apply More.drew | apply More.drewN))
      · rw [show wvp l m ps last sp sq true = true from wvp_yes ⟨hb, h8, fun h => (by cases h), .inr ⟨c, hcp, hc⟩⟩]
        have v2 : decide ((0 : Int) ≤ c) = true := decide_eq_true hcp
        clear u1 v1 hkv he2 hc
        have hcv := codeV_yes hcp
        go_enter Try.func92, Try.ntmps92
        go_wp2_with (first | (go_at_call 61; refine (KnownValid_any _ _ _ _ _ _ _ _ _ (by repeat (first | exact hr | apply rd_seq | apply Rd.plus | apply Rd.alloc | apply Rd.drew | apply Rd.drewN | refine rd_patch ?_ _ _ (by intro A hA; first | (cases hA; show _ ≠ _; omega) | (have := hal A hA; omega))))).mono ?_; rintro e w' ⟨rfl, xc, rfl⟩) | (go_at_call 62; refine (DataFits_any _ _ _ _ _ hs1).mono ?_; rintro e w' ⟨rfl, xc, rfl⟩) | (go_at_call 133; refine (BitsValid_any _ _ hs2).mono ?_; rintro e w' ⟨rfl, xc, rfl⟩) | (go_at_call 143; refine (implCodeOfWord_yes _ _ _ _ _ _ _ _ _ _ (by repeat (first | exact hr | apply rd_seq | apply Rd.plus | apply Rd.alloc | apply Rd.drew | apply Rd.drewN | refine rd_patch ?_ _ _ (by intro A hA; first | (cases hA; show _ ≠ _; omega) | (have := hal A hA; omega)))) hk hs1 _ HC.out).mono ?_; rintro e w' ⟨rfl, xc, rfl⟩))
        go_ret
        exact Ret.mk (by repeat (first | exact More.refl _ | apply More.plus | apply More.alloc | apply More.drew | apply More.drewN))

set_option maxHeartbeats 2000000 in
theorem specWriterValid_any (o l m : Int) (a : Option Addr) (cap : Nat) (ps : List Pr) (base last : Int) (sp sq : ByteArray) (bg : Bool) (w : World) (hr : RdP w a cap ps) (hs1 : sp.size ≤ maxLen) (hs2 : sq.size ≤ maxLen) :
    Calls Try.prog 88 #[.agg #[.int .i64 o, .int .i64 l, .int .i64 m, .slice a ps.length cap, .int .i64 base, .int .i64 last, .string sp, .string sq, .bool bg]] w (Ret w (.bool (wvb o l m ps base last sp sq bg))) := by
  have hz1 := hs1
  have hz2 := hs2
  unfold maxLen at hz1 hz2
  have he1 := isEmpty_size sp
  have he2 := isEmpty_size sq
  cases hk : kvb o l m ps base last
  · rw [show wvb o l m ps base last sp sq bg = false from by unfold wvb; rw [hk]; rfl]
    clear he1 he2
    go_enter Try.func88, Try.ntmps88
    go_wp2_with (first | (go_at_call 57; refine (specKnownValid_any _ _ _ _ _ _ _ _ _ (by repeat (first | exact hr | apply rd_seq | apply Rd.plus | apply Rd.alloc | apply Rd.drew | apply Rd.drewN | refine rd_patch ?_ _ _ (by intro A hA; first | (cases hA; show _ ≠ _; omega) | (have := hal A hA; omega))))).mono ?_; rintro e w' ⟨rfl, xc, rfl⟩))
    go_ret
    exact Ret.mk (by repeat (first | exact More.refl _ | apply More.plus | apply More.alloc | apply More.drew | apply More.drewN))
  have hkv := kvb_iff.1 hk
  cases hd : dfB o l m sp
  · rw [show wvb o l m ps base last sp sq bg = false from by unfold wvb; rw [hk, hd]; rfl]
    clear he1 he2 hkv
    go_enter Try.func88, Try.ntmps88
    go_wp2_with (first | (go_at_call 57; refine (specKnownValid_any _ _ _ _ _ _ _ _ _ (by repeat (first | exact hr | apply rd_seq | apply Rd.plus | apply Rd.alloc | apply Rd.drew | apply Rd.drewN | refine rd_patch ?_ _ _ (by intro A hA; first | (cases hA; show _ ≠ _; omega) | (have := hal A hA; omega))))).mono ?_; rintro e w' ⟨rfl, xc, rfl⟩) | (go_at_call 58; refine (specDataFits_any _ _ _ _ _ hs1).mono ?_; rintro e w' ⟨rfl, xc, rfl⟩))
    go_ret
    exact Ret.mk (by repeat (first | exact More.refl _ | apply More.plus | apply More.alloc | apply More.drew | apply More.drewN))
  have hw : wvb o l m ps base last sp sq bg = wvp l m ps last sp sq bg := by unfold wvb; rw [hk, hd]; rfl
  rw [hw]
  clear hw
  cases hb : bitsB sq
  · rw [show wvp l m ps last sp sq bg = false from wvp_no fun h => by have := h.1; rw [hb] at this; cases this]
    clear he1 he2 hkv
    go_enter Try.func88, Try.ntmps88
    go_wp2_with (first | (go_at_call 57; refine (specKnownValid_any _ _ _ _ _ _ _ _ _ (by repeat (first | exact hr | apply rd_seq | apply Rd.plus | apply Rd.alloc | apply Rd.drew | apply Rd.drewN | refine rd_patch ?_ _ _ (by intro A hA; first | (cases hA; show _ ≠ _; omega) | (have := hal A hA; omega))))).mono ?_; rintro e w' ⟨rfl, xc, rfl⟩) | (go_at_call 58; refine (specDataFits_any _ _ _ _ _ hs1).mono ?_; rintro e w' ⟨rfl, xc, rfl⟩) | (go_at_call 142; refine (specBitsValid_any _ _ hs2).mono ?_; rintro e w' ⟨rfl, xc, rfl⟩))
    go_ret
    exact Ret.mk (by repeat (first | exact More.refl _ | apply More.plus | apply More.alloc | apply More.drew | apply More.drewN))
  by_cases h8 : sq.size ≤ 7
  case neg =>
    rw [show wvp l m ps last sp sq bg = false from wvp_no fun h => h8 h.2.1]
    clear he1 he2 hkv
    go_enter Try.func88, Try.ntmps88
    go_wp2_with (first | (go_at_call 57; refine (specKnownValid_any _ _ _ _ _ _ _ _ _ (by repeat (first | exact hr | apply rd_seq | apply Rd.plus | apply Rd.alloc | apply Rd.drew | apply Rd.drewN | refine rd_patch ?_ _ _ (by intro A hA; first | (cases hA; show _ ≠ _; omega) | (have := hal A hA; omega))))).mono ?_; rintro e w' ⟨rfl, xc, rfl⟩) | (go_at_call 58; refine (specDataFits_any _ _ _ _ _ hs1).mono ?_; rintro e w' ⟨rfl, xc, rfl⟩) | (go_at_call 142; refine (specBitsValid_any _ _ hs2).mono ?_; rintro e w' ⟨rfl, xc, rfl⟩))
    go_ret
    exact Ret.mk (by repeat (first | exact More.refl _ | apply More.plus | apply More.alloc | apply More.drew | apply More.drewN))
  cases bg
  · rcases dec (sp.size = 0) with ⟨u1, v1⟩ | ⟨u1, v1⟩ <;> rcases dec (sq.size = 0) with ⟨u2, v2⟩ | ⟨u2, v2⟩
    all_goals
      rw [v1] at he1
      rw [v2] at he2
      first | rw [show wvp l m ps last sp sq false = true from wvp_yes ⟨hb, h8, fun _ => ⟨u1, u2⟩, .inl u1⟩] | rw [show wvp l m ps last sp sq false = false from wvp_no fun h => by have := h.2.2.1 rfl; omega]
      clear u1 u2 v1 v2 hkv
      go_enter Try.func88, Try.ntmps88
      go_wp2_with (first | (go_at_call 57; refine (specKnownValid_any _ _ _ _ _ _ _ _ _ (by repeat (first | exact hr | apply rd_seq | apply Rd.plus | apply Rd.alloc | apply Rd.drew | apply Rd.drewN | refine rd_patch ?_ _ _ (by intro A hA; first | (cases hA; show _ ≠ _; omega) | (have := hal A hA; omega))))).mono ?_; rintro e w' ⟨rfl, xc, rfl⟩) | (go_at_call 58; refine (specDataFits_any _ _ _ _ _ hs1).mono ?_; rintro e w' ⟨rfl, xc, rfl⟩) | (go_at_call 142; refine (specBitsValid_any _ _ hs2).mono ?_; rintro e w' ⟨rfl, xc, rfl⟩))
      go_ret
      exact Ret.mk (by repeat (first | exact More.refl _ | apply More.plus | apply More.alloc | apply More.drew | apply More.drewN))
  · rcases dec (sp.size = 0) with ⟨u1, v1⟩ | ⟨u1, v1⟩
    · rw [v1] at he1
      rw [show wvp l m ps last sp sq true = true from wvp_yes ⟨hb, h8, fun h => (by cases h), .inl u1⟩]
      clear u1 v1 hkv he2
      go_enter Try.func88, Try.ntmps88
      go_wp2_with (first | (go_at_call 57; refine (specKnownValid_any _ _ _ _ _ _ _ _ _ (by repeat (first | exact hr | apply rd_seq | apply Rd.plus | apply Rd.alloc | apply Rd.drew | apply Rd.drewN | refine rd_patch ?_ _ _ (by intro A hA; first | (cases hA; show _ ≠ _; omega) | (have := hal A hA; omega))))).mono ?_; rintro e w' ⟨rfl, xc, rfl⟩) | (go_at_call 58; refine (specDataFits_any _ _ _ _ _ hs1).mono ?_; rintro e w' ⟨rfl, xc, rfl⟩) | (go_at_call 142; refine (specBitsValid_any _ _ hs2).mono ?_; rintro e w' ⟨rfl, xc, rfl⟩))
      go_ret
      exact Ret.mk (by repeat (first | exact More.refl _ | apply More.plus | apply More.alloc | apply More.drew | apply More.drewN))
    · rw [v1] at he1
      obtain ⟨l1, l2, m2, lm, t1, t2, t4, t3⟩ := hkv.lim.bds
      obtain ⟨c, hc⟩ := fnd_ex l m ps last sp.data.toList t1
      have HC := Lib.hid hc
      have HV := Lib.hid hkv
      have hcc : c = -1 ∨ 0 ≤ c := by
        rcases hc with ⟨h, _⟩ | ⟨h, _⟩
        · exact .inl h
        · exact .inr (h.nonneg t1)
      rcases hcc with rfl | hcp
      · rw [show wvp l m ps last sp sq true = false from wvp_no fun h => by
          rcases h.2.2.2 with h | ⟨c', h1, h2⟩
          · exact u1 h
          · have := h2.eq hc; omega]
        clear u1 v1 hkv he2 hc
        have v1 : decide ((0 : Int) ≤ -1) = false := by decide
        go_enter Try.func88, Try.ntmps88
        go_wp2_with (first | (go_at_call 57; refine (specKnownValid_any _ _ _ _ _ _ _ _ _ (by repeat (first | exact hr | apply rd_seq | apply Rd.plus | apply Rd.alloc | apply Rd.drew | apply Rd.drewN | refine rd_patch ?_ _ _ (by intro A hA; first | (cases hA; show _ ≠ _; omega) | (have := hal A hA; omega))))).mono ?_; rintro e w' ⟨rfl, xc, rfl⟩) | (go_at_call 58; refine (specDataFits_any _ _ _ _ _ hs1).mono ?_; rintro e w' ⟨rfl, xc, rfl⟩) | (go_at_call 142; refine (specBitsValid_any _ _ hs2).mono ?_; rintro e w' ⟨rfl, xc, rfl⟩) | (go_at_call 91; refine (l2Find_any _ _ _ _ _ _ _ _ _ _ (by repeat (first | exact hr | apply rd_seq | apply Rd.plus | apply Rd.alloc | apply Rd.drew | apply Rd.drewN | refine rd_patch ?_ _ _ (by intro A hA; first | (cases hA; show _ ≠ _; omega) | (have := hal A hA; omega)))) HV.out hs1 _ HC.out).mono ?_; rintro e w' ⟨rfl, xc, rfl⟩))
        go_ret
        exact Ret.mk (by repeat (first | exact More.refl _ | apply More.plus | apply More.alloc | apply More.drew | apply More.drewN))
      · rw [show wvp l m ps last sp sq true = true from wvp_yes ⟨hb, h8, fun h => (by cases h), .inr ⟨c, hcp, hc⟩⟩]
        have v2 : decide ((0 : Int) ≤ c) = true := decide_eq_true hcp
        clear u1 v1 hkv he2 hc
        go_enter Try.func88, Try.ntmps88
        go_wp2_with (first | (go_at_call 57; refine (specKnownValid_any _ _ _ _ _ _ _ _ _ (by repeat (first | exact hr | apply rd_seq | apply Rd.plus | apply Rd.alloc | apply Rd.drew | apply Rd.drewN | refine rd_patch ?_ _ _ (by intro A hA; first | (cases hA; show _ ≠ _; omega) | (have := hal A hA; omega))))).mono ?_; rintro e w' ⟨rfl, xc, rfl⟩) | (go_at_call 58; refine (specDataFits_any _ _ _ _ _ hs1).mono ?_; rintro e w' ⟨rfl, xc, rfl⟩) | (go_at_call 142; refine (specBitsValid_any _ _ hs2).mono ?_; rintro e w' ⟨rfl, xc, rfl⟩) | (go_at_call 91; refine (l2Find_any _ _ _ _ _ _ _ _ _ _ (by repeat (first | exact hr | apply rd_seq | apply Rd.plus | apply Rd.alloc | apply Rd.drew | apply Rd.drewN | refine rd_patch ?_ _ _ (by intro A hA; first | (cases hA; show _ ≠ _; omega) | (have := hal A hA; omega)))) HV.out hs1 _ HC.out).mono ?_; rintro e w' ⟨rfl, xc, rfl⟩))
        go_ret
        exact Ret.mk (by repeat (first | exact More.refl _ | apply More.plus | apply More.alloc | apply More.drew | apply More.drewN))

end Go.Proofs.Ytmenpflcmpihpaa
