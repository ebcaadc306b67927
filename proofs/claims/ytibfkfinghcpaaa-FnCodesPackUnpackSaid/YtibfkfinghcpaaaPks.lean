/- The walks of PackCodes where codes cannot follow, of l2All, and of the reference's PackCodes. -/
import Derived.Test.YtibfkfinghcpaaaPck
namespace Go.Proofs.Ytibfkfinghcpaaa
open Go.RowKit
set_option linter.unusedVariables false
set_option linter.unusedSimpArgs false

set_option maxRecDepth 100000 in
set_option maxHeartbeats 1000000 in
theorem walkCodes_no (o l m : Int) (a : Option Addr) (cap : Nat) (ps : List Pr) (base last : Int) (ia : Option Addr) (icap : Nat) (is : List Int) (w : World) (hr : RdP w a cap ps) (hil : is.length ≤ 9223372036854775807) (h : kvb o l m ps base last = false ∨ 3100 < is.length) :
    Calls Try.prog 73 #[.agg #[.int .i64 o, .int .i64 l, .int .i64 m, .slice a ps.length cap, .int .i64 base, .int .i64 last], .slice ia is.length icap] w (RetWk w none) := by
  have HRP := Lib.hid hr
  clear hr
  cases hk : kvb o l m ps base last
  · go_enter Try.func73, Try.ntmps73
    go_wp2_with (go_at_call 89; refine (KnownValid_any _ _ _ _ _ _ _ _ _ (by repeat (first | exact HRP.out | apply rd_seq | apply Rd.plus | apply Rd.alloc | apply Rd.drew | apply Rd.drewN | refine rd_patch ?_ _ _ (by intro A hA; first | (cases hA; show _ ≠ _; omega) | (have := hal A hA; omega))))).mono ?_; rintro e w' ⟨rfl, xc, rfl⟩)
    exact bodyPost_ret (v := .tuple #[.slice none 0 0, .string ⟨#[]⟩, .bool false]) (by simp [results, Try.results73, go_sem]) rfl ⟨rfl, (by repeat (first | exact More.refl _ | apply More.plus | apply More.alloc | apply More.drew | apply More.drewN))⟩
  · have hs : 3100 < is.length := by
      rcases h with h | h
      · rw [hk] at h; cases h
      · exact h
    have v1 : decide (3100 < is.length) = true := decide_eq_true hs
    go_enter Try.func73, Try.ntmps73
    go_wp2_with (go_at_call 89; refine (KnownValid_any _ _ _ _ _ _ _ _ _ (by repeat (first | exact HRP.out | apply rd_seq | apply Rd.plus | apply Rd.alloc | apply Rd.drew | apply Rd.drewN | refine rd_patch ?_ _ _ (by intro A hA; first | (cases hA; show _ ≠ _; omega) | (have := hal A hA; omega))))).mono ?_; rintro e w' ⟨rfl, xc, rfl⟩)
    exact bodyPost_ret (v := .tuple #[.slice none 0 0, .string ⟨#[]⟩, .bool false]) (by simp [results, Try.results73, go_sem]) rfl ⟨rfl, (by repeat (first | exact More.refl _ | apply More.plus | apply More.alloc | apply More.drew | apply More.drewN))⟩

set_option maxRecDepth 100000 in
set_option maxHeartbeats 1000000 in
theorem PackCodes_of_none (o l m : Int) (a : Option Addr) (cap : Nat) (ps : List Pr) (base last : Int) (ia : Option Addr) (icap : Nat) (is : List Int) (w : World) (hr : RdP w a cap ps) (hri : Rd encI w ia icap is)
    (hW : ∀ (W : World) (a : Option Addr) (cap : Nat) (ia : Option Addr) (icap : Nat), RdP W a cap ps → Rd encI W ia icap is → Calls Try.prog 73 #[.agg #[.int .i64 o, .int .i64 l, .int .i64 m, .slice a ps.length cap, .int .i64 base, .int .i64 last], .slice ia is.length icap] W (RetWk W none)) :
    Calls Try.prog 19 #[.agg #[.int .i64 o, .int .i64 l, .int .i64 m, .slice a ps.length cap, .int .i64 base, .int .i64 last], .slice ia is.length icap] w (Ret w (.tuple #[.string ⟨#[]⟩, .bool false])) := by
  have HW := Lib.hid hW
  have HRP := Lib.hid hr
  have HRI := Lib.hid hri
  clear hW hr hri
  go_enter Try.func19, Try.ntmps19
  go_wp2_with fail
  refine (HW.out _ _ _ _ _ (by repeat (first | exact HRP.out | apply rd_seq | apply Rd.plus | apply Rd.alloc | apply Rd.drew | apply Rd.drewN | refine rd_patch ?_ _ _ (by intro A hA; first | (cases hA; show _ ≠ _; omega) | (have := hal A hA; omega)))) (by repeat (first | exact HRI.out | apply rd_seq | apply Rd.plus | apply Rd.alloc | apply Rd.drew | apply Rd.drewN | refine rd_patch ?_ _ _ (by intro A hA; first | (cases hA; show _ ≠ _; omega) | (have := hal A hA; omega))))).mono ?_
  rintro e w1 ⟨rfl, x1, rfl⟩
  go_wp2_with fail
  go_ret2
  exact Ret.mk (by repeat (first | exact More.refl _ | apply More.plus | apply More.alloc | apply More.drew | apply More.drewN))

set_option maxRecDepth 100000 in
set_option maxHeartbeats 1000000 in
theorem l2All_no (o l m : Int) (a : Option Addr) (cap : Nat) (ps : List Pr) (base last : Int) (ia : Option Addr) (icap : Nat) (is : List Int) (w : World) (hr : RdP w a cap ps) (hil : is.length ≤ 9223372036854775807) (h : kvb o l m ps base last = false ∨ 3100 < is.length) :
    Calls Try.prog 76 #[.agg #[.int .i64 o, .int .i64 l, .int .i64 m, .slice a ps.length cap, .int .i64 base, .int .i64 last], .slice ia is.length icap] w (Ret w (.bool false)) := by
  have HRP := Lib.hid hr
  clear hr
  cases hk : kvb o l m ps base last
  · go_enter Try.func76, Try.ntmps76
    go_wp2_with (go_at_call 63; refine (specKnownValid_any _ _ _ _ _ _ _ _ _ (by repeat (first | exact HRP.out | apply rd_seq | apply Rd.plus | apply Rd.alloc | apply Rd.drew | apply Rd.drewN | refine rd_patch ?_ _ _ (by intro A hA; first | (cases hA; show _ ≠ _; omega) | (have := hal A hA; omega))))).mono ?_; rintro e w' ⟨rfl, xc, rfl⟩)
    go_ret
    exact Ret.mk (by repeat (first | exact More.refl _ | apply More.plus | apply More.alloc | apply More.drew | apply More.drewN))
  · have hs : 3100 < is.length := by
      rcases h with h | h
      · rw [hk] at h; cases h
      · exact h
    have v1 : decide (3100 < is.length) = true := decide_eq_true hs
    go_enter Try.func76, Try.ntmps76
    go_wp2_with (go_at_call 63; refine (specKnownValid_any _ _ _ _ _ _ _ _ _ (by repeat (first | exact HRP.out | apply rd_seq | apply Rd.plus | apply Rd.alloc | apply Rd.drew | apply Rd.drewN | refine rd_patch ?_ _ _ (by intro A hA; first | (cases hA; show _ ≠ _; omega) | (have := hal A hA; omega))))).mono ?_; rintro e w' ⟨rfl, xc, rfl⟩)
    go_ret
    exact Ret.mk (by repeat (first | exact More.refl _ | apply More.plus | apply More.alloc | apply More.drew | apply More.drewN))

set_option maxRecDepth 100000 in
set_option maxHeartbeats 1000000 in
theorem l2All_of (o l m : Int) (a : Option Addr) (cap : Nat) (ps : List Pr) (b : Nat) (last : Int) (ia : Option Addr) (icap : Nat) (is : List Int) (w : World) (hr : RdP w a cap ps) (hri : Rd encI w ia icap is) (hk : kvb o l m ps (b : Int) last = true) (hil : is.length ≤ 3100) (R : Option (List Int × List UInt8)) (hR : wlk l m b is ps last [] [] = R) :
    Calls Try.prog 76 #[.agg #[.int .i64 o, .int .i64 l, .int .i64 m, .slice a ps.length cap, .int .i64 b, .int .i64 last], .slice ia is.length icap] w (Ret w (.bool R.isSome)) := by
  have v1 : decide (3100 < is.length) = false := by simp; omega
  have HRP := Lib.hid hr
  have HRI := Lib.hid hri
  have HR := Lib.hid hR
  clear hr hri hR
  go_enter Try.func76, Try.ntmps76
  go_wp2_with (first | (go_at_call 63; refine (specKnownValid_any _ _ _ _ _ _ _ _ _ (by repeat (first | exact HRP.out | apply rd_seq | apply Rd.plus | apply Rd.alloc | apply Rd.drew | apply Rd.drewN | refine rd_patch ?_ _ _ (by intro A hA; first | (cases hA; show _ ≠ _; omega) | (have := hal A hA; omega))))).mono ?_; rintro e w' ⟨rfl, xc, rfl⟩) | fail)
  refine (l2Walk_any o l m a cap ps b last ia icap is _ (by repeat (first | exact HRP.out | apply rd_seq | apply Rd.plus | apply Rd.alloc | apply Rd.drew | apply Rd.drewN | refine rd_patch ?_ _ _ (by intro A hA; first | (cases hA; show _ ≠ _; omega) | (have := hal A hA; omega)))) (by repeat (first | exact HRI.out | apply rd_seq | apply Rd.plus | apply Rd.alloc | apply Rd.drew | apply Rd.drewN | refine rd_patch ?_ _ _ (by intro A hA; first | (cases hA; show _ ≠ _; omega) | (have := hal A hA; omega)))) hk hil b rfl _ HR.out).mono ?_
  rintro e w1 ⟨pa, pn, pc, la, wa, wc, W1, y1, bb, rfl, hown, hy1, hmt, x2, rfl⟩
  clear hown
  cases R with
  | none =>
    rcases hmt with rfl | hy
    · go_wp2_with fail
      go_ret
      exact ret_of rfl (by repeat (first | exact More.refl _ | apply More.plus | apply More.alloc | apply More.drew | apply More.drewN))
    · have v2 : decide (y1.size ≤ 2000) = false := by simp; omega
      cases bb
      all_goals
        go_wp2_with fail
        go_ret
        exact ret_of (by first | rfl | (simp; omega)) (by repeat (first | exact More.refl _ | apply More.plus | apply More.alloc | apply More.drew | apply More.drewN))
  | some q =>
    obtain ⟨W0, D0⟩ := q
    obtain ⟨rfl, rfl, rfl, hl⟩ := hmt
    have hz : (bstr D0).size ≤ 2000 := by rw [bstr_size]; exact hl
    have v2 : decide ((bstr D0).size ≤ 2000) = true := by simp; omega
    go_wp2_with fail
    go_ret
    exact ret_of (by first | rfl | (simp; omega)) (by repeat (first | exact More.refl _ | apply More.plus | apply More.alloc | apply More.drew | apply More.drewN))

set_option maxRecDepth 100000 in
theorem specPackCodes_of_no (o l m : Int) (a : Option Addr) (cap : Nat) (ps : List Pr) (base last : Int) (ia : Option Addr) (icap : Nat) (is : List Int) (w : World) (hr : RdP w a cap ps) (hri : Rd encI w ia icap is)
    (hA : ∀ (W : World) (a : Option Addr) (cap : Nat) (ia : Option Addr) (icap : Nat), RdP W a cap ps → Rd encI W ia icap is → Calls Try.prog 76 #[.agg #[.int .i64 o, .int .i64 l, .int .i64 m, .slice a ps.length cap, .int .i64 base, .int .i64 last], .slice ia is.length icap] W (Ret W (.bool false))) :
    Calls Try.prog 20 #[.agg #[.int .i64 o, .int .i64 l, .int .i64 m, .slice a ps.length cap, .int .i64 base, .int .i64 last], .slice ia is.length icap] w (Ret w (.tuple #[.string ⟨#[]⟩, .bool false])) := by
  have HA := Lib.hid hA
  have HRP := Lib.hid hr
  have HRI := Lib.hid hri
  clear hA hr hri
  go_enter Try.func20, Try.ntmps20
  go_wp2_with fail
  refine (HA.out _ _ _ _ _ (by repeat (first | exact HRP.out | apply rd_seq | apply Rd.plus | apply Rd.alloc | apply Rd.drew | apply Rd.drewN | refine rd_patch ?_ _ _ (by intro A hA; first | (cases hA; show _ ≠ _; omega) | (have := hal A hA; omega)))) (by repeat (first | exact HRI.out | apply rd_seq | apply Rd.plus | apply Rd.alloc | apply Rd.drew | apply Rd.drewN | refine rd_patch ?_ _ _ (by intro A hA; first | (cases hA; show _ ≠ _; omega) | (have := hal A hA; omega))))).mono ?_
  rintro e w1 ⟨rfl, x1, rfl⟩
  go_wp2_with fail
  go_ret2
  exact Ret.mk (by repeat (first | exact More.refl _ | apply More.plus | apply More.alloc | apply More.drew | apply More.drewN))

/-- the bits of codes, as a string -/
theorem cbits_str {o l m : Int} {b : Nat} {ps : List Pr} {last : Int} {is W : List Int} {D : List UInt8} (hk : kvb o l m ps (b : Int) last = true) (hil : is.length ≤ 3100) (hR : wlk l m b is ps last [] [] = some (W, D)) (o2 : Int) :
    (bstr (cbits o2 is W)).size ≤ 31000 ∧ BV (bstr (cbits o2 is W)).data.toList ∧ (bstr (cbits o2 is W)).data.toList = cbits o2 is W := by
  obtain ⟨q1, q2, q3⟩ := wlk_bd is ps last [] [] W D (kvb_iff.1 hk) hR
  have hcl := cbits_len (o := o2) is W fun x hx => by have := q2 x hx; simp at this; exact this.2
  refine ⟨by rw [bstr_size]; omega, by rw [bytes_bstr]; exact cbits_bv o2 is W, bytes_bstr _⟩

set_option maxRecDepth 100000 in
set_option maxHeartbeats 1000000 in
theorem specPackCodes_yes (o l m : Int) (a : Option Addr) (cap : Nat) (ps : List Pr) (b : Nat) (last : Int) (ia : Option Addr) (icap : Nat) (is : List Int) (w : World) (hr : RdP w a cap ps) (hri : Rd encI w ia icap is) (hk : kvb o l m ps (b : Int) last = true) (hil : is.length ≤ 3100) (W : List Int) (D : List UInt8) (hR : wlk l m b is ps last [] [] = some (W, D)) :
    Calls Try.prog 20 #[.agg #[.int .i64 o, .int .i64 l, .int .i64 m, .slice a ps.length cap, .int .i64 b, .int .i64 last], .slice ia is.length icap] w (Ret w (.tuple #[.string (bstr (pckL o (cbits o is W))), .bool true])) := by
  obtain ⟨ho, _⟩ := sv_iff.1 (kvb_iff.1 hk).s
  obtain ⟨hts, htv, htb⟩ := cbits_str hk hil hR o
  obtain ⟨t, ht⟩ : ∃ t, bstr (cbits o is W) = t := ⟨_, rfl⟩
  rw [ht] at hts htv htb
  have HTV := Lib.hid htv
  have HTB := Lib.hid htb
  have HT := Lib.hid ht
  have HRP := Lib.hid hr
  have HRI := Lib.hid hri
  have HR := Lib.hid hR
  have HK := Lib.hid hk
  clear hr hri hR htv htb ht hk
  go_enter Try.func20, Try.ntmps20
  go_wp2_with fail
  refine (l2All_of o l m a cap ps b last ia icap is _ (by repeat (first | exact HRP.out | apply rd_seq | apply Rd.plus | apply Rd.alloc | apply Rd.drew | apply Rd.drewN | refine rd_patch ?_ _ _ (by intro A hA; first | (cases hA; show _ ≠ _; omega) | (have := hal A hA; omega)))) (by repeat (first | exact HRI.out | apply rd_seq | apply Rd.plus | apply Rd.alloc | apply Rd.drew | apply Rd.drewN | refine rd_patch ?_ _ _ (by intro A hA; first | (cases hA; show _ ≠ _; omega) | (have := hal A hA; omega)))) HK.out hil _ HR.out).mono ?_
  rintro e w1 ⟨rfl, x1, rfl⟩
  go_wp2_with fail
  refine wp_region_pt 7 (fun w' => ∃ y, w' = plus _ y) (Plan.quiet 0 (Plan.quiet 1 (Plan.quiet 2 (Plan.quiet 3 (Plan.quiet 4 (Plan.one 5 (Plan.one 6 (Plan.one 7 (Plan.one 8 Plan.done))))))))) (by kernel_rfl) (by kernel_rfl) (⟨_, drew_is_plus _⟩) ?_
  refine wpPt_val rfl rfl ?_
  apply Exists.intro
  refine ⟨fun w' hS => ?_, ?_⟩
  focus (obtain ⟨y3, rfl⟩ := hS; simp [go_sem, ↓IntWalk.iteOmega] <;> first | done | exact rfl | (rw [IntWalk.i64_in _ (by omega)]; exact rfl) | trace_state)
  refine wpPt_val rfl rfl ?_
  apply Exists.intro
  refine ⟨fun w' hS => ?_, ?_⟩
  focus (obtain ⟨y3, rfl⟩ := hS; simp [go_sem, ↓IntWalk.iteOmega] <;> first | done | exact rfl | (rw [IntWalk.i64_in _ (by omega)]; exact rfl) | trace_state)
  refine wpPt_val rfl rfl ?_
  apply Exists.intro
  refine ⟨fun w' hS => ?_, ?_⟩
  focus (obtain ⟨y3, rfl⟩ := hS; simp [go_sem, ↓IntWalk.iteOmega] <;> first | done | exact rfl | (rw [IntWalk.i64_in _ (by omega)]; exact rfl) | trace_state)
  refine wpPt_val rfl rfl ?_
  apply Exists.intro
  refine ⟨fun w' hS => ?_, ?_⟩
  focus (obtain ⟨y3, rfl⟩ := hS; simp [go_sem, ↓IntWalk.iteOmega] <;> first | done | exact rfl | (rw [IntWalk.i64_in _ (by omega)]; exact rfl) | trace_state)
  refine wpPt_val rfl rfl ?_
  apply Exists.intro
  refine ⟨fun w' hS => ?_, ?_⟩
  focus (obtain ⟨y3, rfl⟩ := hS; simp [go_sem, ↓IntWalk.iteOmega] <;> first | done | exact rfl | (rw [IntWalk.i64_in _ (by omega)]; exact rfl) | trace_state)
  refine wpPt_one rfl rfl (fun K hK => ?_)
  go_simp
  refine (l2Pack_any o l m a cap ps b last ia icap is _ (by repeat (first | exact HRP.out | apply rd_seq | apply Rd.plus | apply Rd.alloc | apply Rd.drew | apply Rd.drewN | refine rd_patch ?_ _ _ (by intro A hA; first | (cases hA; show _ ≠ _; omega) | (have := hal A hA; omega)))) (by repeat (first | exact HRI.out | apply rd_seq | apply Rd.plus | apply Rd.alloc | apply Rd.drew | apply Rd.drewN | refine rd_patch ?_ _ _ (by intro A hA; first | (cases hA; show _ ≠ _; omega) | (have := hal A hA; omega)))) HK.out hil b rfl W _ HR.out).mono ?_
  rintro e w' ⟨rfl, x7, rfl⟩
  rw [HT.out]
  refine hK _ _ (fun hkn => (by repeat (first | exact More.refl _ | (with_reducible apply more_seq) | (with_reducible apply more_draw) | apply More.plus | apply More.alloc | apply More.drew))) ?_
  clear hK K
  refine wpPt_one rfl rfl (fun K hK => ?_)
  go_simp
  refine (l1Pack_any o t _ ho (by omega) HTV.out).mono ?_
  rintro e w' ⟨rfl, x8, rfl⟩
  refine hK _ _ (fun hkn => (by repeat (first | exact More.refl _ | (with_reducible apply more_seq) | (with_reducible apply more_draw) | apply More.plus | apply More.alloc | apply More.drew))) ?_
  clear hK K
  refine wpPt_one rfl rfl (fun K hK => ?_)
  go_simp
  refine hK _ _ (fun hkn => absurd hkn (by decide)) ?_
  clear hK K
  refine wpPt_one rfl rfl (fun K hK => ?_)
  go_simp
  refine hK _ _ (fun hkn => absurd hkn (by decide)) ?_
  clear hK K
  refine NoPanic.normal ?_
  go_wp2
  go_ret2
  exact ⟨by simp [HTB.out], (by repeat (first | exact More.refl _ | apply More.plus | apply More.alloc | apply More.drew | apply More.drewN))⟩

end Go.Proofs.Ytibfkfinghcpaaa
