/- A reader's text: the reference's and the program's. -/
import Derived.Test.YtmddcbebaijjkaaGreatDoorFki
import Derived.Test.YtmddcbebaijjkaaGreatDoorGr
namespace Go.Proofs.YtmddcbebaijjkaaGreatDoor
open Go.RowKit
set_option linter.unusedVariables false
set_option linter.unusedSimpArgs false

theorem knT_size {o l m : Int} {ps : List Pr} {base last : Int} (h : KV o l m ps base last) : (knT o l m ps base last).size ≤ 20000 := by
  obtain ⟨n1, hb, hla, hps⟩ := h.nums
  have zS := setT_size h.s
  have zb := hb.size
  have zl := hla.size
  have zT := prsT_size hps ps.length (Nat.le_refl _)
  rw [prsT_all ps (Nat.le_refl _)] at zT
  have zO := orD_size (n := ps.length * 12 + 1) (by omega : (joinB ⟨#[44]⟩ (ps.map prT)).size ≤ _) (by omega)
  unfold knT
  rw [joinB_four, ByteArray.size_append, ByteArray.size_append, ByteArray.size_append, ByteArray.size_append, ByteArray.size_append, ByteArray.size_append]
  show _ + 1 + _ + 1 + _ + 1 + _ ≤ _
  omega

theorem RV.nums {l m n last : Int} {s : ByteArray} {z c e : Int} (h : RV l m n last s z c e) : Sml z ∧ Sml c ∧ Sml e := by
  have h1 := h.z0
  have h2 := h.z1
  have h3 := h.c0
  have h4 := h.c1
  refine ⟨⟨by omega, by omega⟩, ⟨by omega, by omega⟩, ?_⟩
  rcases RV.e h with h5 | h5
  · exact ⟨by omega, by omega⟩
  · exact ⟨by omega, by omega⟩

theorem specFormatReader_no (o l m : Int) (a : Option Addr) (cap : Nat) (ps : List Pr) (base last : Int) (s : ByteArray) (z c e : Int) (w : World) (hr : RdP w a cap ps) (hs : s.size ≤ maxLen) (hk : rdb o l m ps base last s z c e = false) :
    Calls Tryz.prog 18 #[.agg #[.int .i64 o, .int .i64 l, .int .i64 m, .slice a ps.length cap, .int .i64 base, .int .i64 last, .string s, .int .i64 z, .int .i64 c, .int .i64 e]] w (Ret w (.string ⟨#[]⟩)) := by
  have HR := Lib.hid (show Rd encP w a cap ps from hr)
  clear hr
  go_enter Tryz.func18, Tryz.ntmps18
  go_wp2_with fail
  refine (specReaderValid_any o l m a cap ps base last s z c e _ (by (try unfold RdP); repeat (first | (with_reducible exact HR.out) | (with_reducible apply rd_seq) | (with_reducible apply Rd.plus) | (with_reducible apply Rd.alloc) | (with_reducible apply Rd.drew) | (with_reducible apply Rd.drewN))) hs).mono ?_
  rintro E w' ⟨rfl, x1, rfl⟩
  rw [hk]
  go_wp2
  go_ret
  exact ret_of rfl (by repeat (first | exact More.refl _ | apply More.plus | apply More.alloc | apply More.drew | apply More.drewN))

theorem implFormatReader_no (o l m : Int) (a : Option Addr) (cap : Nat) (ps : List Pr) (base last : Int) (s : ByteArray) (z c e : Int) (w : World) (hr : RdP w a cap ps) (hs : s.size ≤ maxLen) (hk : rdb o l m ps base last s z c e = false) :
    Calls Tryz.prog 16 #[.agg #[.int .i64 o, .int .i64 l, .int .i64 m, .slice a ps.length cap, .int .i64 base, .int .i64 last, .string s, .int .i64 z, .int .i64 c, .int .i64 e]] w (Ret w (.string ⟨#[]⟩)) := by
  have HR := Lib.hid (show Rd encP w a cap ps from hr)
  clear hr
  go_enter Tryz.func16, Tryz.ntmps16
  go_wp2_with fail
  refine (ReaderValid_any o l m a cap ps base last s z c e _ (by (try unfold RdP); repeat (first | (with_reducible exact HR.out) | (with_reducible apply rd_seq) | (with_reducible apply Rd.plus) | (with_reducible apply Rd.alloc) | (with_reducible apply Rd.drew) | (with_reducible apply Rd.drewN))) hs).mono ?_
  rintro E w' ⟨rfl, x1, rfl⟩
  rw [hk]
  go_wp2
  go_ret
  exact ret_of rfl (by repeat (first | exact More.refl _ | apply More.plus | apply More.alloc | apply More.drew | apply More.drewN))

set_option maxRecDepth 100000 in
set_option maxHeartbeats 4000000 in
theorem specFormatReader_yes (o l m : Int) (a : Option Addr) (cap : Nat) (ps : List Pr) (base last : Int) (s : ByteArray) (z c e : Int) (w : World) (hr : RdP w a cap ps) (hs : s.size ≤ 1048576) (hk : rdb o l m ps base last s z c e = true) :
    Calls Tryz.prog 18 #[.agg #[.int .i64 o, .int .i64 l, .int .i64 m, .slice a ps.length cap, .int .i64 base, .int .i64 last, .string s, .int .i64 z, .int .i64 c, .int .i64 e]] w (Ret w (.string (rdT o l m ps base last s z c e))) := by
  obtain ⟨hkv, hrv⟩ := rdb_parts hk
  have hkb := kvb_iff.2 hkv
  obtain ⟨hz, hc, he⟩ := hrv.nums
  have HR := Lib.hid (fun y => Rd.plus (Rd.alloc (show Rd encP w a cap ps from hr) (.cells #[.int .i64 o, .int .i64 l, .int .i64 m, .slice a ps.length cap, .int .i64 base, .int .i64 last, .string s, .int .i64 z, .int .i64 c, .int .i64 e] 28)) y)
  have HRv := Lib.hid (show Rd encP w a cap ps from hr)
  have zK := knT_size hkv
  have zz := hz.size
  have zc := hc.size
  have ze := he.size
  have zO := orD_size (n := s.size + 1) (t := s) (by omega) (by omega)
  have HE := Lib.hid (joinB_five ⟨#[124]⟩ (knT o l m ps base last) (orD s) (decB z) (decB c) (decB e))
  clear hr
  go_enter Tryz.func18, Tryz.ntmps18
  go_wp2_with fail
  refine (specReaderValid_any o l m a cap ps base last s z c e _ (by (try unfold RdP); repeat (first | (with_reducible exact HRv.out) | (with_reducible apply rd_seq) | (with_reducible apply Rd.plus) | (with_reducible apply Rd.alloc) | (with_reducible apply Rd.drew) | (with_reducible apply Rd.drewN))) (by unfold maxLen; omega)).mono ?_
  rintro E w' ⟨rfl, x1, rfl⟩
  rw [hk]
  clear hk
  go_wp2_with fail
  (refine wp_region_calm (by kernel_rfl) (by kernel_rfl) ?_
   repeat (first | go_big_quiet_skip | (go_big_quiet_want; go_big_quiet_op; first | go_big_quiet_on | (apply Exists.intro; refine ⟨fun _ => ?_, ?_⟩; (focus ((first | (go_at_call 23; first | refine calm_of (specFormatKnown_yes o l m a cap ps base last _ (HR.out _) hkb) | refine calm_seq (specFormatKnown_yes o l m a cap ps base last _ (HR.out _) hkb)) | (go_at_call 56; first | refine calm_of (l9Dec_sml _ _ (by assumption)) | refine calm_seq (l9Dec_sml _ _ (by assumption))) | (go_at_call 55; first | refine calm_of (l3Some_any _ _) | refine calm_seq (l3Some_any _ _))))); go_big_quiet_on)))
   refine wpQuiet_nil ?_
   intro _ hw'
   obtain ⟨xq, hw''⟩ := hw'
   subst hw'')
  go_wp2
  go_ret
  exact ret_of (by rw [rdT, HE.out]; rfl) (by repeat (first | exact More.refl _ | apply More.plus | apply More.alloc | apply More.drew | apply More.drewN))

set_option maxRecDepth 100000 in
set_option maxHeartbeats 4000000 in
theorem implFormatReader_yes (o l m : Int) (a : Option Addr) (cap : Nat) (ps : List Pr) (base last : Int) (s : ByteArray) (z c e : Int) (w : World) (hr : RdP w a cap ps) (hs : s.size ≤ 1048576) (hk : rdb o l m ps base last s z c e = true) (ht : Tb w) :
    Calls Tryz.prog 16 #[.agg #[.int .i64 o, .int .i64 l, .int .i64 m, .slice a ps.length cap, .int .i64 base, .int .i64 last, .string s, .int .i64 z, .int .i64 c, .int .i64 e]] w (Ret w (.string (rdT o l m ps base last s z c e))) := by
  obtain ⟨hkv, hrv⟩ := rdb_parts hk
  have hkb := kvb_iff.2 hkv
  obtain ⟨hz, hc, he⟩ := hrv.nums
  have HRv := Lib.hid (show Rd encP w a cap ps from hr)
  have HT := Lib.hid ht
  have zK := knT_size hkv
  have zz := hz.size
  have zc := hc.size
  have ze := he.size
  have zO := orD_size (n := s.size + 1) (t := s) (by omega) (by omega)
  have HZ := Lib.hid (show (joinB ⟨#[124]⟩ [knT o l m ps base last, orD s, decB z, decB c, decB e]).size ≤ 10000000 by
    rw [joinB_five, ByteArray.size_append, ByteArray.size_append, ByteArray.size_append, ByteArray.size_append, ByteArray.size_append, ByteArray.size_append, ByteArray.size_append, ByteArray.size_append]
    show _ + 1 + _ + 1 + _ + 1 + _ + 1 + _ ≤ _
    omega)
  clear hr ht
  go_enter Tryz.func16, Tryz.ntmps16
  go_wp2_with fail
  refine (ReaderValid_any o l m a cap ps base last s z c e _ (by (try unfold RdP); repeat (first | (with_reducible exact HRv.out) | (with_reducible apply rd_seq) | (with_reducible apply Rd.plus) | (with_reducible apply Rd.alloc) | (with_reducible apply Rd.drew) | (with_reducible apply Rd.drewN))) (by unfold maxLen; omega)).mono ?_
  rintro E w' ⟨rfl, x1, rfl⟩
  rw [hk]
  clear hk
  go_wp2_with fail
  refine wp_nmF (fun X => X.heap[w.heap.size]? = some (.cells #[.int .i64 o, .int .i64 l, .int .i64 m, .slice a ps.length cap, .int .i64 base, .int .i64 last, .string s, .int .i64 z, .int .i64 c, .int .i64 e] 28 (0, 0)) ∧ Below w.heap.size w X) ⟨(by repeat (first | (with_reducible exact pushF _ _ _ rfl) | (with_reducible exact pushF _ _ _ (by simp)) | (with_reducible apply plusF) | (with_reducible apply allocF) | (with_reducible apply drewF))), (by repeat (first | exact Below.refl _ _ | refine below_plus ?_ (by first | omega | (simp <;> omega)) _ | refine Below.alloc ?_ (by first | omega | (simp <;> omega)) _ | refine below_patch ?_ (by omega) _ | refine Below.drew ?_))⟩ ?_
  intro X hX
  have HB := Lib.hid hX.2
  have HK := Lib.hid hX.1
  clear hX
  refine wp_region_pt 17 (fun w' => w'.heap[w.heap.size]? = some (.cells #[.int .i64 o, .int .i64 l, .int .i64 m, .slice a ps.length cap, .int .i64 base, .int .i64 last, .string s, .int .i64 z, .int .i64 c, .int .i64 e] 28 (0, 0))) (Plan.quiet 0 (Plan.quiet 1 (Plan.quiet 3 (Plan.quiet 4 (Plan.quiet 6 (Plan.quiet 7 (Plan.quiet 9 (Plan.quiet 10 (Plan.quiet 12 (Plan.quiet 13 (Plan.one 2 (Plan.one 5 (Plan.one 8 (Plan.one 11 (Plan.one 14 (Plan.one 15 (Plan.one 16 (Plan.one 17 Plan.done)))))))))))))))))) (by kernel_rfl) (by kernel_rfl) (drewF HK.out) ?_
  refine wpPt_val rfl rfl ?_
  apply Exists.intro
  refine ⟨fun w' hS => ?_, ?_⟩
  focus (have rS := cell_of hS; simp [go_sem, ↓IntWalk.iteOmega, rS] <;> first | done | exact rfl | (rw [IntWalk.i64_in _ (by omega)]; exact rfl) | trace_state)
  refine wpPt_val rfl rfl ?_
  apply Exists.intro
  refine ⟨fun w' hS => ?_, ?_⟩
  focus (have rS := cell_of hS; simp [go_sem, ↓IntWalk.iteOmega, rS] <;> first | done | exact rfl | (rw [IntWalk.i64_in _ (by omega)]; exact rfl) | trace_state)
  refine wpPt_val rfl rfl ?_
  apply Exists.intro
  refine ⟨fun w' hS => ?_, ?_⟩
  focus (have rS := cell_of hS; simp [go_sem, ↓IntWalk.iteOmega, rS] <;> first | done | exact rfl | (rw [IntWalk.i64_in _ (by omega)]; exact rfl) | trace_state)
  refine wpPt_val rfl rfl ?_
  apply Exists.intro
  refine ⟨fun w' hS => ?_, ?_⟩
  focus (have rS := cell_of hS; simp [go_sem, ↓IntWalk.iteOmega, rS] <;> first | done | exact rfl | (rw [IntWalk.i64_in _ (by omega)]; exact rfl) | trace_state)
  refine wpPt_val rfl rfl ?_
  apply Exists.intro
  refine ⟨fun w' hS => ?_, ?_⟩
  focus (have rS := cell_of hS; simp [go_sem, ↓IntWalk.iteOmega, rS] <;> first | done | exact rfl | (rw [IntWalk.i64_in _ (by omega)]; exact rfl) | trace_state)
  refine wpPt_val rfl rfl ?_
  apply Exists.intro
  refine ⟨fun w' hS => ?_, ?_⟩
  focus (have rS := cell_of hS; simp [go_sem, ↓IntWalk.iteOmega, rS] <;> first | done | exact rfl | (rw [IntWalk.i64_in _ (by omega)]; exact rfl) | trace_state)
  refine wpPt_val rfl rfl ?_
  apply Exists.intro
  refine ⟨fun w' hS => ?_, ?_⟩
  focus (have rS := cell_of hS; simp [go_sem, ↓IntWalk.iteOmega, rS] <;> first | done | exact rfl | (rw [IntWalk.i64_in _ (by omega)]; exact rfl) | trace_state)
  refine wpPt_val rfl rfl ?_
  apply Exists.intro
  refine ⟨fun w' hS => ?_, ?_⟩
  focus (have rS := cell_of hS; simp [go_sem, ↓IntWalk.iteOmega, rS] <;> first | done | exact rfl | (rw [IntWalk.i64_in _ (by omega)]; exact rfl) | trace_state)
  refine wpPt_val rfl rfl ?_
  apply Exists.intro
  refine ⟨fun w' hS => ?_, ?_⟩
  focus (have rS := cell_of hS; simp [go_sem, ↓IntWalk.iteOmega, rS] <;> first | done | exact rfl | (rw [IntWalk.i64_in _ (by omega)]; exact rfl) | trace_state)
  refine wpPt_val rfl rfl ?_
  apply Exists.intro
  refine ⟨fun w' hS => ?_, ?_⟩
  focus (have rS := cell_of hS; simp [go_sem, ↓IntWalk.iteOmega, rS] <;> first | done | exact rfl | (rw [IntWalk.i64_in _ (by omega)]; exact rfl) | trace_state)
  refine wpPt_one rfl rfl (fun K hK => ?_)
  go_simp
  refine (implFormatKnown_yes o l m a cap ps base last X.drew (rdF HRv.out (HB.out.drew)) hkb (HT.out.below HB.out.drew)).mono ?_
  rintro E w2 ⟨rfl, hm2⟩
  have HB2 := Lib.hid (HB.out.drew.trans ((more_below (show More _ w2 from hm2)).mono HB.out.drew.size))
  have HK2 := Lib.hid (blk_mo (drewF HK.out) (show More _ w2 from hm2))
  clear hm2
  refine hK _ _ (fun hkn => HK2.out) ?_
  clear hK K
  refine wpPt_one rfl rfl (fun K hK => ?_)
  go_simp
  refine (orDash_any _ _).mono ?_
  rintro E w5 ⟨rfl, hm5⟩
  have HB5 := Lib.hid (HB2.out.trans ((more_below (show More _ w5 from hm5)).mono HB2.out.size))
  have HK5 := Lib.hid (blk_mo HK2.out (show More _ w5 from hm5))
  clear hm5
  refine hK _ _ (fun hkn => HK5.out) ?_
  clear hK K
  refine wpPt_one rfl rfl (fun K hK => ?_)
  go_simp
  refine (Itoa_sml _ _ hz (HT.out.below HB5.out)).mono ?_
  rintro E w8 ⟨rfl, hm8⟩
  have HB8 := Lib.hid (HB5.out.trans ((more_below (show More _ w8 from hm8)).mono HB5.out.size))
  have HK8 := Lib.hid (blk_mo HK5.out (show More _ w8 from hm8))
  clear hm8
  refine hK _ _ (fun hkn => HK8.out) ?_
  clear hK K
  refine wpPt_one rfl rfl (fun K hK => ?_)
  go_simp
  refine (Itoa_sml _ _ hc (HT.out.below HB8.out)).mono ?_
  rintro E w11 ⟨rfl, hm11⟩
  have HB11 := Lib.hid (HB8.out.trans ((more_below (show More _ w11 from hm11)).mono HB8.out.size))
  have HK11 := Lib.hid (blk_mo HK8.out (show More _ w11 from hm11))
  clear hm11
  refine hK _ _ (fun hkn => HK11.out) ?_
  clear hK K
  refine wpPt_one rfl rfl (fun K hK => ?_)
  go_simp
  refine (Itoa_sml _ _ he (HT.out.below HB11.out)).mono ?_
  rintro E w14 ⟨rfl, hm14⟩
  have HB14 := Lib.hid (HB11.out.trans ((more_below (show More _ w14 from hm14)).mono HB11.out.size))
  have HK14 := Lib.hid (blk_mo HK11.out (show More _ w14 from hm14))
  clear hm14
  refine hK _ _ (fun hkn => HK14.out) ?_
  clear hK K
  refine wpPt_one rfl rfl (fun K hK => ?_)
  go_simp
  refine hK _ _ (fun hkn => allocF HK14.out _) ?_
  clear hK K
  refine wpPt_one rfl rfl (fun K hK => ?_)
  go_simp
  refine (Join_any w14.heap.size 5 5 [knT o l m ps base last, orD s, decB z, decB c, decB e] ⟨#[124]⟩ _ rfl (cells_str (e := 9) (pushF w14 _ _ rfl)) (by simp) (show (5 : Nat) ≤ 100000 by decide) (Nat.le_refl _) HZ.out).mono ?_
  rintro E w16 ⟨rfl, hm16⟩
  have HB16 := Lib.hid ((HB14.out.alloc HB14.out.size _).trans ((more_below (show More _ w16 from hm16)).mono (by have := HB14.out.size; simp; omega)))
  have HK16 := Lib.hid (blk_mo (allocF HK14.out _) (show More _ w16 from hm16))
  clear hm16
  refine hK _ _ (fun hkn => HK16.out) ?_
  clear hK K
  refine wpPt_one rfl rfl (fun K hK => ?_)
  go_simp
  refine hK _ _ (fun hkn => absurd hkn (by decide)) ?_
  clear hK K
  refine NoPanic.normal ?_
  go_wp2_with fail
  go_ret
  exact ret_of rfl (below_more HB16.out)

end Go.Proofs.YtmddcbebaijjkaaGreatDoor
