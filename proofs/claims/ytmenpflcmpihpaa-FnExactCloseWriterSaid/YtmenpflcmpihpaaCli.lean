/- CloseWriter of the program. -/
import Derived.Test.YtmenpflcmpihpaaCls
import Derived.Test.YtmenpflcmpihpaaCcr
namespace Go.Proofs.Ytmenpflcmpihpaa
open Go.RowKit
set_option linter.unusedVariables false
set_option linter.unusedSimpArgs false

set_option maxHeartbeats 1000000 in
theorem implCloseWriter_no (o l m : Int) (a : Option Addr) (cap : Nat) (ps : List Pr) (base last : Int) (sp sq : ByteArray) (bg : Bool) (w : World) (hr : RdP w a cap ps) (hs1 : sp.size ≤ maxLen) (hs2 : sq.size ≤ maxLen) (hk : wvb o l m ps base last sp sq bg = false) :
    Calls Try.prog 47 #[.agg #[.int .i64 o, .int .i64 l, .int .i64 m, .slice a ps.length cap, .int .i64 base, .int .i64 last, .string sp, .string sq, .bool bg]] w (Ret w (.tuple #[.string ⟨#[]⟩, .bool false])) := by
  go_enter Try.func47, Try.ntmps47
  go_wp2_with (go_at_call 92; refine (implWriterValid_any _ _ _ _ _ _ _ _ _ _ _ _ (by repeat (first | exact hr | apply rd_seq | apply Rd.plus | apply Rd.alloc | apply Rd.drew | apply Rd.drewN | refine rd_patch ?_ _ _ (by intro A hA; first | (cases hA; show _ ≠ _; omega) | (have := hal A hA; omega)))) hs1 hs2).mono ?_; rintro e w' ⟨rfl, xv, rfl⟩; rw [hk])
  go_ret2
  exact Ret.mk (by repeat (first | exact More.refl _ | apply More.plus | apply More.alloc | apply More.drew | apply More.drewN))

theorem codeOf_tb {α : Type} {E : Enc α} {e : TypeId} {av : List Nat} {t lo : Nat} {o l m : Int} {ps : List Pr} {base last : Int} {A : Option Addr} {cap : Nat} {xs : List α} {w : World} (s : ByteArray) (h : TB E e av w t lo o l m ps base last A cap xs)
    (hlast : last = -1 ∨ hw l ps.length last = true) (hs2 : s.size ≤ maxLen) (c : Int) (hc : IsFnd l m ps last s.data.toList c) :
    Calls Try.prog 94 #[.pointer (some ⟨t, 0, none⟩), .string s] w (Ret w (codeV c)) := by
  obtain ⟨pa, pc, na, nc, qa, qc, N, pn, h1, _⟩ := h
  exact codeOf_any s w h1 hlast hs2 c hc

theorem run_str_m {P : Program} {W : World} {src dst e : TypeId} (hs : P.underlying src = some (.slice e)) (he : P.underlying e = some (.int .u8)) (hd : P.underlying dst = some .string)
    {e' : TypeId} {A : Option Addr} {cap lo : Nat} {bs : List UInt8} (h : OwM e' W A cap bs lo) : (convert src dst (.slice A bs.length cap)).run P W = .ok (.string (bstr bs)) W := by
  cases A with
  | none =>
    rcases h with ⟨_, rfl, rfl⟩ | ⟨b, cur, fz, h0, _⟩
    · show (convert src dst (.slice none 0 0)).run P W = _
      rw [run_convert_bytes_string W src dst e none 0 0 hs he hd]
      rfl
    · cases h0
  | some X => exact run_str_some hs he hd h.rd

theorem CB.lower {w : World} {t kb lo lo' : Nat} {o l m : Int} {ps : List Pr} {base last : Int} {bs : List UInt8} (h : CB w t kb lo o l m ps base last bs) (hl : lo' ≤ lo) : CB w t kb lo' o l m ps base last bs := by
  obtain ⟨A, cap, h1, h2, h3, h4, h5, h6⟩ := h
  exact ⟨A, cap, h1, by omega, h3, h4.lower hl, h5, h6.lower hl⟩

theorem CB.to {w : World} {t kb lo : Nat} {o l m : Int} {ps : List Pr} {base last : Int} {bs bs' : List UInt8} (h : CB w t kb lo o l m ps base last bs) (e : bs' = bs) : CB w t kb lo o l m ps base last bs' := by
  subst e; exact h

set_option maxRecDepth 100000 in
set_option maxHeartbeats 4000000 in
theorem implCloseWriter_go (o l m : Int) (a : Option Addr) (cap : Nat) (ps : List Pr) (b : Nat) (last : Int) (sp sq : ByteArray) (bg : Bool) (w : World) (hr : RdP w a cap ps) (hk : wvb o l m ps b last sp sq bg = true) (B : List UInt8) (hB : Clo o l m b ps last sp sq bg B) :
    Calls Try.prog 47 #[.agg #[.int .i64 o, .int .i64 l, .int .i64 m, .slice a ps.length cap, .int .i64 b, .int .i64 last, .string sp, .string sq, .bool bg]] w (Ret w (.tuple #[.string (bstr (pckL o B)), .bool true])) := by
  have hwv := hk
  unfold wvb at hwv
  rw [Bool.and_eq_true, Bool.and_eq_true] at hwv
  obtain ⟨hkb, hdf, hwp⟩ := hwv
  have hkv := kvb_iff.1 hkb
  obtain ⟨hbi, hs7, _, _⟩ : WV l m ps last sp sq bg := by simpa [wvp] using hwp
  have hs1 : sp.size ≤ maxLen := by
    unfold dfB at hdf
    simp only [Bool.and_eq_true, decide_eq_true_eq] at hdf
    unfold maxLen
    omega
  have hs2 : sq.size ≤ maxLen := by unfold maxLen; omega
  have hlim := hkv.lim
  have hs := hkv.s
  obtain ⟨ho, l1, l2, _, _⟩ := sv_iff.1 hkv.s
  obtain ⟨t1, t2⟩ := two_lit l1 l2
  have he1 := isEmpty_size sp
  have HRP := Lib.hid hr
  have HK := Lib.hid hk
  have HKV := Lib.hid hkv
  have hsl : sq.data.toList.length ≤ 7 := by rw [bytes_len]; exact hs7
  clear hr hkb hdf hwp hk hbi
  rcases hB with ⟨rfl, hz, n, hn, hBe⟩ | ⟨rfl, hz, c, n, k, hc0, hc, hn, hk2, hBe⟩ | ⟨rfl, hz, n, k, hn, hk2, hBe⟩
  · have hn10 : n ≤ 10 := by have := wd_ten hlim; omega
    have HLM := Lib.hid hlim
    have HN := Lib.hid hn
    have HBE := Lib.hid hBe
    have hBl : B.length ≤ 100 := by rw [hBe, List.length_append, bitsL_len]; omega
    rw [decide_eq_true hz] at he1
    clear hn hBe hz hlim hkv
    go_enter Try.func47, Try.ntmps47
    go_wp2_with (go_at_call 92; refine (implWriterValid_any _ _ _ _ _ _ _ _ _ _ _ _ (by repeat (first | exact HRP.out | apply rd_seq | apply Rd.plus | apply Rd.alloc | apply Rd.drew | apply Rd.drewN | refine rd_patch ?_ _ _ (by intro A hA; first | (cases hA; show _ ≠ _; omega) | (have := hal A hA; omega)))) hs1 hs2).mono ?_; rintro e w' ⟨rfl, xv, rfl⟩; rw [HK.out])
    refine (coderOf_yes o l m a cap ps b last sp sq _ (by repeat (first | exact HRP.out | apply rd_seq | apply Rd.plus | apply Rd.alloc | apply Rd.drew | apply Rd.drewN | refine rd_patch ?_ _ _ (by intro A hA; first | (cases hA; show _ ≠ _; omega) | (have := hal A hA; omega)))) HKV.out (by omega)).mono ?_
    rintro e w1 ⟨t, kb, rfl, hcb1, hbl1⟩
    have HC1 := Lib.hid (hcb1.lower (lo' := w.heap.size + 1) (by simp <;> omega))
    have HX1 := Lib.hid (blk_below (k := w.heap.size) (ob := .cells #[.int .i64 o, .int .i64 l, .int .i64 m, .slice a ps.length cap, .int .i64 b, .int .i64 last, .string sp, .string sq, .bool true] 61) hbl1 (by repeat (first | (with_reducible exact push_new _ _ _ (by simp)) | (with_reducible apply blk_plus) | (with_reducible apply blk_alloc) | (with_reducible apply blk_drew))) (by simp <;> omega))
    have r1 := cell_of HX1.out
    have HB1 := Lib.hid (Below.trans (a := w) (B := w.heap.size) (b := _) (by repeat (first | exact Below.refl _ _ | refine below_plus ?_ (by first | omega | (simp <;> omega)) _ | refine Below.alloc ?_ (by first | omega | (simp <;> omega)) _ | refine below_patch ?_ (by omega) _ | refine Below.drew ?_)) (hbl1.mono (by simp <;> omega)))
    have z1 := hbl1.size
    simp at z1
    have hx1 : w.heap.size < w1.heap.size := by omega
    clear hcb1 hbl1
    go_wp2_with (go_at_call 69; refine (EndCode_yes _ _ _ hs _).mono ?_; rintro e w' ⟨rfl, x8, rfl⟩)
    refine (write_end (lo := w.heap.size + 1) (bs := sq.data.toList) _ (HC1.out.plus _) HLM.out (by omega) n HN.out hn10 (two l + 1) rfl (by omega) (by omega)).mono ?_
    rintro e w2 ⟨rfl, hcb2, hbl2, _⟩
    have HC2 := Lib.hid hcb2
    have HX2 := Lib.hid (blk_below (k := w.heap.size) hbl2 (by repeat (first | (with_reducible exact HX1.out) | (with_reducible apply blk_seq) | (with_reducible apply blk_draw) | (with_reducible apply blk_plus) | (with_reducible apply blk_alloc) | (with_reducible apply blk_drew) | (with_reducible refine blk_patch ?_ (by omega)) | exact HX1.out)) (by omega))
    have r2 := cell_of HX2.out
    have HB2 := Lib.hid (Below.trans (b := _) (Below.trans HB1.out (by repeat (first | exact Below.refl _ _ | refine below_plus ?_ (by first | omega | (simp <;> omega)) _ | refine Below.alloc ?_ (by first | omega | (simp <;> omega)) _ | refine below_patch ?_ (by omega) _ | refine Below.drew ?_))) (hbl2.mono (by omega)))
    have z2 := hbl2.size
    simp at z2
    have hx2 : w.heap.size < w2.heap.size := by omega
    clear hcb2 hbl2
    go_wp2_with fail
    obtain ⟨AE, capE, hblkE, hloE, hkbE, homE, hoffE, htbE⟩ := HC2.out.to HBE.out
    have rE := cell_of hblkE
    have hcvp : ∀ y : Ext, (convert 90 9 (.slice AE B.length capE)).run Try.prog (plus w2 y) = .ok (.string (bstr B)) (plus w2 y) := fun y => run_str_m (P := Try.prog) Try.underlying90 Try.underlying5 Try.underlying9 (homE.plus y)
    clear hblkE homE hoffE htbE
    refine wp_region_pt 10 (fun w' => ∃ y, w' = plus w2 y) (Plan.quiet 0 (Plan.quiet 1 (Plan.quiet 2 (Plan.quiet 3 (Plan.quiet 4 (Plan.quiet 5 (Plan.quiet 6 (Plan.quiet 7 (Plan.quiet 8 (Plan.one 9 (Plan.one 10 (Plan.one 11 Plan.done)))))))))))) (by kernel_rfl) (by kernel_rfl) (⟨_, drew_is_plus _⟩) ?_
    refine wpPt_val rfl rfl ?_
    apply Exists.intro
    refine ⟨fun w' hS => ?_, ?_⟩
    focus (obtain ⟨y3, rfl⟩ := hS; simp [go_sem, ↓IntWalk.iteOmega, rE, r2, hcvp] <;> first | done | exact rfl | (rw [IntWalk.i64_in _ (by omega)]; exact rfl) | trace_state)
    refine wpPt_val rfl rfl ?_
    apply Exists.intro
    refine ⟨fun w' hS => ?_, ?_⟩
    focus (obtain ⟨y3, rfl⟩ := hS; simp [go_sem, ↓IntWalk.iteOmega, rE, r2, hcvp] <;> first | done | exact rfl | (rw [IntWalk.i64_in _ (by omega)]; exact rfl) | trace_state)
    refine wpPt_val rfl rfl ?_
    apply Exists.intro
    refine ⟨fun w' hS => ?_, ?_⟩
    focus (obtain ⟨y3, rfl⟩ := hS; simp [go_sem, ↓IntWalk.iteOmega, rE, r2, hcvp] <;> first | done | exact rfl | (rw [IntWalk.i64_in _ (by omega)]; exact rfl) | trace_state)
    refine wpPt_val rfl rfl ?_
    apply Exists.intro
    refine ⟨fun w' hS => ?_, ?_⟩
    focus (obtain ⟨y3, rfl⟩ := hS; simp [go_sem, ↓IntWalk.iteOmega, rE, r2, hcvp] <;> first | done | exact rfl | (rw [IntWalk.i64_in _ (by omega)]; exact rfl) | trace_state)
    refine wpPt_val rfl rfl ?_
    apply Exists.intro
    refine ⟨fun w' hS => ?_, ?_⟩
    focus (obtain ⟨y3, rfl⟩ := hS; simp [go_sem, ↓IntWalk.iteOmega, rE, r2, hcvp] <;> first | done | exact rfl | (rw [IntWalk.i64_in _ (by omega)]; exact rfl) | trace_state)
    refine wpPt_val rfl rfl ?_
    apply Exists.intro
    refine ⟨fun w' hS => ?_, ?_⟩
    focus (obtain ⟨y3, rfl⟩ := hS; simp [go_sem, ↓IntWalk.iteOmega, rE, r2, hcvp] <;> first | done | exact rfl | (rw [IntWalk.i64_in _ (by omega)]; exact rfl) | trace_state)
    refine wpPt_val rfl rfl ?_
    apply Exists.intro
    refine ⟨fun w' hS => ?_, ?_⟩
    focus (obtain ⟨y3, rfl⟩ := hS; simp [go_sem, ↓IntWalk.iteOmega, rE, r2, hcvp] <;> first | done | exact rfl | (rw [IntWalk.i64_in _ (by omega)]; exact rfl) | trace_state)
    refine wpPt_val rfl rfl ?_
    apply Exists.intro
    refine ⟨fun w' hS => ?_, ?_⟩
    focus (obtain ⟨y3, rfl⟩ := hS; simp [go_sem, ↓IntWalk.iteOmega, rE, r2, hcvp] <;> first | done | exact rfl | (rw [IntWalk.i64_in _ (by omega)]; exact rfl) | trace_state)
    refine wpPt_val rfl rfl ?_
    apply Exists.intro
    refine ⟨fun w' hS => ?_, ?_⟩
    focus (obtain ⟨y3, rfl⟩ := hS; simp [go_sem, ↓IntWalk.iteOmega, rE, r2, hcvp] <;> first | done | exact rfl | (rw [IntWalk.i64_in _ (by omega)]; exact rfl) | trace_state)
    refine wpPt_one rfl rfl (fun K hK => ?_)
    go_simp
    refine (packBytes_any o (bstr B) _ (by rw [bstr_size]; omega)).mono ?_
    rintro e w' ⟨rfl, xe3, rfl⟩
    rw [bytes_bstr]
    refine hK _ _ (fun hkn => (by repeat (first | exact More.refl _ | (with_reducible apply more_seq) | (with_reducible apply more_draw) | apply More.plus | apply More.alloc | apply More.drew))) ?_
    clear hK K
    refine wpPt_one rfl rfl (fun K hK => ?_)
    go_simp
    refine hK _ _ (fun hkn => absurd hkn (by decide)) ?_
    clear hK K
    refine wpPt_one rfl rfl (fun K hK => ?_)
    go_simp
    refine hK _ _ (fun hkn => absurd hkn (by decide)) ?_
    clear hK K
    refine NoPanic.normal ?_
    go_wp2_with fail
    go_ret2
    exact ⟨rfl, below_more (Below.trans HB2.out (by repeat (first | exact Below.refl _ _ | refine below_plus ?_ (by first | omega | (simp <;> omega)) _ | refine Below.alloc ?_ (by first | omega | (simp <;> omega)) _ | refine below_patch ?_ (by omega) _ | refine Below.drew ?_)))⟩
  · have hok : Okc l m ps.length last c := by
      rcases hc with ⟨h, _⟩ | ⟨h, _⟩
      · omega
      · exact h
    have hok1 := okc_le hok t1
    have hgt := gt_bd hlim
    obtain ⟨hne1, hne2⟩ := okc_ends hok
    have hkv2 := hkv.after hok
    have hn10 : n ≤ 10 := by have := wd_ten hlim; omega
    have hk10 : k ≤ 10 := by have := wd_ten hkv2.lim; omega
    have hc1 : c < 1024 := by omega
    have hlast : last = -1 ∨ hw l ps.length last = true := hkv.last.imp (fun h => h.1) id
    have HFO := Lib.hid (fun (W : World) (t lo : Nat) (av : List Nat) (h : TB encB 5 av W t lo o l m ps b last none 0 []) => tb_code c h hlast hok)
    have HLA := Lib.hid hlast
    obtain ⟨qs, hqs⟩ : ∃ qs, aftP l m ps last c = qs := ⟨_, rfl⟩
    rw [hqs] at HFO hk2 hkv2
    have HLM := Lib.hid hlim
    have HLM2 := Lib.hid hkv2.lim
    have HN := Lib.hid hn
    have HN2 := Lib.hid hk2
    have HBE := Lib.hid hBe
    have HC := Lib.hid hc
    have hcv := codeV_yes hc0
    have hBl : B.length ≤ 100 := by rw [hBe, List.length_append, List.length_append, bitsL_len, bitsL_len]; omega
    have v0 : decide (sp.size = 0) = false := decide_eq_false (by omega)
    rw [v0] at he1
    clear hn hBe hz hlim hkv hqs hk2 hkv2 hok hok1 hgt hc v0 hlast hne1
    go_enter Try.func47, Try.ntmps47
    go_wp2_with (go_at_call 92; refine (implWriterValid_any _ _ _ _ _ _ _ _ _ _ _ _ (by repeat (first | exact HRP.out | apply rd_seq | apply Rd.plus | apply Rd.alloc | apply Rd.drew | apply Rd.drewN | refine rd_patch ?_ _ _ (by intro A hA; first | (cases hA; show _ ≠ _; omega) | (have := hal A hA; omega)))) hs1 hs2).mono ?_; rintro e w' ⟨rfl, xv, rfl⟩; rw [HK.out])
    refine (coderOf_yes o l m a cap ps b last sp sq _ (by repeat (first | exact HRP.out | apply rd_seq | apply Rd.plus | apply Rd.alloc | apply Rd.drew | apply Rd.drewN | refine rd_patch ?_ _ _ (by intro A hA; first | (cases hA; show _ ≠ _; omega) | (have := hal A hA; omega)))) HKV.out (by omega)).mono ?_
    rintro e w1 ⟨t, kb, rfl, hcb1, hbl1⟩
    have HC1 := Lib.hid (hcb1.lower (lo' := w.heap.size + 1) (by simp <;> omega))
    have HX1 := Lib.hid (blk_below (k := w.heap.size) (ob := .cells #[.int .i64 o, .int .i64 l, .int .i64 m, .slice a ps.length cap, .int .i64 b, .int .i64 last, .string sp, .string sq, .bool true] 61) hbl1 (by repeat (first | (with_reducible exact push_new _ _ _ (by simp)) | (with_reducible apply blk_plus) | (with_reducible apply blk_alloc) | (with_reducible apply blk_drew))) (by simp <;> omega))
    have r1 := cell_of HX1.out
    have HB1 := Lib.hid (Below.trans (a := w) (B := w.heap.size) (b := _) (by repeat (first | exact Below.refl _ _ | refine below_plus ?_ (by first | omega | (simp <;> omega)) _ | refine Below.alloc ?_ (by first | omega | (simp <;> omega)) _ | refine below_patch ?_ (by omega) _ | refine Below.drew ?_)) (hbl1.mono (by simp <;> omega)))
    have z1 := hbl1.size
    simp at z1
    have hx1 : w.heap.size < w1.heap.size := by omega
    clear hcb1 hbl1
    go_wp2_with fail
    obtain ⟨A1, cap1, hblk1, hlo1, hkb1, hom1, hoff1, htb1⟩ := HC1.out
    have q1 := cell_of hblk1
    have HT1 := Lib.hid htb1
    clear hblk1 hom1 hoff1 htb1
    refine wp_region_pt 11 (fun w' => ∃ y, w' = plus w1 y) (Plan.quiet 0 (Plan.quiet 1 (Plan.quiet 2 (Plan.quiet 3 (Plan.quiet 4 (Plan.quiet 5 (Plan.one 6 (Plan.quiet 7 (Plan.quiet 8 (Plan.quiet 9 (Plan.quiet 10 (Plan.one 11 Plan.done)))))))))))) (by kernel_rfl) (by kernel_rfl) (⟨_, drew_is_plus _⟩) ?_
    refine wpPt_val rfl rfl ?_
    apply Exists.intro
    refine ⟨fun w' hS => ?_, ?_⟩
    focus (obtain ⟨y3, rfl⟩ := hS; simp [go_sem, ↓IntWalk.iteOmega, q1, r1] <;> first | done | exact rfl | (rw [IntWalk.i64_in _ (by omega)]; exact rfl) | trace_state)
    refine wpPt_val rfl rfl ?_
    apply Exists.intro
    refine ⟨fun w' hS => ?_, ?_⟩
    focus (obtain ⟨y3, rfl⟩ := hS; simp [go_sem, ↓IntWalk.iteOmega, q1, r1] <;> first | done | exact rfl | (rw [IntWalk.i64_in _ (by omega)]; exact rfl) | trace_state)
    refine wpPt_val rfl rfl ?_
    apply Exists.intro
    refine ⟨fun w' hS => ?_, ?_⟩
    focus (obtain ⟨y3, rfl⟩ := hS; simp [go_sem, ↓IntWalk.iteOmega, q1, r1] <;> first | done | exact rfl | (rw [IntWalk.i64_in _ (by omega)]; exact rfl) | trace_state)
    refine wpPt_val rfl rfl ?_
    apply Exists.intro
    refine ⟨fun w' hS => ?_, ?_⟩
    focus (obtain ⟨y3, rfl⟩ := hS; simp [go_sem, ↓IntWalk.iteOmega, q1, r1] <;> first | done | exact rfl | (rw [IntWalk.i64_in _ (by omega)]; exact rfl) | trace_state)
    refine wpPt_val rfl rfl ?_
    apply Exists.intro
    refine ⟨fun w' hS => ?_, ?_⟩
    focus (obtain ⟨y3, rfl⟩ := hS; simp [go_sem, ↓IntWalk.iteOmega, q1, r1] <;> first | done | exact rfl | (rw [IntWalk.i64_in _ (by omega)]; exact rfl) | trace_state)
    refine wpPt_val rfl rfl ?_
    apply Exists.intro
    refine ⟨fun w' hS => ?_, ?_⟩
    focus (obtain ⟨y3, rfl⟩ := hS; simp [go_sem, ↓IntWalk.iteOmega, q1, r1] <;> first | done | exact rfl | (rw [IntWalk.i64_in _ (by omega)]; exact rfl) | trace_state)
    refine wpPt_one rfl rfl (fun K hK => ?_)
    go_simp
    refine (codeOf_tb sp (by repeat (first | (with_reducible exact HT1.out) | (with_reducible apply tb_seq) | (with_reducible apply tb_draw) | (with_reducible apply TB.plus) | (with_reducible apply TB.alloc) | (with_reducible apply TB.drew))) HLA.out hs1 c HC.out).mono ?_
    rintro e w' ⟨rfl, x5, rfl⟩
    rw [hcv]
    refine hK _ _ (fun hkn => (by repeat (first | exact More.refl _ | (with_reducible apply more_seq) | (with_reducible apply more_draw) | apply More.plus | apply More.alloc | apply More.drew))) ?_
    clear hK K
    refine wpPt_val rfl rfl ?_
    apply Exists.intro
    refine ⟨fun w' hS => ?_, ?_⟩
    focus (obtain ⟨y3, rfl⟩ := hS; simp [go_sem, ↓IntWalk.iteOmega, q1, r1] <;> first | done | exact rfl | (rw [IntWalk.i64_in _ (by omega)]; exact rfl) | trace_state)
    refine wpPt_val rfl rfl ?_
    apply Exists.intro
    refine ⟨fun w' hS => ?_, ?_⟩
    focus (obtain ⟨y3, rfl⟩ := hS; simp [go_sem, ↓IntWalk.iteOmega, q1, r1] <;> first | done | exact rfl | (rw [IntWalk.i64_in _ (by omega)]; exact rfl) | trace_state)
    refine wpPt_val rfl rfl ?_
    apply Exists.intro
    refine ⟨fun w' hS => ?_, ?_⟩
    focus (obtain ⟨y3, rfl⟩ := hS; simp [go_sem, ↓IntWalk.iteOmega, q1, r1] <;> first | done | exact rfl | (rw [IntWalk.i64_in _ (by omega)]; exact rfl) | trace_state)
    refine wpPt_val rfl rfl ?_
    apply Exists.intro
    refine ⟨fun w' hS => ?_, ?_⟩
    focus (obtain ⟨y3, rfl⟩ := hS; simp [go_sem, ↓IntWalk.iteOmega, q1, r1] <;> first | done | exact rfl | (rw [IntWalk.i64_in _ (by omega)]; exact rfl) | trace_state)
    refine wpPt_one rfl rfl (fun K hK => ?_)
    go_simp
    refine hK _ _ (fun hkn => absurd hkn (by decide)) ?_
    clear hK K
    refine NoPanic.normal ?_
    clear q1
    go_wp2_with fail
    refine (write_code (lo := w.heap.size + 1) (bs := sq.data.toList) _ (HC1.out.plus _) HLM.out (by omega) n HN.out hn10 c hne2 hc0 hc1 (fun W av h => HFO.out W t _ av h)).mono ?_
    rintro e w2 ⟨rfl, hcb2, hbl2, _⟩
    have HC2 := Lib.hid hcb2
    have HX2 := Lib.hid (blk_below (k := w.heap.size) hbl2 (by repeat (first | (with_reducible exact HX1.out) | (with_reducible apply blk_seq) | (with_reducible apply blk_draw) | (with_reducible apply blk_plus) | (with_reducible apply blk_alloc) | (with_reducible apply blk_drew) | (with_reducible refine blk_patch ?_ (by omega)) | exact HX1.out)) (by omega))
    have r2 := cell_of HX2.out
    have HB2 := Lib.hid (Below.trans (b := _) (Below.trans HB1.out (by repeat (first | exact Below.refl _ _ | refine below_plus ?_ (by first | omega | (simp <;> omega)) _ | refine Below.alloc ?_ (by first | omega | (simp <;> omega)) _ | refine below_patch ?_ (by omega) _ | refine Below.drew ?_))) (hbl2.mono (by omega)))
    have z2 := hbl2.size
    simp at z2
    have hx2 : w.heap.size < w2.heap.size := by omega
    clear hcb2 hbl2
    go_wp2_with (go_at_call 69; refine (EndCode_yes _ _ _ hs _).mono ?_; rintro e w' ⟨rfl, x8, rfl⟩)
    refine (write_end (lo := w.heap.size + 1) _ (HC2.out.plus _) HLM2.out (by rw [List.length_append, bitsL_len]; omega) k HN2.out hk10 (two l + 1) rfl (by omega) (by omega)).mono ?_
    rintro e w3 ⟨rfl, hcb3, hbl3, _⟩
    have HC3 := Lib.hid hcb3
    have HX3 := Lib.hid (blk_below (k := w.heap.size) hbl3 (by repeat (first | (with_reducible exact HX2.out) | (with_reducible apply blk_seq) | (with_reducible apply blk_draw) | (with_reducible apply blk_plus) | (with_reducible apply blk_alloc) | (with_reducible apply blk_drew) | (with_reducible refine blk_patch ?_ (by omega)) | exact HX2.out)) (by omega))
    have r3 := cell_of HX3.out
    have HB3 := Lib.hid (Below.trans (b := _) (Below.trans HB2.out (by repeat (first | exact Below.refl _ _ | refine below_plus ?_ (by first | omega | (simp <;> omega)) _ | refine Below.alloc ?_ (by first | omega | (simp <;> omega)) _ | refine below_patch ?_ (by omega) _ | refine Below.drew ?_))) (hbl3.mono (by omega)))
    have z3 := hbl3.size
    simp at z3
    have hx3 : w.heap.size < w3.heap.size := by omega
    clear hcb3 hbl3
    go_wp2_with fail
    obtain ⟨AE, capE, hblkE, hloE, hkbE, homE, hoffE, htbE⟩ := HC3.out.to HBE.out
    have rE := cell_of hblkE
    have hcvp : ∀ y : Ext, (convert 90 9 (.slice AE B.length capE)).run Try.prog (plus w3 y) = .ok (.string (bstr B)) (plus w3 y) := fun y => run_str_m (P := Try.prog) Try.underlying90 Try.underlying5 Try.underlying9 (homE.plus y)
    clear hblkE homE hoffE htbE
    refine wp_region_pt 10 (fun w' => ∃ y, w' = plus w3 y) (Plan.quiet 0 (Plan.quiet 1 (Plan.quiet 2 (Plan.quiet 3 (Plan.quiet 4 (Plan.quiet 5 (Plan.quiet 6 (Plan.quiet 7 (Plan.quiet 8 (Plan.one 9 (Plan.one 10 (Plan.one 11 Plan.done)))))))))))) (by kernel_rfl) (by kernel_rfl) (⟨_, drew_is_plus _⟩) ?_
    refine wpPt_val rfl rfl ?_
    apply Exists.intro
    refine ⟨fun w' hS => ?_, ?_⟩
    focus (obtain ⟨y3, rfl⟩ := hS; simp [go_sem, ↓IntWalk.iteOmega, rE, r3, hcvp] <;> first | done | exact rfl | (rw [IntWalk.i64_in _ (by omega)]; exact rfl) | trace_state)
    refine wpPt_val rfl rfl ?_
    apply Exists.intro
    refine ⟨fun w' hS => ?_, ?_⟩
    focus (obtain ⟨y3, rfl⟩ := hS; simp [go_sem, ↓IntWalk.iteOmega, rE, r3, hcvp] <;> first | done | exact rfl | (rw [IntWalk.i64_in _ (by omega)]; exact rfl) | trace_state)
    refine wpPt_val rfl rfl ?_
    apply Exists.intro
    refine ⟨fun w' hS => ?_, ?_⟩
    focus (obtain ⟨y3, rfl⟩ := hS; simp [go_sem, ↓IntWalk.iteOmega, rE, r3, hcvp] <;> first | done | exact rfl | (rw [IntWalk.i64_in _ (by omega)]; exact rfl) | trace_state)
    refine wpPt_val rfl rfl ?_
    apply Exists.intro
    refine ⟨fun w' hS => ?_, ?_⟩
    focus (obtain ⟨y3, rfl⟩ := hS; simp [go_sem, ↓IntWalk.iteOmega, rE, r3, hcvp] <;> first | done | exact rfl | (rw [IntWalk.i64_in _ (by omega)]; exact rfl) | trace_state)
    refine wpPt_val rfl rfl ?_
    apply Exists.intro
    refine ⟨fun w' hS => ?_, ?_⟩
    focus (obtain ⟨y3, rfl⟩ := hS; simp [go_sem, ↓IntWalk.iteOmega, rE, r3, hcvp] <;> first | done | exact rfl | (rw [IntWalk.i64_in _ (by omega)]; exact rfl) | trace_state)
    refine wpPt_val rfl rfl ?_
    apply Exists.intro
    refine ⟨fun w' hS => ?_, ?_⟩
    focus (obtain ⟨y3, rfl⟩ := hS; simp [go_sem, ↓IntWalk.iteOmega, rE, r3, hcvp] <;> first | done | exact rfl | (rw [IntWalk.i64_in _ (by omega)]; exact rfl) | trace_state)
    refine wpPt_val rfl rfl ?_
    apply Exists.intro
    refine ⟨fun w' hS => ?_, ?_⟩
    focus (obtain ⟨y3, rfl⟩ := hS; simp [go_sem, ↓IntWalk.iteOmega, rE, r3, hcvp] <;> first | done | exact rfl | (rw [IntWalk.i64_in _ (by omega)]; exact rfl) | trace_state)
    refine wpPt_val rfl rfl ?_
    apply Exists.intro
    refine ⟨fun w' hS => ?_, ?_⟩
    focus (obtain ⟨y3, rfl⟩ := hS; simp [go_sem, ↓IntWalk.iteOmega, rE, r3, hcvp] <;> first | done | exact rfl | (rw [IntWalk.i64_in _ (by omega)]; exact rfl) | trace_state)
    refine wpPt_val rfl rfl ?_
    apply Exists.intro
    refine ⟨fun w' hS => ?_, ?_⟩
    focus (obtain ⟨y3, rfl⟩ := hS; simp [go_sem, ↓IntWalk.iteOmega, rE, r3, hcvp] <;> first | done | exact rfl | (rw [IntWalk.i64_in _ (by omega)]; exact rfl) | trace_state)
    refine wpPt_one rfl rfl (fun K hK => ?_)
    go_simp
    refine (packBytes_any o (bstr B) _ (by rw [bstr_size]; omega)).mono ?_
    rintro e w' ⟨rfl, xe3, rfl⟩
    rw [bytes_bstr]
    refine hK _ _ (fun hkn => (by repeat (first | exact More.refl _ | (with_reducible apply more_seq) | (with_reducible apply more_draw) | apply More.plus | apply More.alloc | apply More.drew))) ?_
    clear hK K
    refine wpPt_one rfl rfl (fun K hK => ?_)
    go_simp
    refine hK _ _ (fun hkn => absurd hkn (by decide)) ?_
    clear hK K
    refine wpPt_one rfl rfl (fun K hK => ?_)
    go_simp
    refine hK _ _ (fun hkn => absurd hkn (by decide)) ?_
    clear hK K
    refine NoPanic.normal ?_
    go_wp2_with fail
    go_ret2
    exact ⟨rfl, below_more (Below.trans HB3.out (by repeat (first | exact Below.refl _ _ | refine below_plus ?_ (by first | omega | (simp <;> omega)) _ | refine Below.alloc ?_ (by first | omega | (simp <;> omega)) _ | refine below_patch ?_ (by omega) _ | refine Below.drew ?_)))⟩
  · have hn10 : n ≤ 10 := by have := wd_ten hlim; omega
    have hcl : KV o l m (ps.take b) (b : Int) (-1) := by have := hkv.cleared; simpa using this
    have hk10 : k ≤ 10 := by have := wd_ten hcl.lim; omega
    have HCO := Lib.hid (fun (W : World) (h : RdP W a cap ps) => coderOf_no o l m a cap ps b last sp sq W h hkv (by omega) n hn)
    obtain ⟨qs, hqs⟩ : ∃ qs, ps.take b = qs := ⟨_, rfl⟩
    rw [hqs] at HCO hk2 hcl
    have HLM2 := Lib.hid hcl.lim
    have HN2 := Lib.hid hk2
    have HBE := Lib.hid hBe
    have hBl : B.length ≤ 100 := by rw [hBe, List.length_append, List.length_append, bitsL_len, bitsL_len]; omega
    rw [decide_eq_true hz] at he1
    clear hn hBe hz hlim hkv hqs hk2 hcl
    go_enter Try.func47, Try.ntmps47
    go_wp2_with (go_at_call 92; refine (implWriterValid_any _ _ _ _ _ _ _ _ _ _ _ _ (by repeat (first | exact HRP.out | apply rd_seq | apply Rd.plus | apply Rd.alloc | apply Rd.drew | apply Rd.drewN | refine rd_patch ?_ _ _ (by intro A hA; first | (cases hA; show _ ≠ _; omega) | (have := hal A hA; omega)))) hs1 hs2).mono ?_; rintro e w' ⟨rfl, xv, rfl⟩; rw [HK.out])
    refine (HCO.out _ (by repeat (first | exact HRP.out | apply rd_seq | apply Rd.plus | apply Rd.alloc | apply Rd.drew | apply Rd.drewN | refine rd_patch ?_ _ _ (by intro A hA; first | (cases hA; show _ ≠ _; omega) | (have := hal A hA; omega))))).mono ?_
    rintro e w1 ⟨t, kb, rfl, hcb1, hbl1⟩
    have HC1 := Lib.hid (hcb1.lower (lo' := w.heap.size + 1) (by simp <;> omega))
    have HX1 := Lib.hid (blk_below (k := w.heap.size) (ob := .cells #[.int .i64 o, .int .i64 l, .int .i64 m, .slice a ps.length cap, .int .i64 b, .int .i64 last, .string sp, .string sq, .bool false] 61) hbl1 (by repeat (first | (with_reducible exact push_new _ _ _ (by simp)) | (with_reducible apply blk_plus) | (with_reducible apply blk_alloc) | (with_reducible apply blk_drew))) (by simp <;> omega))
    have r1 := cell_of HX1.out
    have HB1 := Lib.hid (Below.trans (a := w) (B := w.heap.size) (b := _) (by repeat (first | exact Below.refl _ _ | refine below_plus ?_ (by first | omega | (simp <;> omega)) _ | refine Below.alloc ?_ (by first | omega | (simp <;> omega)) _ | refine below_patch ?_ (by omega) _ | refine Below.drew ?_)) (hbl1.mono (by simp <;> omega)))
    have z1 := hbl1.size
    simp at z1
    have hx1 : w.heap.size < w1.heap.size := by omega
    clear hcb1 hbl1
    go_wp2_with (go_at_call 69; refine (EndCode_yes _ _ _ hs _).mono ?_; rintro e w' ⟨rfl, x8, rfl⟩)
    refine (write_end (lo := w.heap.size + 1) _ (HC1.out.plus _) HLM2.out (by rw [List.length_append, bitsL_len]; omega) k HN2.out hk10 (two l + 1) rfl (by omega) (by omega)).mono ?_
    rintro e w2 ⟨rfl, hcb2, hbl2, _⟩
    have HC2 := Lib.hid hcb2
    have HX2 := Lib.hid (blk_below (k := w.heap.size) hbl2 (by repeat (first | (with_reducible exact HX1.out) | (with_reducible apply blk_seq) | (with_reducible apply blk_draw) | (with_reducible apply blk_plus) | (with_reducible apply blk_alloc) | (with_reducible apply blk_drew) | (with_reducible refine blk_patch ?_ (by omega)) | exact HX1.out)) (by omega))
    have r2 := cell_of HX2.out
    have HB2 := Lib.hid (Below.trans (b := _) (Below.trans HB1.out (by repeat (first | exact Below.refl _ _ | refine below_plus ?_ (by first | omega | (simp <;> omega)) _ | refine Below.alloc ?_ (by first | omega | (simp <;> omega)) _ | refine below_patch ?_ (by omega) _ | refine Below.drew ?_))) (hbl2.mono (by omega)))
    have z2 := hbl2.size
    simp at z2
    have hx2 : w.heap.size < w2.heap.size := by omega
    clear hcb2 hbl2
    go_wp2_with fail
    obtain ⟨AE, capE, hblkE, hloE, hkbE, homE, hoffE, htbE⟩ := HC2.out.to HBE.out
    have rE := cell_of hblkE
    have hcvp : ∀ y : Ext, (convert 90 9 (.slice AE B.length capE)).run Try.prog (plus w2 y) = .ok (.string (bstr B)) (plus w2 y) := fun y => run_str_m (P := Try.prog) Try.underlying90 Try.underlying5 Try.underlying9 (homE.plus y)
    clear hblkE homE hoffE htbE
    refine wp_region_pt 10 (fun w' => ∃ y, w' = plus w2 y) (Plan.quiet 0 (Plan.quiet 1 (Plan.quiet 2 (Plan.quiet 3 (Plan.quiet 4 (Plan.quiet 5 (Plan.quiet 6 (Plan.quiet 7 (Plan.quiet 8 (Plan.one 9 (Plan.one 10 (Plan.one 11 Plan.done)))))))))))) (by kernel_rfl) (by kernel_rfl) (⟨_, drew_is_plus _⟩) ?_
    refine wpPt_val rfl rfl ?_
    apply Exists.intro
    refine ⟨fun w' hS => ?_, ?_⟩
    focus (obtain ⟨y3, rfl⟩ := hS; simp [go_sem, ↓IntWalk.iteOmega, rE, r2, hcvp] <;> first | done | exact rfl | (rw [IntWalk.i64_in _ (by omega)]; exact rfl) | trace_state)
    refine wpPt_val rfl rfl ?_
    apply Exists.intro
    refine ⟨fun w' hS => ?_, ?_⟩
    focus (obtain ⟨y3, rfl⟩ := hS; simp [go_sem, ↓IntWalk.iteOmega, rE, r2, hcvp] <;> first | done | exact rfl | (rw [IntWalk.i64_in _ (by omega)]; exact rfl) | trace_state)
    refine wpPt_val rfl rfl ?_
    apply Exists.intro
    refine ⟨fun w' hS => ?_, ?_⟩
    focus (obtain ⟨y3, rfl⟩ := hS; simp [go_sem, ↓IntWalk.iteOmega, rE, r2, hcvp] <;> first | done | exact rfl | (rw [IntWalk.i64_in _ (by omega)]; exact rfl) | trace_state)
    refine wpPt_val rfl rfl ?_
    apply Exists.intro
    refine ⟨fun w' hS => ?_, ?_⟩
    focus (obtain ⟨y3, rfl⟩ := hS; simp [go_sem, ↓IntWalk.iteOmega, rE, r2, hcvp] <;> first | done | exact rfl | (rw [IntWalk.i64_in _ (by omega)]; exact rfl) | trace_state)
    refine wpPt_val rfl rfl ?_
    apply Exists.intro
    refine ⟨fun w' hS => ?_, ?_⟩
    focus (obtain ⟨y3, rfl⟩ := hS; simp [go_sem, ↓IntWalk.iteOmega, rE, r2, hcvp] <;> first | done | exact rfl | (rw [IntWalk.i64_in _ (by omega)]; exact rfl) | trace_state)
    refine wpPt_val rfl rfl ?_
    apply Exists.intro
    refine ⟨fun w' hS => ?_, ?_⟩
    focus (obtain ⟨y3, rfl⟩ := hS; simp [go_sem, ↓IntWalk.iteOmega, rE, r2, hcvp] <;> first | done | exact rfl | (rw [IntWalk.i64_in _ (by omega)]; exact rfl) | trace_state)
    refine wpPt_val rfl rfl ?_
    apply Exists.intro
    refine ⟨fun w' hS => ?_, ?_⟩
    focus (obtain ⟨y3, rfl⟩ := hS; simp [go_sem, ↓IntWalk.iteOmega, rE, r2, hcvp] <;> first | done | exact rfl | (rw [IntWalk.i64_in _ (by omega)]; exact rfl) | trace_state)
    refine wpPt_val rfl rfl ?_
    apply Exists.intro
    refine ⟨fun w' hS => ?_, ?_⟩
    focus (obtain ⟨y3, rfl⟩ := hS; simp [go_sem, ↓IntWalk.iteOmega, rE, r2, hcvp] <;> first | done | exact rfl | (rw [IntWalk.i64_in _ (by omega)]; exact rfl) | trace_state)
    refine wpPt_val rfl rfl ?_
    apply Exists.intro
    refine ⟨fun w' hS => ?_, ?_⟩
    focus (obtain ⟨y3, rfl⟩ := hS; simp [go_sem, ↓IntWalk.iteOmega, rE, r2, hcvp] <;> first | done | exact rfl | (rw [IntWalk.i64_in _ (by omega)]; exact rfl) | trace_state)
    refine wpPt_one rfl rfl (fun K hK => ?_)
    go_simp
    refine (packBytes_any o (bstr B) _ (by rw [bstr_size]; omega)).mono ?_
    rintro e w' ⟨rfl, xe3, rfl⟩
    rw [bytes_bstr]
    refine hK _ _ (fun hkn => (by repeat (first | exact More.refl _ | (with_reducible apply more_seq) | (with_reducible apply more_draw) | apply More.plus | apply More.alloc | apply More.drew))) ?_
    clear hK K
    refine wpPt_one rfl rfl (fun K hK => ?_)
    go_simp
    refine hK _ _ (fun hkn => absurd hkn (by decide)) ?_
    clear hK K
    refine wpPt_one rfl rfl (fun K hK => ?_)
    go_simp
    refine hK _ _ (fun hkn => absurd hkn (by decide)) ?_
    clear hK K
    refine NoPanic.normal ?_
    go_wp2_with fail
    go_ret2
    exact ⟨rfl, below_more (Below.trans HB2.out (by repeat (first | exact Below.refl _ _ | refine below_plus ?_ (by first | omega | (simp <;> omega)) _ | refine Below.alloc ?_ (by first | omega | (simp <;> omega)) _ | refine below_patch ?_ (by omega) _ | refine Below.drew ?_)))⟩

end Go.Proofs.Ytmenpflcmpihpaa
