/- Lemmas and walks, part Gf. -/
import Derived.Test.YtmddcbebaijjkaaGreatDoorGe
import Derived.Test.YtmddcbebaijjkaaGreatDoorGd
import Derived.Deep.DeepCutAuto

/- The walk of spec.l2After: what is known behind a code that has a word. -/
namespace Go.Proofs.YtmddcbebaijjkaaGreatDoor
open Go.RowKit
set_option linter.unusedVariables false
set_option linter.unusedSimpArgs false

theorem grew_seq {A : Option Addr} {w w' : World} {x y : Ext} (h : Grew A w (plus w' x)) : Grew A w (plus w' (x.seq y)) := by
  rw [← plus_plus]; exact grew_plus h y

theorem grew_draw {A : Option Addr} {w w' : World} {x : Ext} {n : Nat} (h : Grew A w (plus w' x)) : Grew A w (plus w' (x.draw n)) :=
  grew_trans h ⟨rfl, rfl, rfl, Nat.le_refl _, fun _ _ _ => rfl⟩

theorem any_len {l m : Int} {ps : List Pr} {last c : Int} (hok : OKs l ps) (hlast : last = -1 ∨ hw l ps.length last = true) (hc : Okc l m ps.length last c) : 0 < (anyW l ps last c).length := by
  rcases hc with h | ⟨hg, rfl⟩
  · rw [any_hw h]; exact W_pos hok h
  · have hl : hw l ps.length last = true := by
      rcases hlast with rfl | h
      · exact absurd rfl (grB_iff.1 hg).1
      · exact h
    have := W_pos hok hl
    rw [any_nw]
    simp; omega

theorem bstr_first {x : List UInt8} (h : 0 < x.length) : (((bstr x)[0]'(by rw [bstr_size]; exact h)).toNat : Int) = hd x := by
  cases x with
  | nil => simp at h
  | cons a x => rfl

/-- what l2After has laid out first -/
def Out1 (o l m : Int) (ps : List Pr) (base c : Int) (B : Nat) (w0 : World) (s5 : Value) (wx : World) : Prop :=
  ∃ (p : Nat) (pa : Option Addr) (pc : Nat), s5 = .pointer (some ⟨p, 0, none⟩) ∧ wx.heap[p]? = some (.cells #[.int .i64 o, .int .i64 l, .int .i64 m, .slice pa ps.length pc, .int .i64 base, .int .i64 c] 26 (0, 0)) ∧
    Own encP 81 wx pa pc ps B ∧ Off pa p ∧ B ≤ p ∧ Below B w0 wx

set_option maxRecDepth 100000 in
set_option maxHeartbeats 4000000 in
theorem l2After_any (o l m : Int) (a : Option Addr) (cap : Nat) (ps : List Pr) (base last : Int) (c : Int) (w : World) (hr : RdP w a cap ps) (hkv : KV o l m ps base last) (hc : Okc l m ps.length last c) :
    Calls Tryz.prog 112 #[.agg #[.int .i64 o, .int .i64 l, .int .i64 m, .slice a ps.length cap, .int .i64 base, .int .i64 last], .int .i64 c] w (RetK w o l m (aftP l m ps last c) base c) := by
  have hlen := kv_len (kvb_iff.2 hkv)
  have hs := hkv.s
  have hlim := hkv.lim
  have hlast := hlim.last
  obtain ⟨l1, l2, m2, lm, t1, t2, t4, t3⟩ := hlim.bds
  obtain ⟨i0, hi, hz0, hz1, hz2⟩ := info_parts infoPair
  have HV := Lib.hid hkv
  have HO := Lib.hid hc
  have HR := Lib.hid (show Rd encP w a cap ps from hr)
  have hcap := hr.2.1
  have hcap1 := hr.1
  clear hkv hc hlim hr
  go_enter Tryz.func112, Tryz.ntmps112
  go_upto_region 1 with (fail)
  go_cut [5] (fun s5 wx => Out1 o l m ps base c (w.heap.size + 2) ((w.alloc (.cells #[.int .i64 o, .int .i64 l, .int .i64 m, .slice a ps.length cap, .int .i64 base, .int .i64 last] 26)).alloc (.cells #[.int .i64 0, .int .i64 0, .int .i64 0, .slice none 0 0, .int .i64 0, .int .i64 0] 26)) s5 wx)
  case first =>
    rcases Nat.eq_zero_or_pos ps.length with h0 | h0
    · have H0 := Lib.hid h0
      clear h0
      refine wp_region_pt 11 (fun w' => ∃ y, w' = plus _ y) (Plan.quiet 0 (Plan.quiet 1 (Plan.quiet 3 (Plan.quiet 4 (Plan.quiet 6 (Plan.quiet 7 (Plan.quiet 8 (Plan.two 2 (Plan.two 5 (Plan.quiet 9 (Plan.one 10 (Plan.one 11 Plan.done))) 10 (Plan.one 5 (Plan.quiet 9 (Plan.one 11 Plan.done)))) 10 (Plan.one 2 (Plan.one 5 (Plan.quiet 9 (Plan.one 11 Plan.done)))))))))))) (by kernel_rfl) (by kernel_rfl) (⟨_, drew_is_plus _⟩) ?_
      refine wpPt_val rfl rfl ?_
      apply Exists.intro
      refine ⟨fun w' hS => ?_, ?_⟩
      focus (obtain ⟨y2, rfl⟩ := hS; simp [go_sem, ↓IntWalk.iteOmega, hcap] <;> first | done | exact rfl | (rw [IntWalk.i64_in _ (by omega)]; exact rfl) | trace_state)
      refine wpPt_val rfl rfl ?_
      apply Exists.intro
      refine ⟨fun w' hS => ?_, ?_⟩
      focus (obtain ⟨y2, rfl⟩ := hS; simp [go_sem, ↓IntWalk.iteOmega, hcap] <;> first | done | exact rfl | (rw [IntWalk.i64_in _ (by omega)]; exact rfl) | trace_state)
      refine wpPt_val rfl rfl ?_
      apply Exists.intro
      refine ⟨fun w' hS => ?_, ?_⟩
      focus (obtain ⟨y2, rfl⟩ := hS; simp [go_sem, ↓IntWalk.iteOmega, hcap] <;> first | done | exact rfl | (rw [IntWalk.i64_in _ (by omega)]; exact rfl) | trace_state)
      refine wpPt_val rfl rfl ?_
      apply Exists.intro
      refine ⟨fun w' hS => ?_, ?_⟩
      focus (obtain ⟨y2, rfl⟩ := hS; simp [go_sem, ↓IntWalk.iteOmega, hcap] <;> first | done | exact rfl | (rw [IntWalk.i64_in _ (by omega)]; exact rfl) | trace_state)
      refine wpPt_val rfl rfl ?_
      apply Exists.intro
      refine ⟨fun w' hS => ?_, ?_⟩
      focus (obtain ⟨y2, rfl⟩ := hS; simp [go_sem, ↓IntWalk.iteOmega, hcap] <;> first | done | exact rfl | (rw [IntWalk.i64_in _ (by omega)]; exact rfl) | trace_state)
      refine wpPt_val rfl rfl ?_
      apply Exists.intro
      refine ⟨fun w' hS => ?_, ?_⟩
      focus (obtain ⟨y2, rfl⟩ := hS; simp [go_sem, ↓IntWalk.iteOmega, hcap] <;> first | done | exact rfl | (rw [IntWalk.i64_in _ (by omega)]; exact rfl) | trace_state)
      refine wpPt_val rfl rfl ?_
      apply Exists.intro
      refine ⟨fun w' hS => ?_, ?_⟩
      focus (obtain ⟨y2, rfl⟩ := hS; simp [go_sem, ↓IntWalk.iteOmega, hcap] <;> first | done | exact rfl | (rw [IntWalk.i64_in _ (by omega)]; exact rfl) | trace_state)
      refine wpPt_two rfl rfl rfl rfl (fun K hK => ?_) (fun K hK => ?_)
      go_simp
      refine hK _ _ (fun hkn => (by repeat (first | exact More.refl _ | (with_reducible apply more_seq) | (with_reducible apply more_draw) | apply More.plus | apply More.alloc | apply More.drew))) ?_
      clear hK K
      refine wpPt_two rfl rfl rfl rfl (fun K hK => ?_) (fun K hK => ?_)
      refine oper_append_none _ _ _ _ i0 rfl Tryz.underlying24 hi a _ cap rfl (by rw [← H0.out]; rfl) ?_
      refine hK _ _ (fun hkn => (by repeat (first | exact More.refl _ | (with_reducible apply more_seq) | (with_reducible apply more_draw) | apply More.plus | apply More.alloc | apply More.drew))) ?_
      clear hK K
      refine wpPt_val rfl rfl ?_
      apply Exists.intro
      refine ⟨fun w' hS => ?_, ?_⟩
      focus (obtain ⟨y2, rfl⟩ := hS; simp [go_sem, ↓IntWalk.iteOmega, hcap] <;> first | done | exact rfl | (rw [IntWalk.i64_in _ (by omega)]; exact rfl) | trace_state)
      refine wpPt_one rfl rfl (fun K hK => ?_)
      go_simp
      refine hK _ _ (fun hkn => (by repeat (first | exact More.refl _ | (with_reducible apply more_seq) | (with_reducible apply more_draw) | apply More.plus | apply More.alloc | apply More.drew))) ?_
      clear hK K
      refine wpPt_one rfl rfl (fun K hK => ?_)
      go_simp
      refine hK _ _ (fun hkn => absurd hkn (by decide)) ?_
      clear hK K
      refine NoPanic.normal ?_
      rotate_left
      go_simp
      refine hK _ _ (fun hkn => (by repeat (first | exact More.refl _ | (with_reducible apply more_seq) | (with_reducible apply more_draw) | apply More.plus | apply More.alloc | apply More.drew))) ?_
      clear hK K
      refine wpPt_one rfl rfl (fun K hK => ?_)
      refine oper_append_none _ _ _ _ i0 rfl Tryz.underlying24 hi a _ cap rfl (by rw [← H0.out]; rfl) ?_
      refine hK _ _ (fun hkn => (by repeat (first | exact More.refl _ | (with_reducible apply more_seq) | (with_reducible apply more_draw) | apply More.plus | apply More.alloc | apply More.drew))) ?_
      clear hK K
      refine wpPt_val rfl rfl ?_
      apply Exists.intro
      refine ⟨fun w' hS => ?_, ?_⟩
      focus (obtain ⟨y2, rfl⟩ := hS; simp [go_sem, ↓IntWalk.iteOmega, hcap] <;> first | done | exact rfl | (rw [IntWalk.i64_in _ (by omega)]; exact rfl) | trace_state)
      refine wpPt_one rfl rfl (fun K hK => ?_)
      go_simp
      refine hK _ _ (fun hkn => absurd hkn (by decide)) ?_
      clear hK K
      refine NoPanic.normal ?_
      rotate_left
      go_simp
      refine hK _ _ (fun hkn => (by repeat (first | exact More.refl _ | (with_reducible apply more_seq) | (with_reducible apply more_draw) | apply More.plus | apply More.alloc | apply More.drew))) ?_
      clear hK K
      refine wpPt_one rfl rfl (fun K hK => ?_)
      go_simp
      refine hK _ _ (fun hkn => (by repeat (first | exact More.refl _ | (with_reducible apply more_seq) | (with_reducible apply more_draw) | apply More.plus | apply More.alloc | apply More.drew))) ?_
      clear hK K
      refine wpPt_one rfl rfl (fun K hK => ?_)
      refine oper_append_none _ _ _ _ i0 rfl Tryz.underlying24 hi a _ cap rfl (by rw [← H0.out]; rfl) ?_
      refine hK _ _ (fun hkn => (by repeat (first | exact More.refl _ | (with_reducible apply more_seq) | (with_reducible apply more_draw) | apply More.plus | apply More.alloc | apply More.drew))) ?_
      clear hK K
      refine wpPt_val rfl rfl ?_
      apply Exists.intro
      refine ⟨fun w' hS => ?_, ?_⟩
      focus (obtain ⟨y2, rfl⟩ := hS; simp [go_sem, ↓IntWalk.iteOmega, hcap] <;> first | done | exact rfl | (rw [IntWalk.i64_in _ (by omega)]; exact rfl) | trace_state)
      refine wpPt_one rfl rfl (fun K hK => ?_)
      go_simp
      refine hK _ _ (fun hkn => absurd hkn (by decide)) ?_
      clear hK K
      refine NoPanic.normal ?_
      all_goals
        go_wp2_with fail
        go_meet
        obtain rfl : ps = [] := List.eq_nil_of_length_eq_zero H0.out
        refine ⟨_, some ⟨_, 0, none⟩, 0, rfl, (by repeat (first | exact push_new _ _ _ (by simp) | apply blk_drew | apply blk_alloc)), (by repeat (first | exact Own.newAt (by simp) (by simp <;> omega) rfl (rowP_of _ _ (fun i p h => by simp at h)) (by simp) (by omega) | apply Own.drew | apply Own.alloc)), ?_, by omega, (by repeat (first | exact Below.refl _ _ | refine below_plus ?_ (by first | omega | (simp <;> omega)) _ | refine Below.alloc ?_ (by first | omega | (simp <;> omega)) _ | refine below_patch ?_ (by omega) _ | refine Below.drew ?_))⟩
        intro A hA
        cases hA
        first | (simp; done) | (simp; omega) | (show _ ≠ _; omega)
    · have HH := Lib.hid h0
      clear h0
      refine wp_region_pt 11 (fun w' => ∃ y, w' = plus _ y) (Plan.quiet 0 (Plan.quiet 1 (Plan.quiet 3 (Plan.quiet 4 (Plan.quiet 6 (Plan.quiet 7 (Plan.quiet 8 (Plan.two 2 (Plan.two 5 (Plan.quiet 9 (Plan.one 10 (Plan.one 11 Plan.done))) 10 (Plan.one 5 (Plan.quiet 9 (Plan.one 11 Plan.done)))) 10 (Plan.one 2 (Plan.one 5 (Plan.quiet 9 (Plan.one 11 Plan.done)))))))))))) (by kernel_rfl) (by kernel_rfl) (⟨_, drew_is_plus _⟩) ?_
      refine wpPt_val rfl rfl ?_
      apply Exists.intro
      refine ⟨fun w' hS => ?_, ?_⟩
      focus (obtain ⟨y2, rfl⟩ := hS; simp [go_sem, ↓IntWalk.iteOmega, hcap] <;> first | done | exact rfl | (rw [IntWalk.i64_in _ (by omega)]; exact rfl) | trace_state)
      refine wpPt_val rfl rfl ?_
      apply Exists.intro
      refine ⟨fun w' hS => ?_, ?_⟩
      focus (obtain ⟨y2, rfl⟩ := hS; simp [go_sem, ↓IntWalk.iteOmega, hcap] <;> first | done | exact rfl | (rw [IntWalk.i64_in _ (by omega)]; exact rfl) | trace_state)
      refine wpPt_val rfl rfl ?_
      apply Exists.intro
      refine ⟨fun w' hS => ?_, ?_⟩
      focus (obtain ⟨y2, rfl⟩ := hS; simp [go_sem, ↓IntWalk.iteOmega, hcap] <;> first | done | exact rfl | (rw [IntWalk.i64_in _ (by omega)]; exact rfl) | trace_state)
      refine wpPt_val rfl rfl ?_
      apply Exists.intro
      refine ⟨fun w' hS => ?_, ?_⟩
      focus (obtain ⟨y2, rfl⟩ := hS; simp [go_sem, ↓IntWalk.iteOmega, hcap] <;> first | done | exact rfl | (rw [IntWalk.i64_in _ (by omega)]; exact rfl) | trace_state)
      refine wpPt_val rfl rfl ?_
      apply Exists.intro
      refine ⟨fun w' hS => ?_, ?_⟩
      focus (obtain ⟨y2, rfl⟩ := hS; simp [go_sem, ↓IntWalk.iteOmega, hcap] <;> first | done | exact rfl | (rw [IntWalk.i64_in _ (by omega)]; exact rfl) | trace_state)
      refine wpPt_val rfl rfl ?_
      apply Exists.intro
      refine ⟨fun w' hS => ?_, ?_⟩
      focus (obtain ⟨y2, rfl⟩ := hS; simp [go_sem, ↓IntWalk.iteOmega, hcap] <;> first | done | exact rfl | (rw [IntWalk.i64_in _ (by omega)]; exact rfl) | trace_state)
      refine wpPt_val rfl rfl ?_
      apply Exists.intro
      refine ⟨fun w' hS => ?_, ?_⟩
      focus (obtain ⟨y2, rfl⟩ := hS; simp [go_sem, ↓IntWalk.iteOmega, hcap] <;> first | done | exact rfl | (rw [IntWalk.i64_in _ (by omega)]; exact rfl) | trace_state)
      refine wpPt_two rfl rfl rfl rfl (fun K hK => ?_) (fun K hK => ?_)
      go_simp
      refine hK _ _ (fun hkn => (by repeat (first | exact More.refl _ | (with_reducible apply more_seq) | (with_reducible apply more_draw) | apply More.plus | apply More.alloc | apply More.drew))) ?_
      clear hK K
      refine wpPt_two rfl rfl rfl rfl (fun K hK => ?_) (fun K hK => ?_)
      refine oper_append_new encP _ _ _ _ i0 _ 16 rfl Tryz.underlying24 hi hz0 hz1 hz2 rfl ps a cap (by repeat (first | (with_reducible exact HR.out) | (with_reducible apply Rd.plus) | (with_reducible apply Rd.alloc) | (with_reducible apply Rd.drew))) HH.out _ rfl rfl (by omega) (by omega) ?_
      intro cc cur hrow hc3 hc4 hsz
      have HW := Lib.hid hrow
      have HZ := Lib.hid hsz
      clear hrow hsz
      refine hK _ _ (fun hkn => (by repeat (first | exact More.refl _ | (with_reducible apply more_seq) | (with_reducible apply more_draw) | apply More.plus | apply More.alloc | apply More.drew))) ?_
      clear hK K
      refine wpPt_val rfl rfl ?_
      apply Exists.intro
      refine ⟨fun w' hS => ?_, ?_⟩
      focus (obtain ⟨y2, rfl⟩ := hS; simp [go_sem, ↓IntWalk.iteOmega, hcap] <;> first | done | exact rfl | (rw [IntWalk.i64_in _ (by omega)]; exact rfl) | trace_state)
      refine wpPt_one rfl rfl (fun K hK => ?_)
      go_simp
      refine hK _ _ (fun hkn => (by repeat (first | exact More.refl _ | (with_reducible apply more_seq) | (with_reducible apply more_draw) | apply More.plus | apply More.alloc | apply More.drew))) ?_
      clear hK K
      refine wpPt_one rfl rfl (fun K hK => ?_)
      go_simp
      refine hK _ _ (fun hkn => absurd hkn (by decide)) ?_
      clear hK K
      refine NoPanic.normal ?_
      rotate_left
      go_simp
      refine hK _ _ (fun hkn => (by repeat (first | exact More.refl _ | (with_reducible apply more_seq) | (with_reducible apply more_draw) | apply More.plus | apply More.alloc | apply More.drew))) ?_
      clear hK K
      refine wpPt_one rfl rfl (fun K hK => ?_)
      refine oper_append_new encP _ _ _ _ i0 _ 16 rfl Tryz.underlying24 hi hz0 hz1 hz2 rfl ps a cap (by repeat (first | (with_reducible exact HR.out) | (with_reducible apply Rd.plus) | (with_reducible apply Rd.alloc) | (with_reducible apply Rd.drew))) HH.out _ rfl rfl (by omega) (by omega) ?_
      intro cc cur hrow hc3 hc4 hsz
      have HW := Lib.hid hrow
      have HZ := Lib.hid hsz
      clear hrow hsz
      refine hK _ _ (fun hkn => (by repeat (first | exact More.refl _ | (with_reducible apply more_seq) | (with_reducible apply more_draw) | apply More.plus | apply More.alloc | apply More.drew))) ?_
      clear hK K
      refine wpPt_val rfl rfl ?_
      apply Exists.intro
      refine ⟨fun w' hS => ?_, ?_⟩
      focus (obtain ⟨y2, rfl⟩ := hS; simp [go_sem, ↓IntWalk.iteOmega, hcap] <;> first | done | exact rfl | (rw [IntWalk.i64_in _ (by omega)]; exact rfl) | trace_state)
      refine wpPt_one rfl rfl (fun K hK => ?_)
      go_simp
      refine hK _ _ (fun hkn => absurd hkn (by decide)) ?_
      clear hK K
      refine NoPanic.normal ?_
      rotate_left
      go_simp
      refine hK _ _ (fun hkn => (by repeat (first | exact More.refl _ | (with_reducible apply more_seq) | (with_reducible apply more_draw) | apply More.plus | apply More.alloc | apply More.drew))) ?_
      clear hK K
      refine wpPt_one rfl rfl (fun K hK => ?_)
      go_simp
      refine hK _ _ (fun hkn => (by repeat (first | exact More.refl _ | (with_reducible apply more_seq) | (with_reducible apply more_draw) | apply More.plus | apply More.alloc | apply More.drew))) ?_
      clear hK K
      refine wpPt_one rfl rfl (fun K hK => ?_)
      refine oper_append_new encP _ _ _ _ i0 _ 16 rfl Tryz.underlying24 hi hz0 hz1 hz2 rfl ps a cap (by repeat (first | (with_reducible exact HR.out) | (with_reducible apply Rd.plus) | (with_reducible apply Rd.alloc) | (with_reducible apply Rd.drew))) HH.out _ rfl rfl (by omega) (by omega) ?_
      intro cc cur hrow hc3 hc4 hsz
      have HW := Lib.hid hrow
      have HZ := Lib.hid hsz
      clear hrow hsz
      refine hK _ _ (fun hkn => (by repeat (first | exact More.refl _ | (with_reducible apply more_seq) | (with_reducible apply more_draw) | apply More.plus | apply More.alloc | apply More.drew))) ?_
      clear hK K
      refine wpPt_val rfl rfl ?_
      apply Exists.intro
      refine ⟨fun w' hS => ?_, ?_⟩
      focus (obtain ⟨y2, rfl⟩ := hS; simp [go_sem, ↓IntWalk.iteOmega, hcap] <;> first | done | exact rfl | (rw [IntWalk.i64_in _ (by omega)]; exact rfl) | trace_state)
      refine wpPt_one rfl rfl (fun K hK => ?_)
      go_simp
      refine hK _ _ (fun hkn => absurd hkn (by decide)) ?_
      clear hK K
      refine NoPanic.normal ?_
      all_goals
        go_wp2_with fail
        go_meet
        refine ⟨_, some ⟨_, 0, none⟩, cc, rfl, (by repeat (first | exact push_new _ _ _ (by simp) | apply blk_drew | apply blk_alloc)), (by repeat (first | exact Own.newAt (by simp) (by simp <;> omega) HZ.out HW.out hc3 hc4 | apply Own.drew | apply Own.alloc)), ?_, by omega, (by repeat (first | exact Below.refl _ _ | refine below_plus ?_ (by first | omega | (simp <;> omega)) _ | refine Below.alloc ?_ (by first | omega | (simp <;> omega)) _ | refine below_patch ?_ (by omega) _ | refine Below.drew ?_))⟩
        intro A hA
        cases hA
        first | (simp; done) | (simp; omega) | (show _ ≠ _; omega)
  case rest =>
    obtain ⟨p, pa, pc, rfl, hblk, hown, hoff, hle, hbl⟩ := hcut
    have hq := blk_below hbl (push_new _ _ (w.heap.size + 1) (by simp)) (by omega)
    have hk := blk_below hbl (blk_alloc (push_new w _ _ rfl) _) (by omega)
    have rb := cell_of hblk
    have fb := free_of hblk
    have rq := cell_of hq
    have fq := free_of hq
    have rk := cell_of hk
    have hp := (Array.getElem?_eq_some_iff.1 hblk).1
    have hz := hbl.size
    simp at hz
    have hzq1 : w.heap.size + 1 < wc.heap.size := by omega
    have hzq2 : w.heap.size < wc.heap.size := by omega
    have HB := Lib.hid hblk
    have HW := Lib.hid hown
    have HQ := Lib.hid hq
    have HL := Lib.hid hbl
    have hpc : ps.length ≤ pc := by
      rcases hown with ⟨_, _, e3⟩ | ⟨_, _, _, _, _, _, _, e5, _⟩
      · rw [e3]; simp
      · exact e5
    have HOF := Lib.hid hoff
    clear hblk hown hq hk hbl hoff
    cases hg : grB l m ps.length last
    · have HA := Lib.hid (show aftP l m ps last c = ps by unfold aftP; rw [hg]; rfl)
      have sq := fun v => setCell_patch HQ.out 0 v
      go_wp2_with (go_at_call 143; refine (l2Grows_any _ _ _ _ _ _ _ _ _ hs (by omega) hlast).mono ?_; rintro e w' ⟨rfl, x1, rfl⟩)
      rw [HA.out]
      refine bodyPost_ret (v := .agg #[.int .i64 o, .int .i64 l, .int .i64 m, .slice pa ps.length pc, .int .i64 base, .int .i64 c]) (by simp [results, Tryz.results112, go_sem, hzq1]) rfl ⟨pa, pc, rfl, Own.plus (own_patch (HW.out.lower (by omega)) (fun A hA e => by have := (own_lt HW.out A hA).1; omega)) _, below_more ?_⟩
      exact below_plus (below_patch ((show Below w.heap.size w _ from (by repeat (first | exact Below.refl _ _ | refine below_plus ?_ (by first | omega | (simp <;> omega)) _ | refine Below.alloc ?_ (by first | omega | (simp <;> omega)) _ | refine below_patch ?_ (by omega) _ | refine Below.drew ?_))).trans (HL.out.mono (by omega))) (by omega) _) (by simp; omega) _
    · have HA := Lib.hid (show aftP l m ps last c = ps ++ [⟨last, hd (anyW l ps last c)⟩] by unfold aftP; rw [hg, if_pos rfl])
      have hal := any_len HV.out.ok (HV.out.last.imp (fun h => h.1) id) HO.out
      obtain ⟨H, hH⟩ : ∃ H, hd (anyW l ps last c) = H := ⟨_, rfl⟩
      obtain ⟨y2, hy2⟩ : ∃ y2, bstr (anyW l ps last c) = y2 := ⟨_, rfl⟩
      have hy0 : 0 < y2.size := by rw [← hy2, bstr_size]; exact hal
      have hyH : ((y2[0]'hy0).toNat : Int) = H := by
        subst hy2
        rw [← hH]
        exact bstr_first hal
      have hHb := hd_bd (anyW l ps last c)
      rw [hH] at hHb HA
      obtain ⟨hH0, hH1⟩ := hHb
      have HY := Lib.hid hy2
      have hwr : IntKind.i64.wrap H = H := IntWalk.i64_in H (by omega)
      have HRc := Lib.hid (show Rd encP wc a cap ps from (Rd.alloc (Rd.alloc HR.out _) _).of_block fun A _ hs => ⟨by simp at hs; omega, HL.out.block _ (by simp at hs; omega)⟩)
      have HOP := Lib.hid (show Off pa w.heap.size from fun A hA e => by have := (own_lt HW.out A hA).1; omega)
      have HOQ := Lib.hid (show Off pa (w.heap.size + 1) from fun A hA e => by have := (own_lt HW.out A hA).1; omega)
      have hpq : p ≠ w.heap.size + 1 := by omega
      clear hal hH hy2
      go_wp2_with (go_at_call 143; refine (l2Grows_any _ _ _ _ _ _ _ _ _ hs (by omega) hlast).mono ?_; rintro e w' ⟨rfl, x1, rfl⟩)
      refine wp_region_pt 12 (fun w' => Grew pa _ w') (Plan.quiet 0 (Plan.quiet 1 (Plan.quiet 2 (Plan.quiet 3 (Plan.quiet 4 (Plan.quiet 5 (Plan.one 6 (Plan.quiet 7 (Plan.quiet 8 (Plan.quiet 9 (Plan.one 10 (Plan.one 11 (Plan.one 12 (Plan.one 13 Plan.done)))))))))))))) (by kernel_rfl) (by kernel_rfl) (grew_drew (grew_refl _ _)) ?_
      refine wpPt_val rfl rfl ?_
      apply Exists.intro
      refine ⟨fun w' hS => ?_, ?_⟩
      focus (have r1 := fun i => grew_rule_off hS (n := p) (by simp; omega) HOF.out i; have r2 := fun i => grew_rule_off hS (n := w.heap.size) (by simp; omega) HOP.out i; simp [go_sem, ↓IntWalk.iteOmega, hyH, hwr, r1, r2, rb, rk, hy0, hpc] <;> first | done | exact rfl | (rw [IntWalk.i64_in _ (by omega)]; exact rfl) | trace_state)
      refine wpPt_val rfl rfl ?_
      apply Exists.intro
      refine ⟨fun w' hS => ?_, ?_⟩
      focus (have r1 := fun i => grew_rule_off hS (n := p) (by simp; omega) HOF.out i; have r2 := fun i => grew_rule_off hS (n := w.heap.size) (by simp; omega) HOP.out i; simp [go_sem, ↓IntWalk.iteOmega, hyH, hwr, r1, r2, rb, rk, hy0, hpc] <;> first | done | exact rfl | (rw [IntWalk.i64_in _ (by omega)]; exact rfl) | trace_state)
      refine wpPt_val rfl rfl ?_
      apply Exists.intro
      refine ⟨fun w' hS => ?_, ?_⟩
      focus (have r1 := fun i => grew_rule_off hS (n := p) (by simp; omega) HOF.out i; have r2 := fun i => grew_rule_off hS (n := w.heap.size) (by simp; omega) HOP.out i; simp [go_sem, ↓IntWalk.iteOmega, hyH, hwr, r1, r2, rb, rk, hy0, hpc] <;> first | done | exact rfl | (rw [IntWalk.i64_in _ (by omega)]; exact rfl) | trace_state)
      refine wpPt_val rfl rfl ?_
      apply Exists.intro
      refine ⟨fun w' hS => ?_, ?_⟩
      focus (have r1 := fun i => grew_rule_off hS (n := p) (by simp; omega) HOF.out i; have r2 := fun i => grew_rule_off hS (n := w.heap.size) (by simp; omega) HOP.out i; simp [go_sem, ↓IntWalk.iteOmega, hyH, hwr, r1, r2, rb, rk, hy0, hpc] <;> first | done | exact rfl | (rw [IntWalk.i64_in _ (by omega)]; exact rfl) | trace_state)
      refine wpPt_val rfl rfl ?_
      apply Exists.intro
      refine ⟨fun w' hS => ?_, ?_⟩
      focus (have r1 := fun i => grew_rule_off hS (n := p) (by simp; omega) HOF.out i; have r2 := fun i => grew_rule_off hS (n := w.heap.size) (by simp; omega) HOP.out i; simp [go_sem, ↓IntWalk.iteOmega, hyH, hwr, r1, r2, rb, rk, hy0, hpc] <;> first | done | exact rfl | (rw [IntWalk.i64_in _ (by omega)]; exact rfl) | trace_state)
      refine wpPt_val rfl rfl ?_
      apply Exists.intro
      refine ⟨fun w' hS => ?_, ?_⟩
      focus (have r1 := fun i => grew_rule_off hS (n := p) (by simp; omega) HOF.out i; have r2 := fun i => grew_rule_off hS (n := w.heap.size) (by simp; omega) HOP.out i; simp [go_sem, ↓IntWalk.iteOmega, hyH, hwr, r1, r2, rb, rk, hy0, hpc] <;> first | done | exact rfl | (rw [IntWalk.i64_in _ (by omega)]; exact rfl) | trace_state)
      refine wpPt_one rfl rfl (fun K hK => ?_)
      go_simp
      refine (l2Any_any o l m a cap ps base last c _ (by repeat (first | (with_reducible exact HRc.out) | apply Rd.plus | apply Rd.alloc | apply Rd.drew)) HV.out HO.out).mono ?_
      rintro e w' ⟨rfl, x2, rfl⟩
      rw [HY.out]
      refine hK _ _ (fun hkn => (by repeat (first | exact grew_refl _ _ | (with_reducible apply grew_seq) | (with_reducible apply grew_draw) | (with_reducible apply grew_alloc) | (with_reducible apply grew_drew) | (with_reducible apply grew_plus)))) ?_
      clear hK K
      refine wpPt_val rfl rfl ?_
      apply Exists.intro
      refine ⟨fun w' hS => ?_, ?_⟩
      focus (have r1 := fun i => grew_rule_off hS (n := p) (by simp; omega) HOF.out i; have r2 := fun i => grew_rule_off hS (n := w.heap.size) (by simp; omega) HOP.out i; simp [go_sem, ↓IntWalk.iteOmega, hyH, hwr, r1, r2, rb, rk, hy0, hpc] <;> first | done | exact rfl | (rw [IntWalk.i64_in _ (by omega)]; exact rfl) | trace_state)
      refine wpPt_val rfl rfl ?_
      apply Exists.intro
      refine ⟨fun w' hS => ?_, ?_⟩
      focus (have r1 := fun i => grew_rule_off hS (n := p) (by simp; omega) HOF.out i; have r2 := fun i => grew_rule_off hS (n := w.heap.size) (by simp; omega) HOP.out i; simp [go_sem, ↓IntWalk.iteOmega, hyH, hwr, r1, r2, rb, rk, hy0, hpc] <;> first | done | exact rfl | (rw [IntWalk.i64_in _ (by omega)]; exact rfl) | trace_state)
      refine wpPt_val rfl rfl ?_
      apply Exists.intro
      refine ⟨fun w' hS => ?_, ?_⟩
      focus (have r1 := fun i => grew_rule_off hS (n := p) (by simp; omega) HOF.out i; have r2 := fun i => grew_rule_off hS (n := w.heap.size) (by simp; omega) HOP.out i; simp [go_sem, ↓IntWalk.iteOmega, hyH, hwr, r1, r2, rb, rk, hy0, hpc] <;> first | done | exact rfl | (rw [IntWalk.i64_in _ (by omega)]; exact rfl) | trace_state)
      refine wpPt_one rfl rfl (fun K hK => ?_)
      go_simp
      refine hK _ _ (fun hkn => (by repeat (first | exact grew_refl _ _ | (with_reducible apply grew_seq) | (with_reducible apply grew_draw) | (with_reducible apply grew_alloc) | (with_reducible apply grew_drew) | (with_reducible apply grew_plus)))) ?_
      clear hK K
      refine wpPt_one rfl rfl (fun K hK => ?_)
      refine oper_append_at encP _ _ _ _ i0 _ 16 rfl Tryz.underlying24 hi hz0 hz1 hz2 rfl (by decide) ps pa pc (w.heap.size + 2) (by repeat (first | (with_reducible exact HW.out) | (with_reducible apply Own.plus) | (with_reducible apply Own.alloc) | (with_reducible apply Own.drew))) rfl [⟨last, H⟩] _ 0 1 (new_cells encP ⟨last, H⟩ _ _ (by first | omega | rfl | (simp <;> omega) | (simp only [List.length_cons, List.length_nil, plus_size, World.size_alloc]; omega))) rfl (by first | omega | rfl | (simp <;> omega) | (simp only [List.length_cons, List.length_nil, plus_size, World.size_alloc]; omega)) (by first | omega | rfl | (simp <;> omega) | (simp only [List.length_cons, List.length_nil, plus_size, World.size_alloc]; omega)) (by simp; omega) ?_
      intro pa' pc' w6 hp6 hg6 hx6
      have HP6 := Lib.hid hp6
      have HG6 := Lib.hid hg6
      have hz6 := hg6.size
      simp at hz6
      have hp6' : p < w6.heap.size := by omega
      have hq6' : w.heap.size + 1 < w6.heap.size := by omega
      have HB6 := Lib.hid (blk_grew hg6 (by repeat (first | (with_reducible exact HB.out) | (with_reducible apply blk_seq) | (with_reducible apply blk_draw) | (with_reducible apply blk_plus) | (with_reducible apply blk_alloc) | (with_reducible apply blk_drew) | (with_reducible refine blk_patch ?_ (by omega)) | exact HB.out)) HOF.out)
      have HQ6 := Lib.hid (blk_grew hg6 (by repeat (first | (with_reducible exact HQ.out) | (with_reducible apply blk_seq) | (with_reducible apply blk_draw) | (with_reducible apply blk_plus) | (with_reducible apply blk_alloc) | (with_reducible apply blk_drew) | (with_reducible refine blk_patch ?_ (by omega)) | exact HQ.out)) HOQ.out)
      have s6 := fun v => setCell_patch HB6.out 3 v
      have f6 := free_of HB6.out
      have r6 := cell_of HB6.out
      have s7 := fun v => setCell_patch HQ6.out 0 v
      have f7 := free_of HQ6.out
      have r7 := cell_of HQ6.out
      have HX6 := Lib.hid (hx6.off HOF.out (k := p) (by simp; omega))
      clear hp6 hx6
      refine hK _ _ (fun hkn => by refine grew_trans ?_ hg6; (repeat (first | exact grew_refl _ _ | (with_reducible apply grew_seq) | (with_reducible apply grew_draw) | (with_reducible apply grew_alloc) | (with_reducible apply grew_drew) | (with_reducible apply grew_plus)))) ?_
      clear hK K
      refine wpPt_one rfl rfl (fun K hK => ?_)
      go_simp
      refine hK _ _ (fun hkn => absurd hkn (by decide)) ?_
      clear hK K
      refine wpPt_one rfl rfl (fun K hK => ?_)
      go_simp
      refine hK _ _ (fun hkn => absurd hkn (by decide)) ?_
      clear hK K
      refine NoPanic.normal ?_
      go_wp2
      rw [HA.out]
      refine bodyPost_ret (v := .agg #[.int .i64 o, .int .i64 l, .int .i64 m, .slice pa' (ps.length + 1) pc', .int .i64 base, .int .i64 c]) (by simp [results, Tryz.results112, go_sem, hp6', hq6', hpq, Ne.symm hpq]) rfl ⟨pa', pc', by rw [List.length_append]; rfl, ?_, below_more ?_⟩
      · exact own_patch (own_patch (HP6.out.lower (by omega)) (fun A hA e => by have := (own_lt HP6.out A hA).1; omega)) HX6.out
      · refine below_patch (below_patch ?_ (by omega) _) (by omega) _
        refine ((show Below w.heap.size w _ from (by repeat (first | exact Below.refl _ _ | refine below_plus ?_ (by first | omega | (simp <;> omega)) _ | refine Below.alloc ?_ (by first | omega | (simp <;> omega)) _ | refine below_patch ?_ (by omega) _ | refine Below.drew ?_))).trans (HL.out.mono (by omega))).trans (Below.trans ?_ (HG6.out.below (by simp; omega) (fun A hA => by have := (own_lt HW.out A hA).1; omega)))
        exact (by repeat (first | exact Below.refl _ _ | refine below_plus ?_ (by first | omega | (simp <;> omega)) _ | refine Below.alloc ?_ (by first | omega | (simp <;> omega)) _ | refine below_patch ?_ (by omega) _ | refine Below.drew ?_))

end Go.Proofs.YtmddcbebaijjkaaGreatDoor

/- The walk of spec.l4Learn: what is known behind the words of a text. -/
namespace Go.Proofs.YtmddcbebaijjkaaGreatDoor
open Go.RowKit
set_option linter.unusedVariables false
set_option linter.unusedSimpArgs false

theorem ext_drop (x : ByteArray) (k : Nat) : (x.extract k x.size).data.toList = x.data.toList.drop k := by
  have h : x.size = x.data.toList.length := (bytes_len x).symm
  simp
  rw [List.take_of_length_le (by simp)]

theorem dfB_drop {o l m : Int} {x : ByteArray} (h : dfB o l m x = true) (k : Nat) : dfB o l m (x.extract k x.size) = true := by
  have hs : (x.extract k x.size).size = x.size - k := by rw [← bytes_len, ext_drop, List.length_drop, bytes_len]
  unfold dfB litB at *
  simp only [Bool.and_eq_true, decide_eq_true_eq, List.all_eq_true] at *
  refine ⟨h.1, by rw [hs]; omega, fun y hy => h.2.2 y ?_⟩
  rw [ext_drop] at hy
  exact List.mem_of_mem_drop hy

end Go.Proofs.YtmddcbebaijjkaaGreatDoor

/- The walk of impl.learn: what is known behind the words of a text, and how much of it is needed. -/
namespace Go.Proofs.YtmddcbebaijjkaaGreatDoor
open Go.RowKit
set_option linter.unusedVariables false
set_option linter.unusedSimpArgs false

end Go.Proofs.YtmddcbebaijjkaaGreatDoor
