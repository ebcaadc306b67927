/- Draws: l3Bent, DrawParseKnown. -/
import Derived.Test.YtmddcbebaijjkaaGreatDoorDri
import Derived.Test.YtmddcbebaijjkaaGreatDoorGj
import Derived.Test.YtmddcbebaijjkaaGreatDoorGl
namespace Go.Proofs.YtmddcbebaijjkaaGreatDoor
open Go.RowKit
set_option linter.unusedVariables false
set_option linter.unusedSimpArgs false

set_option maxRecDepth 100000 in
set_option maxHeartbeats 4000000 in
theorem l3Bent_d (B n : Nat) (t : ByteArray) (w : World) (hd : Dsrc w B n) (hn : n ≤ 800000) (ht : t.size ≤ 1000000) :
    Calls Tryz.prog 59 #[.pointer (some ⟨B, 0, none⟩), .string t] w (fun e w' => ∃ s : ByteArray, e = .returned (.string s) ∧ s.size ≤ t.size + 1 ∧ Drn w B (n + 4) w') := by
  have HD := Lib.hid hd
  have hB := hd.B_lt
  have he := isEmpty_size t
  clear hd
  go_enter Tryz.func59, Tryz.ntmps59
  go_wp2_with fail
  refine (pick_d B n _ _ (by repeat (first | (with_reducible exact HD.out) | (with_reducible apply dsrc_seq) | (with_reducible apply dsrc_draw) | (with_reducible apply Dsrc.plus) | (with_reducible apply Dsrc.alloc) | (with_reducible apply Dsrc.drew))) (by omega)).mono ?_
  rintro e w' ⟨v, rfl, hv, hdn⟩
  obtain ⟨hd1, cur1, x1, rfl⟩ := hdn
  have HD1 := Lib.hid hd1
  clear hd1
  rcases (by omega : v = 0 ∨ 0 < v) with hv0 | hv0
  · have q0 : ((v : Int) == 0) = true := by simp; omega
    go_wp2_with fail
    go_ret
    exact ⟨t, rfl, by omega, drn_of (HD1.out.mono (by omega)) (by repeat (first | (with_reducible exact grew_refl _ _) | (with_reducible apply grew_plus) | (with_reducible apply grew_alloc) | (with_reducible apply grew_drew) | (with_reducible apply grew_pat))) hB⟩
  have q0 : ((v : Int) == 0) = false := by simp; omega
  rcases Nat.eq_zero_or_pos t.size with hz | hz
  · rw [decide_eq_true hz] at he
    go_wp2_with fail
    go_ret
    exact ⟨t, rfl, by omega, drn_of (HD1.out.mono (by omega)) (by repeat (first | (with_reducible exact grew_refl _ _) | (with_reducible apply grew_plus) | (with_reducible apply grew_alloc) | (with_reducible apply grew_drew) | (with_reducible apply grew_pat))) hB⟩
  rw [decide_eq_false (by omega)] at he
  go_wp2_with fail
  refine (pick_d B (n + 1) t.size _ (by repeat (first | (with_reducible exact HD1.out) | (with_reducible apply dsrc_seq) | (with_reducible apply dsrc_draw) | (with_reducible apply Dsrc.plus) | (with_reducible apply Dsrc.alloc) | (with_reducible apply Dsrc.drew))) (by omega)).mono ?_
  rintro e w' ⟨k, rfl, hk, hdn⟩
  obtain ⟨hd2, cur2, x2, rfl⟩ := hdn
  have HD2 := Lib.hid hd2
  clear hd2
  have hk2 : k < t.size := by omega
  have hki : (k : Int) ≤ (t.size : Int) := by omega
  have hk0 : (0 : Int) ≤ (k : Int) := by omega
  have HWK := Lib.hid (show IntKind.i64.wrap (k : Int) = (k : Int) from IntWalk.i64_in _ (by omega))
  obtain ⟨f, hf1, hf2⟩ : ∃ f : Nat → Nat, (∀ j, f j ≤ 1) ∧ ∀ j, j ≤ 1 → f j = j := ⟨fun j => j % 2, fun j => by simp; omega, fun j h => by simp; omega⟩
  have HWF := Lib.hid (fun j : Nat => show IntKind.i64.wrap ((k : Int) + (f j : Int)) = (k : Int) + (f j : Int) from IntWalk.i64_in _ (by have := hf1 j; omega))
  have HF0 := Lib.hid (fun j : Nat => show (0 : Int) ≤ (k : Int) + (f j : Int) by omega)
  have HF1 := Lib.hid (fun j : Nat => show (k : Int) + (f j : Int) ≤ (t.size : Int) by have := hf1 j; omega)
  obtain ⟨U, hU⟩ : ∃ U, t.extract 0 k = U := ⟨_, rfl⟩
  have hUz : U.size = k := by rw [← hU]; simp; omega
  go_wp2_with fail
  refine wp_region_pt 14 (fun _ => True) (Plan.quiet 0 (Plan.quiet 1 (Plan.quiet 2 (Plan.quiet 3 (Plan.quiet 7 (Plan.quiet 8 (Plan.quiet 9 (Plan.one 4 (Plan.one 5 (Plan.quiet 6 (Plan.one 10 (Plan.quiet 11 (Plan.quiet 12 (Plan.quiet 13 (Plan.one 14 Plan.done))))))))))))))) (by kernel_rfl) (by kernel_rfl) (trivial) ?_
  refine wpPt_val rfl rfl ?_
  apply Exists.intro
  refine ⟨fun w' hS => ?_, ?_⟩
  focus (skip; simp [go_sem, ↓IntWalk.iteOmega, HWK.out, hki, hk0, hU, HWF.out, HF0.out, HF1.out] <;> first | done | exact rfl | (rw [IntWalk.i64_in _ (by omega)]; exact rfl) | trace_state)
  refine wpPt_val rfl rfl ?_
  apply Exists.intro
  refine ⟨fun w' hS => ?_, ?_⟩
  focus (skip; simp [go_sem, ↓IntWalk.iteOmega, HWK.out, hki, hk0, hU, HWF.out, HF0.out, HF1.out] <;> first | done | exact rfl | (rw [IntWalk.i64_in _ (by omega)]; exact rfl) | trace_state)
  refine wpPt_val rfl rfl ?_
  apply Exists.intro
  refine ⟨fun w' hS => ?_, ?_⟩
  focus (skip; simp [go_sem, ↓IntWalk.iteOmega, HWK.out, hki, hk0, hU, HWF.out, HF0.out, HF1.out] <;> first | done | exact rfl | (rw [IntWalk.i64_in _ (by omega)]; exact rfl) | trace_state)
  refine wpPt_val rfl rfl ?_
  apply Exists.intro
  refine ⟨fun w' hS => ?_, ?_⟩
  focus (skip; simp [go_sem, ↓IntWalk.iteOmega, HWK.out, hki, hk0, hU, HWF.out, HF0.out, HF1.out] <;> first | done | exact rfl | (rw [IntWalk.i64_in _ (by omega)]; exact rfl) | trace_state)
  refine wpPt_val rfl rfl ?_
  apply Exists.intro
  refine ⟨fun w' hS => ?_, ?_⟩
  focus (skip; simp [go_sem, ↓IntWalk.iteOmega, HWK.out, hki, hk0, hU, HWF.out, HF0.out, HF1.out] <;> first | done | exact rfl | (rw [IntWalk.i64_in _ (by omega)]; exact rfl) | trace_state)
  refine wpPt_val rfl rfl ?_
  apply Exists.intro
  refine ⟨fun w' hS => ?_, ?_⟩
  focus (skip; simp [go_sem, ↓IntWalk.iteOmega, HWK.out, hki, hk0, hU, HWF.out, HF0.out, HF1.out] <;> first | done | exact rfl | (rw [IntWalk.i64_in _ (by omega)]; exact rfl) | trace_state)
  refine wpPt_val rfl rfl ?_
  apply Exists.intro
  refine ⟨fun w' hS => ?_, ?_⟩
  focus (skip; simp [go_sem, ↓IntWalk.iteOmega, HWK.out, hki, hk0, hU, HWF.out, HF0.out, HF1.out] <;> first | done | exact rfl | (rw [IntWalk.i64_in _ (by omega)]; exact rfl) | trace_state)
  refine wpPt_one rfl rfl (fun K hK => ?_)
  go_simp
  refine hK _ _ (fun hkn => trivial) ?_
  clear hK K
  refine wpPt_one rfl rfl (fun K hK => ?_)
  go_simp
  refine (of_d B (n + 2) _ (by repeat (first | (with_reducible exact HD2.out) | (with_reducible apply dsrc_seq) | (with_reducible apply dsrc_draw) | (with_reducible apply Dsrc.plus) | (with_reducible apply Dsrc.alloc) | (with_reducible apply Dsrc.drew))) (by omega) _ _ [⟨#[]⟩, ⟨#[48]⟩, ⟨#[49]⟩, ⟨#[59]⟩, ⟨#[44]⟩, ⟨#[46]⟩, ⟨#[45]⟩, ⟨#[124]⟩, ⟨#[32]⟩] (by first | exact rdS_lit _ _ _ _ _ (by simp <;> omega) rfl (by simp) | exact Rd.alloc (rdS_lit _ _ _ _ _ (by simp <;> omega) rfl (by simp)) _) (fun X hX => by cases hX; simp <;> omega) (by simp)).mono ?_
  rintro e w' ⟨y, rfl, hy, hdn⟩
  have hy2 : y.size ≤ 1 := by simp only [List.mem_cons, List.not_mem_nil, or_false] at hy; rcases hy with rfl | rfl | rfl | rfl | rfl | rfl | rfl | rfl | rfl <;> decide
  clear hy
  obtain ⟨hd3, cur3, x3, rfl⟩ := hdn
  have HD3 := Lib.hid hd3
  clear hd3
  refine hK _ _ (fun hkn => trivial) ?_
  clear hK K
  refine wpPt_val rfl rfl ?_
  apply Exists.intro
  refine ⟨fun w' hS => ?_, ?_⟩
  focus (skip; simp [go_sem, ↓IntWalk.iteOmega, HWK.out, hki, hk0, hU, HWF.out, HF0.out, HF1.out] <;> first | done | exact rfl | (rw [IntWalk.i64_in _ (by omega)]; exact rfl) | trace_state)
  refine wpPt_one rfl rfl (fun K hK => ?_)
  go_simp
  refine (pick_d B (n + 3) 2 _ (by repeat (first | (with_reducible exact HD3.out) | (with_reducible apply dsrc_seq) | (with_reducible apply dsrc_draw) | (with_reducible apply Dsrc.plus) | (with_reducible apply Dsrc.alloc) | (with_reducible apply Dsrc.drew))) (by omega)).mono ?_
  rintro e w' ⟨j, rfl, hj, hdn⟩
  rw [← hf2 j (by omega)]
  obtain ⟨hd4, cur4, x4, rfl⟩ := hdn
  have HD4 := Lib.hid hd4
  clear hd4
  refine hK _ _ (fun hkn => trivial) ?_
  clear hK K
  refine wpPt_val rfl rfl ?_
  apply Exists.intro
  refine ⟨fun w' hS => ?_, ?_⟩
  focus (skip; simp [go_sem, ↓IntWalk.iteOmega, HWK.out, hki, hk0, hU, HWF.out, HF0.out, HF1.out] <;> first | done | exact rfl | (rw [IntWalk.i64_in _ (by omega)]; exact rfl) | trace_state)
  refine wpPt_val rfl rfl ?_
  apply Exists.intro
  refine ⟨fun w' hS => ?_, ?_⟩
  focus (skip; simp [go_sem, ↓IntWalk.iteOmega, HWK.out, hki, hk0, hU, HWF.out, HF0.out, HF1.out] <;> first | done | exact rfl | (rw [IntWalk.i64_in _ (by omega)]; exact rfl) | trace_state)
  refine wpPt_val rfl rfl ?_
  apply Exists.intro
  refine ⟨fun w' hS => ?_, ?_⟩
  focus (skip; simp [go_sem, ↓IntWalk.iteOmega, HWK.out, hki, hk0, hU, HWF.out, HF0.out, HF1.out] <;> first | done | exact rfl | (rw [IntWalk.i64_in _ (by omega)]; exact rfl) | trace_state)
  refine wpPt_one rfl rfl (fun K hK => ?_)
  go_simp
  refine hK _ _ (fun hkn => absurd hkn (by decide)) ?_
  clear hK K
  refine NoPanic.normal ?_
  go_wp2_with fail
  go_ret
  exact ⟨_, rfl, by have := hf1 j; simp [ByteArray.size_append] <;> omega, drn_of (by repeat (first | (with_reducible exact HD4.out) | (with_reducible apply dsrc_seq) | (with_reducible apply dsrc_draw) | (with_reducible apply Dsrc.plus) | (with_reducible apply Dsrc.alloc) | (with_reducible apply Dsrc.drew))) (by repeat (first | (with_reducible exact grew_refl _ _) | (with_reducible apply grew_plus) | (with_reducible apply grew_alloc) | (with_reducible apply grew_drew) | (with_reducible apply grew_pat))) hB⟩

/-- a drawn text -/
def RetTx (w : World) (e : Ending) (w' : World) : Prop := ∃ t : ByteArray, e = .returned (.string t) ∧ t.size ≤ 40000 ∧ More w w'

set_option maxRecDepth 100000 in
set_option maxHeartbeats 4000000 in
theorem DrawParseKnown_any (a : Option Addr) (cap : Nat) (bs : List UInt8) (w : World) (hr : Rd encB w a cap bs) : Calls Tryz.prog 27 #[.slice a bs.length cap] w (RetTx w) := by
  go_enter Tryz.func27, Tryz.ntmps27
  go_wp2_with fail
  refine (l9Open_any a cap bs _ (by repeat (first | exact hr | apply rd_seq | apply Rd.plus | apply Rd.alloc | apply Rd.drew | apply Rd.drewN | refine rd_patch ?_ _ _ (by intro A hA; first | (cases hA; show _ ≠ _; omega) | (have := hal A hA; omega))))).mono ?_
  rintro e w' ⟨B, rfl, hd, hB, x0, rfl⟩
  have HD := Lib.hid hd
  have hBl := hd.B_lt
  simp at hB hBl
  clear hd
  go_wp2_with fail
  refine (l2Draw_d B 0 _ (by repeat (first | (with_reducible exact HD.out) | (with_reducible apply dsrc_seq) | (with_reducible apply dsrc_draw) | (with_reducible apply Dsrc.plus) | (with_reducible apply Dsrc.alloc) | (with_reducible apply Dsrc.drew))) (by omega)).mono ?_
  rintro e w2 ⟨o, l, m, pa, pc, ps, b, last, rfl, hkv, hl14, hrd, hoff, hdn⟩
  have HR := Lib.hid (show Rd encP _ pa pc ps from hrd)
  have HB2 := Lib.hid ((show Below w.heap.size w _ from (by repeat (first | exact Below.refl _ _ | refine below_plus ?_ (by first | omega | (simp <;> omega)) _ | refine Below.alloc ?_ (by first | omega | (simp <;> omega)) _ | refine below_patch ?_ (by omega) _ | refine Below.drew ?_))).trans (hdn.grew.below (B := w.heap.size) (by simp <;> omega) (fun X hX => by cases hX; show w.heap.size ≤ B; omega)))
  have HD2 := Lib.hid hdn.1
  have hTs := knT_size hkv
  have HF := Lib.hid (fun (W : World) (h : RdP W pa pc ps) => specFormatKnown_yes o l m pa pc ps b last W h (kvb_iff.2 hkv))
  obtain ⟨T, hT⟩ : ∃ T, knT o l m ps b last = T := ⟨_, rfl⟩
  rw [hT] at HF hTs
  clear hrd hdn hkv hoff hT
  go_wp2_with fail
  refine (HF.out _ (by (try unfold RdP); repeat (first | (with_reducible exact HR.out) | (with_reducible apply rd_seq) | (with_reducible apply Rd.plus) | (with_reducible apply Rd.alloc) | (with_reducible apply Rd.drew) | (with_reducible apply Rd.drewN)))).mono ?_
  rintro e w' ⟨rfl, x3, rfl⟩
  go_wp2_with fail
  refine (l3Bent_d B 60 T _ (Dsrc.mono (by repeat (first | (with_reducible exact HD2.out) | (with_reducible apply dsrc_seq) | (with_reducible apply dsrc_draw) | (with_reducible apply Dsrc.plus) | (with_reducible apply Dsrc.alloc) | (with_reducible apply Dsrc.drew))) (by omega)) (by omega) (by omega)).mono ?_
  rintro e w4 ⟨t, rfl, ht, hdn⟩
  have hg := hdn.grew
  have HB4 := Lib.hid ((below_plus HB2.out (by have := HB2.out.size; omega) x3).trans (hg.below (B := w.heap.size) (by have := HB2.out.size; simp <;> omega) (fun X hX => by cases hX; show w.heap.size ≤ B; omega)))
  clear hdn hg
  go_wp2_with fail
  go_ret
  exact ⟨t, rfl, by omega, below_more HB4.out⟩

end Go.Proofs.YtmddcbebaijjkaaGreatDoor
