/- Draws: DrawCodeOfWord. -/
import Derived.Test.YtlihhlihcjncoaaDrj
namespace Go.Proofs.Ytlihhlihcjncoaa
open Go.RowKit
set_option linter.unusedVariables false
set_option linter.unusedSimpArgs false

set_option maxRecDepth 100000 in
set_option maxHeartbeats 4000000 in
theorem DrawCodeOfWord_any (a : Option Addr) (cap : Nat) (bs : List UInt8) (w : World) (hr : Rd encB w a cap bs) :
    Calls Try.prog 20 #[.slice a bs.length cap] w (RetKs w) := by
  go_enter Try.func20, Try.ntmps20
  go_wp2_with fail
  refine (l9Open_any a cap bs _ (by repeat (first | exact hr | apply rd_seq | apply Rd.plus | apply Rd.alloc | apply Rd.drew | apply Rd.drewN | refine rd_patch ?_ _ _ (by intro A hA; first | (cases hA; show _ ≠ _; omega) | (have := hal A hA; omega))))).mono ?_
  rintro e w' ⟨B, rfl, hd, hB, x0, rfl⟩
  have HD := Lib.hid hd
  have hBl := hd.B_lt
  simp at hB hBl
  clear hd
  go_wp2_with fail
  refine (l2Draw_d B 0 _ (by repeat (first | (with_reducible exact HD.out) | (with_reducible apply dsrc_seq) | (with_reducible apply dsrc_draw) | (with_reducible apply Dsrc.plus) | (with_reducible apply Dsrc.alloc) | (with_reducible apply Dsrc.drew))) (by omega)).mono ?_
  rintro e w' ⟨o, l, m, pa, pc, ps, b, last, rfl, hkv, hl14, hrd, hoff, hdn⟩
  have hs := hkv.s
  have HKV := Lib.hid hkv
  have HR1 := Lib.hid (show Rd encP _ pa pc ps from hrd)
  simp at hoff
  have HOF := Lib.hid hoff
  obtain ⟨hd1, cur1, x1, rfl⟩ := hdn
  have HD1 := Lib.hid hd1
  clear hd1
  clear hkv hrd hoff
  go_wp2_with fail
  refine wp_region_pt 5 (fun w' => w'.heap[w.heap.size + 1 + x0.n + x1.n]? = some (.cells #[.int .i64 o, .int .i64 l, .int .i64 m, .slice pa ps.length pc, .int .i64 b, .int .i64 last] 27 (0, 0))) (Plan.quiet 0 (Plan.quiet 1 (Plan.quiet 2 (Plan.one 3 (Plan.one 4 (Plan.one 5 Plan.done)))))) (by kernel_rfl) (by kernel_rfl) ((by repeat (first | (with_reducible exact push_new _ _ _ rfl) | (with_reducible exact push_new _ _ _ (by simp)) | (with_reducible apply blk_plus) | (with_reducible apply blk_alloc) | (with_reducible apply blk_drew) | (with_reducible refine blk_patch ?_ (by omega))))) ?_
  refine wpPt_val rfl rfl ?_
  apply Exists.intro
  refine ⟨fun w' hS => ?_, ?_⟩
  focus (have rS := cell_of hS; simp [go_sem, ↓IntWalk.iteOmega, rS] <;> first | done | exact rfl | (rw [IntWalk.i64_in _ (by omega)]; exact rfl) | trace_state)
  refine wpPt_val rfl rfl ?_
  apply Exists.intro
  refine ⟨fun w' hS => ?_, ?_⟩
  focus (have rS := cell_of hS; simp [go_sem, ↓IntWalk.iteOmega, rS] <;> first | done | exact rfl | (rw [IntWalk.i64_in _ (by omega)]; exact rfl) | trace_state)
  refine wpPt_val rfl rfl ?_
  apply Exists.intro
  refine ⟨fun w' hS => ?_, ?_⟩
  focus (have rS := cell_of hS; simp [go_sem, ↓IntWalk.iteOmega, rS] <;> first | done | exact rfl | (rw [IntWalk.i64_in _ (by omega)]; exact rfl) | trace_state)
  refine wpPt_one rfl rfl (fun K hK => ?_)
  go_simp
  refine (l2Pick_d B _ o l m pa pc ps.length b last _ (by repeat (first | (with_reducible exact HD1.out) | (with_reducible apply dsrc_seq) | (with_reducible apply dsrc_draw) | (with_reducible apply Dsrc.plus) | (with_reducible apply Dsrc.alloc) | (with_reducible apply Dsrc.drew))) (by omega) HKV.out.lim (by omega)).mono ?_
  rintro e w' ⟨c, rfl, hok, hne, hdn⟩
  have HOK := Lib.hid hok
  obtain ⟨hd2, cur2, x2, rfl⟩ := hdn
  (try simp only [plus_patch_drew] at hd2)
  have HD2 := Lib.hid hd2
  clear hd2 hok
  refine hK _ _ (fun hkn => (by repeat (first | (with_reducible exact push_new _ _ _ rfl) | (with_reducible exact push_new _ _ _ (by simp)) | (with_reducible apply blk_plus) | (with_reducible apply blk_alloc) | (with_reducible apply blk_drew) | (with_reducible refine blk_patch ?_ (by omega))))) ?_
  clear hK K
  refine wpPt_one rfl rfl (fun K hK => ?_)
  go_simp
  refine (l2Any_any o l m pa pc ps b last c _ (rd_grew HR1.out (A := some ⟨B, 0, none⟩) (by repeat (first | (with_reducible exact grew_refl _ _) | (with_reducible apply grew_plus) | (with_reducible apply grew_alloc) | (with_reducible apply grew_drew) | (with_reducible apply grew_pat))) (fun X Y hX hY => by cases hX; have := HOF.out Y hY; show B ≠ _; omega)) HKV.out HOK.out).mono ?_
  rintro e w' ⟨rfl, x3, rfl⟩
  obtain ⟨sX, hsX⟩ : ∃ s, bstr (anyW l ps last c) = s := ⟨_, rfl⟩
  rw [hsX]
  have hXs : sX.size ≤ 20 := by rw [← hsX, bstr_size]; have := any_short HKV.out HOK.out; omega
  clear hsX
  refine hK _ _ (fun hkn => (by repeat (first | (with_reducible exact push_new _ _ _ rfl) | (with_reducible exact push_new _ _ _ (by simp)) | (with_reducible apply blk_plus) | (with_reducible apply blk_alloc) | (with_reducible apply blk_drew) | (with_reducible refine blk_patch ?_ (by omega))))) ?_
  clear hK K
  refine wpPt_one rfl rfl (fun K hK => ?_)
  go_simp
  refine hK _ _ (fun hkn => absurd hkn (by decide)) ?_
  clear hK K
  refine NoPanic.normal ?_
  go_wp2_with fail
  refine (pick_d B _ _ _ (by repeat (first | (with_reducible exact HD2.out) | (with_reducible apply dsrc_seq) | (with_reducible apply dsrc_draw) | (with_reducible apply Dsrc.plus) | (with_reducible apply Dsrc.alloc) | (with_reducible apply Dsrc.drew))) (by omega)).mono ?_
  rintro e w' ⟨v, rfl, hv, hdn⟩
  obtain ⟨hd5, cur5, x5, rfl⟩ := hdn
  have HD5 := Lib.hid hd5
  clear hd5
  rcases (by omega : v = 0 ∨ 0 < v) with hv0 | hv0
  · have q0 : ((v : Int) == 0) = true := by simp; omega
    go_wp2_with fail
    refine (l1Data_d B _ 4 o l m _ (by repeat (first | (with_reducible exact HD5.out) | (with_reducible apply dsrc_seq) | (with_reducible apply dsrc_draw) | (with_reducible apply Dsrc.plus) | (with_reducible apply Dsrc.alloc) | (with_reducible apply Dsrc.drew))) (by omega) (by omega) hs).mono ?_
    rintro e w' ⟨sZ, rfl, hZs, hdn⟩
    obtain ⟨hd6, cur6, x6, rfl⟩ := hdn
    have HD6 := Lib.hid hd6
    clear hd6
    go_wp2_with fail
    refine (l1Wild_d B _ sZ _ (by repeat (first | (with_reducible exact HD6.out) | (with_reducible apply dsrc_seq) | (with_reducible apply dsrc_draw) | (with_reducible apply Dsrc.plus) | (with_reducible apply Dsrc.alloc) | (with_reducible apply Dsrc.drew))) (by omega) (by omega)).mono ?_
    rintro e w' ⟨sW, rfl, hWs, hdn⟩
    obtain ⟨hd7, cur7, x7, rfl⟩ := hdn
    have HD7 := Lib.hid hd7
    clear hd7
    go_wp2_with fail
    refine (l2Bad_d B _ o l m pa pc ps b last _ (by repeat (first | (with_reducible exact HD7.out) | (with_reducible apply dsrc_seq) | (with_reducible apply dsrc_draw) | (with_reducible apply Dsrc.plus) | (with_reducible apply Dsrc.alloc) | (with_reducible apply Dsrc.drew))) (by omega) hs (rd_grew HR1.out (A := some ⟨B, 0, none⟩) (by repeat (first | (with_reducible exact grew_refl _ _) | (with_reducible apply grew_plus) | (with_reducible apply grew_alloc) | (with_reducible apply grew_drew) | (with_reducible apply grew_pat))) (fun X Y hX hY => by cases hX; have := HOF.out Y hY; show B ≠ _; omega)) (fun X hX e => by have := HOF.out X hX; omega) (by omega)).mono ?_
    rintro e w' ⟨o2, l2', m2, pa9, pc9, qs, base9, last9, rfl, hq9, hrd9, hoff9, hdn⟩
    obtain ⟨hd9, cur9, x9, rfl⟩ := hdn
    have HR9 := Lib.hid hrd9
    have hblk9 : ∀ X, pa9 = some X → X.block ≠ w.heap.size := fun X hX e => by
      rcases hoff9 X hX with h | h
      · have := HOF.out X h; omega
      · simp at h; omega
    clear hrd9 hoff9 hd9
    go_wp2_with fail
    exact bodyPost_ret (v := .tuple #[.agg #[.int .i64 o2, .int .i64 l2', .int .i64 m2, .slice pa9 qs.length pc9, .int .i64 base9, .int .i64 last9], .string (sW)]) (by simp [results, Try.results20, go_sem, ↓IntWalk.iteOmega]) rfl ⟨o2, l2', m2, pa9, pc9, qs, base9, last9, sW, rfl, hq9, (by omega), rd_sn (D1 := w.heap.size) (D2 := w.heap.size) HR9.out (by repeat (first | (with_reducible exact sn_refl _ _ _) | (with_reducible apply sn_plus) | (with_reducible apply sn_patch) | (with_reducible apply sn_drew) | (with_reducible refine sn_right ?_ (by first | exact .inl rfl | exact .inr rfl | omega) _) | (with_reducible refine sn_left ?_ (by first | exact .inl rfl | exact .inr rfl | omega) _) | (with_reducible apply sn_alloc) | (with_reducible refine sn_alloc2 ?_ (by simp <;> omega) _ _))) (fun X hX => ⟨hblk9 X hX, hblk9 X hX⟩), below_more (by repeat (first | exact Below.refl _ _ | refine below_plus ?_ (by first | omega | (simp <;> omega)) _ | refine Below.alloc ?_ (by first | omega | (simp <;> omega)) _ | refine below_patch ?_ (by omega) _ | refine Below.drew ?_))⟩
  · have q0 : ((v : Int) == 0) = false := by simp; omega
    go_wp2_with fail
    refine (l2Bad_d B _ o l m pa pc ps b last _ (by repeat (first | (with_reducible exact HD5.out) | (with_reducible apply dsrc_seq) | (with_reducible apply dsrc_draw) | (with_reducible apply Dsrc.plus) | (with_reducible apply Dsrc.alloc) | (with_reducible apply Dsrc.drew))) (by omega) hs (rd_grew HR1.out (A := some ⟨B, 0, none⟩) (by repeat (first | (with_reducible exact grew_refl _ _) | (with_reducible apply grew_plus) | (with_reducible apply grew_alloc) | (with_reducible apply grew_drew) | (with_reducible apply grew_pat))) (fun X Y hX hY => by cases hX; have := HOF.out Y hY; show B ≠ _; omega)) (fun X hX e => by have := HOF.out X hX; omega) (by omega)).mono ?_
    rintro e w' ⟨o2, l2', m2, pa9, pc9, qs, base9, last9, rfl, hq9, hrd9, hoff9, hdn⟩
    obtain ⟨hd9, cur9, x9, rfl⟩ := hdn
    have HR9 := Lib.hid hrd9
    have hblk9 : ∀ X, pa9 = some X → X.block ≠ w.heap.size := fun X hX e => by
      rcases hoff9 X hX with h | h
      · have := HOF.out X h; omega
      · simp at h; omega
    clear hrd9 hoff9 hd9
    go_wp2_with fail
    exact bodyPost_ret (v := .tuple #[.agg #[.int .i64 o2, .int .i64 l2', .int .i64 m2, .slice pa9 qs.length pc9, .int .i64 base9, .int .i64 last9], .string (sX)]) (by simp [results, Try.results20, go_sem, ↓IntWalk.iteOmega]) rfl ⟨o2, l2', m2, pa9, pc9, qs, base9, last9, sX, rfl, hq9, (by omega), rd_sn (D1 := w.heap.size) (D2 := w.heap.size) HR9.out (by repeat (first | (with_reducible exact sn_refl _ _ _) | (with_reducible apply sn_plus) | (with_reducible apply sn_patch) | (with_reducible apply sn_drew) | (with_reducible refine sn_right ?_ (by first | exact .inl rfl | exact .inr rfl | omega) _) | (with_reducible refine sn_left ?_ (by first | exact .inl rfl | exact .inr rfl | omega) _) | (with_reducible apply sn_alloc) | (with_reducible refine sn_alloc2 ?_ (by simp <;> omega) _ _))) (fun X hX => ⟨hblk9 X hX, hblk9 X hX⟩), below_more (by repeat (first | exact Below.refl _ _ | refine below_plus ?_ (by first | omega | (simp <;> omega)) _ | refine Below.alloc ?_ (by first | omega | (simp <;> omega)) _ | refine below_patch ?_ (by omega) _ | refine Below.drew ?_))⟩

end Go.Proofs.Ytlihhlihcjncoaa
