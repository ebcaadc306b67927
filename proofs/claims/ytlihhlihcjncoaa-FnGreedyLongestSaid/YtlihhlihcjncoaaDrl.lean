/- Draws: DrawGreedyCodes, DrawLearnKnown. -/
import Derived.Test.YtlihhlihcjncoaaDrj
namespace Go.Proofs.Ytlihhlihcjncoaa
open Go.RowKit
set_option linter.unusedVariables false
set_option linter.unusedSimpArgs false

/-- the same, and where the pairs lie -/
def RetKl (w : World) (e : Ending) (w' : World) : Prop := ∃ (o l m : Int) (pa : Option Addr) (pc : Nat) (ps : List Pr) (base last : Int) (s : ByteArray),
  e = .returned (.tuple #[.agg #[.int .i64 o, .int .i64 l, .int .i64 m, .slice pa ps.length pc, .int .i64 base, .int .i64 last], .string s]) ∧ ps.length ≤ 3000 ∧ s.size ≤ 5000 ∧ RdP w' pa pc ps ∧ (∃ x, w' = plus w x) ∧ ∀ X, pa = some X → w.heap.size < X.block

set_option maxRecDepth 100000 in
set_option maxHeartbeats 4000000 in
theorem DrawGreedyCodes_at (a : Option Addr) (cap : Nat) (bs : List UInt8) (w : World) (hr : Rd encB w a cap bs) :
    Calls Try.prog 45 #[.slice a bs.length cap] w (RetKl w) := by
  go_enter Try.func45, Try.ntmps45
  go_wp2_with fail
  refine (l9Open_any a cap bs _ (by repeat (first | exact hr | apply rd_seq | apply Rd.plus | apply Rd.alloc | apply Rd.drew | apply Rd.drewN | refine rd_patch ?_ _ _ (by intro A hA; first | (cases hA; show _ ≠ _; omega) | (have := hal A hA; omega))))).mono ?_
  rintro e w' ⟨B, rfl, hd, hB, x0, rfl⟩
  have HD := Lib.hid hd
  have hBl := hd.B_lt
  simp at hB hBl
  clear hd
  go_wp2_with fail
  refine (l2Draw_d B 0 _ (by repeat (first | (with_reducible exact HD.out) | (with_reducible apply dsrc_seq) | (with_reducible apply dsrc_draw) | (with_reducible apply Dsrc.plus) | (with_reducible apply Dsrc.alloc) | (with_reducible apply Dsrc.drew))) (by omega)).mono ?_
  rintro e w' ⟨o, l, m, pa, pc, ps, b, last, rfl, hkv, hl14, hrd, hoff, hdn⟩
  have hs := hkv.s
  have HR1 := Lib.hid (show Rd encP _ pa pc ps from hrd)
  simp at hoff
  have HOF := Lib.hid hoff
  obtain ⟨hd1, cur1, x1, rfl⟩ := hdn
  have HD1 := Lib.hid hd1
  clear hd1
  clear hkv hrd hoff
  go_wp2_with fail
  refine (pick_d B _ _ _ (by repeat (first | (with_reducible exact HD1.out) | (with_reducible apply dsrc_seq) | (with_reducible apply dsrc_draw) | (with_reducible apply Dsrc.plus) | (with_reducible apply Dsrc.alloc) | (with_reducible apply Dsrc.drew))) (by omega)).mono ?_
  rintro e w' ⟨v, rfl, hv, hdn⟩
  obtain ⟨hd2, cur2, x2, rfl⟩ := hdn
  have HD2 := Lib.hid hd2
  clear hd2
  rcases (by omega : v = 0 ∨ 0 < v) with hv9 | hv9
  · have q0 : ((v : Int) == 0) = true := by simp; omega
    go_wp2_with fail
    refine (l1Data_d B _ 300 o l m _ (by repeat (first | (with_reducible exact HD2.out) | (with_reducible apply dsrc_seq) | (with_reducible apply dsrc_draw) | (with_reducible apply Dsrc.plus) | (with_reducible apply Dsrc.alloc) | (with_reducible apply Dsrc.drew))) (by omega) (by omega) hs).mono ?_
    rintro e w' ⟨sX, rfl, hXs, hdn⟩
    obtain ⟨hd3, cur3, x3, rfl⟩ := hdn
    have HD3 := Lib.hid hd3
    clear hd3
    go_wp2_with fail
    refine (pick_d B _ _ _ (by repeat (first | (with_reducible exact HD3.out) | (with_reducible apply dsrc_seq) | (with_reducible apply dsrc_draw) | (with_reducible apply Dsrc.plus) | (with_reducible apply Dsrc.alloc) | (with_reducible apply Dsrc.drew))) (by omega)).mono ?_
    rintro e w' ⟨v2, rfl, hv2, hdn⟩
    obtain ⟨hd4, cur4, x4, rfl⟩ := hdn
    have HD4 := Lib.hid hd4
    clear hd4
    rcases (by omega : v2 = 0 ∨ 0 < v2) with hv0 | hv0
    · have q1 : ((v2 : Int) == 0) = true := by simp; omega
      go_wp2_with fail
      refine (l1Wild_d B _ sX _ (by repeat (first | (with_reducible exact HD4.out) | (with_reducible apply dsrc_seq) | (with_reducible apply dsrc_draw) | (with_reducible apply Dsrc.plus) | (with_reducible apply Dsrc.alloc) | (with_reducible apply Dsrc.drew))) (by omega) (by omega)).mono ?_
      rintro e w' ⟨sW, rfl, hWs, hdn⟩
      obtain ⟨hd5, cur5, x5, rfl⟩ := hdn
      have HD5 := Lib.hid hd5
      clear hd5
      go_wp2_with fail
      refine (l2Bad_d B _ o l m pa pc ps b last _ (by repeat (first | (with_reducible exact HD5.out) | (with_reducible apply dsrc_seq) | (with_reducible apply dsrc_draw) | (with_reducible apply Dsrc.plus) | (with_reducible apply Dsrc.alloc) | (with_reducible apply Dsrc.drew))) (by omega) hs (rd_grew HR1.out (A := some ⟨B, 0, none⟩) (by repeat (first | (with_reducible exact grew_refl _ _) | (with_reducible apply grew_plus) | (with_reducible apply grew_alloc) | (with_reducible apply grew_drew) | (with_reducible apply grew_pat))) (fun X Y hX hY => by cases hX; have := HOF.out Y hY; show B ≠ _; omega)) (fun X hX e => by have := HOF.out X hX; omega) (by omega)).mono ?_
      rintro e w' ⟨o2, l2', m2, pa9, pc9, qs, base9, last9, rfl, hq9, hrd9, hoff9, hdn⟩
      obtain ⟨hd9, cur9, x9, rfl⟩ := hdn
      have HR9 := Lib.hid hrd9
      have hblk9 : ∀ X, pa9 = some X → w.heap.size < X.block := fun X hX => by
        rcases hoff9 X hX with h | h
        · have := HOF.out X h; omega
        · simp at h; omega
      clear hrd9 hoff9 hd9
      go_wp2_with fail
      exact bodyPost_ret (v := .tuple #[.agg #[.int .i64 o2, .int .i64 l2', .int .i64 m2, .slice pa9 qs.length pc9, .int .i64 base9, .int .i64 last9], .string (sW)]) (by simp [results, Try.results45, go_sem, ↓IntWalk.iteOmega]) rfl ⟨o2, l2', m2, pa9, pc9, qs, base9, last9, sW, rfl, hq9, (by omega), rd_sn (D1 := w.heap.size) (D2 := w.heap.size) HR9.out (by repeat (first | (with_reducible exact sn_refl _ _ _) | (with_reducible apply sn_plus) | (with_reducible apply sn_patch) | (with_reducible apply sn_drew) | (with_reducible refine sn_right ?_ (by first | exact .inl rfl | exact .inr rfl | omega) _) | (with_reducible refine sn_left ?_ (by first | exact .inl rfl | exact .inr rfl | omega) _) | (with_reducible apply sn_alloc) | (with_reducible refine sn_alloc2 ?_ (by simp <;> omega) _ _))) (fun X hX => ⟨by have := hblk9 X hX; omega, by have := hblk9 X hX; omega⟩), below_more (by repeat (first | exact Below.refl _ _ | refine below_plus ?_ (by first | omega | (simp <;> omega)) _ | refine Below.alloc ?_ (by first | omega | (simp <;> omega)) _ | refine below_patch ?_ (by omega) _ | refine Below.drew ?_)), hblk9⟩
    · have q1 : ((v2 : Int) == 0) = false := by simp; omega
      go_wp2_with fail
      refine (l2Bad_d B _ o l m pa pc ps b last _ (by repeat (first | (with_reducible exact HD4.out) | (with_reducible apply dsrc_seq) | (with_reducible apply dsrc_draw) | (with_reducible apply Dsrc.plus) | (with_reducible apply Dsrc.alloc) | (with_reducible apply Dsrc.drew))) (by omega) hs (rd_grew HR1.out (A := some ⟨B, 0, none⟩) (by repeat (first | (with_reducible exact grew_refl _ _) | (with_reducible apply grew_plus) | (with_reducible apply grew_alloc) | (with_reducible apply grew_drew) | (with_reducible apply grew_pat))) (fun X Y hX hY => by cases hX; have := HOF.out Y hY; show B ≠ _; omega)) (fun X hX e => by have := HOF.out X hX; omega) (by omega)).mono ?_
      rintro e w' ⟨o2, l2', m2, pa9, pc9, qs, base9, last9, rfl, hq9, hrd9, hoff9, hdn⟩
      obtain ⟨hd9, cur9, x9, rfl⟩ := hdn
      have HR9 := Lib.hid hrd9
      have hblk9 : ∀ X, pa9 = some X → w.heap.size < X.block := fun X hX => by
        rcases hoff9 X hX with h | h
        · have := HOF.out X h; omega
        · simp at h; omega
      clear hrd9 hoff9 hd9
      go_wp2_with fail
      exact bodyPost_ret (v := .tuple #[.agg #[.int .i64 o2, .int .i64 l2', .int .i64 m2, .slice pa9 qs.length pc9, .int .i64 base9, .int .i64 last9], .string (sX)]) (by simp [results, Try.results45, go_sem, ↓IntWalk.iteOmega]) rfl ⟨o2, l2', m2, pa9, pc9, qs, base9, last9, sX, rfl, hq9, (by omega), rd_sn (D1 := w.heap.size) (D2 := w.heap.size) HR9.out (by repeat (first | (with_reducible exact sn_refl _ _ _) | (with_reducible apply sn_plus) | (with_reducible apply sn_patch) | (with_reducible apply sn_drew) | (with_reducible refine sn_right ?_ (by first | exact .inl rfl | exact .inr rfl | omega) _) | (with_reducible refine sn_left ?_ (by first | exact .inl rfl | exact .inr rfl | omega) _) | (with_reducible apply sn_alloc) | (with_reducible refine sn_alloc2 ?_ (by simp <;> omega) _ _))) (fun X hX => ⟨by have := hblk9 X hX; omega, by have := hblk9 X hX; omega⟩), below_more (by repeat (first | exact Below.refl _ _ | refine below_plus ?_ (by first | omega | (simp <;> omega)) _ | refine Below.alloc ?_ (by first | omega | (simp <;> omega)) _ | refine below_patch ?_ (by omega) _ | refine Below.drew ?_)), hblk9⟩
  · have q0 : ((v : Int) == 0) = false := by simp; omega
    go_wp2_with fail
    refine (l1Data_d B _ 40 o l m _ (by repeat (first | (with_reducible exact HD2.out) | (with_reducible apply dsrc_seq) | (with_reducible apply dsrc_draw) | (with_reducible apply Dsrc.plus) | (with_reducible apply Dsrc.alloc) | (with_reducible apply Dsrc.drew))) (by omega) (by omega) hs).mono ?_
    rintro e w' ⟨sX, rfl, hXs, hdn⟩
    obtain ⟨hd3, cur3, x3, rfl⟩ := hdn
    have HD3 := Lib.hid hd3
    clear hd3
    go_wp2_with fail
    refine (pick_d B _ _ _ (by repeat (first | (with_reducible exact HD3.out) | (with_reducible apply dsrc_seq) | (with_reducible apply dsrc_draw) | (with_reducible apply Dsrc.plus) | (with_reducible apply Dsrc.alloc) | (with_reducible apply Dsrc.drew))) (by omega)).mono ?_
    rintro e w' ⟨v2, rfl, hv2, hdn⟩
    obtain ⟨hd4, cur4, x4, rfl⟩ := hdn
    have HD4 := Lib.hid hd4
    clear hd4
    rcases (by omega : v2 = 0 ∨ 0 < v2) with hv0 | hv0
    · have q1 : ((v2 : Int) == 0) = true := by simp; omega
      go_wp2_with fail
      refine (l1Wild_d B _ sX _ (by repeat (first | (with_reducible exact HD4.out) | (with_reducible apply dsrc_seq) | (with_reducible apply dsrc_draw) | (with_reducible apply Dsrc.plus) | (with_reducible apply Dsrc.alloc) | (with_reducible apply Dsrc.drew))) (by omega) (by omega)).mono ?_
      rintro e w' ⟨sW, rfl, hWs, hdn⟩
      obtain ⟨hd5, cur5, x5, rfl⟩ := hdn
      have HD5 := Lib.hid hd5
      clear hd5
      go_wp2_with fail
      refine (l2Bad_d B _ o l m pa pc ps b last _ (by repeat (first | (with_reducible exact HD5.out) | (with_reducible apply dsrc_seq) | (with_reducible apply dsrc_draw) | (with_reducible apply Dsrc.plus) | (with_reducible apply Dsrc.alloc) | (with_reducible apply Dsrc.drew))) (by omega) hs (rd_grew HR1.out (A := some ⟨B, 0, none⟩) (by repeat (first | (with_reducible exact grew_refl _ _) | (with_reducible apply grew_plus) | (with_reducible apply grew_alloc) | (with_reducible apply grew_drew) | (with_reducible apply grew_pat))) (fun X Y hX hY => by cases hX; have := HOF.out Y hY; show B ≠ _; omega)) (fun X hX e => by have := HOF.out X hX; omega) (by omega)).mono ?_
      rintro e w' ⟨o2, l2', m2, pa9, pc9, qs, base9, last9, rfl, hq9, hrd9, hoff9, hdn⟩
      obtain ⟨hd9, cur9, x9, rfl⟩ := hdn
      have HR9 := Lib.hid hrd9
      have hblk9 : ∀ X, pa9 = some X → w.heap.size < X.block := fun X hX => by
        rcases hoff9 X hX with h | h
        · have := HOF.out X h; omega
        · simp at h; omega
      clear hrd9 hoff9 hd9
      go_wp2_with fail
      exact bodyPost_ret (v := .tuple #[.agg #[.int .i64 o2, .int .i64 l2', .int .i64 m2, .slice pa9 qs.length pc9, .int .i64 base9, .int .i64 last9], .string (sW)]) (by simp [results, Try.results45, go_sem, ↓IntWalk.iteOmega]) rfl ⟨o2, l2', m2, pa9, pc9, qs, base9, last9, sW, rfl, hq9, (by omega), rd_sn (D1 := w.heap.size) (D2 := w.heap.size) HR9.out (by repeat (first | (with_reducible exact sn_refl _ _ _) | (with_reducible apply sn_plus) | (with_reducible apply sn_patch) | (with_reducible apply sn_drew) | (with_reducible refine sn_right ?_ (by first | exact .inl rfl | exact .inr rfl | omega) _) | (with_reducible refine sn_left ?_ (by first | exact .inl rfl | exact .inr rfl | omega) _) | (with_reducible apply sn_alloc) | (with_reducible refine sn_alloc2 ?_ (by simp <;> omega) _ _))) (fun X hX => ⟨by have := hblk9 X hX; omega, by have := hblk9 X hX; omega⟩), below_more (by repeat (first | exact Below.refl _ _ | refine below_plus ?_ (by first | omega | (simp <;> omega)) _ | refine Below.alloc ?_ (by first | omega | (simp <;> omega)) _ | refine below_patch ?_ (by omega) _ | refine Below.drew ?_)), hblk9⟩
    · have q1 : ((v2 : Int) == 0) = false := by simp; omega
      go_wp2_with fail
      refine (l2Bad_d B _ o l m pa pc ps b last _ (by repeat (first | (with_reducible exact HD4.out) | (with_reducible apply dsrc_seq) | (with_reducible apply dsrc_draw) | (with_reducible apply Dsrc.plus) | (with_reducible apply Dsrc.alloc) | (with_reducible apply Dsrc.drew))) (by omega) hs (rd_grew HR1.out (A := some ⟨B, 0, none⟩) (by repeat (first | (with_reducible exact grew_refl _ _) | (with_reducible apply grew_plus) | (with_reducible apply grew_alloc) | (with_reducible apply grew_drew) | (with_reducible apply grew_pat))) (fun X Y hX hY => by cases hX; have := HOF.out Y hY; show B ≠ _; omega)) (fun X hX e => by have := HOF.out X hX; omega) (by omega)).mono ?_
      rintro e w' ⟨o2, l2', m2, pa9, pc9, qs, base9, last9, rfl, hq9, hrd9, hoff9, hdn⟩
      obtain ⟨hd9, cur9, x9, rfl⟩ := hdn
      have HR9 := Lib.hid hrd9
      have hblk9 : ∀ X, pa9 = some X → w.heap.size < X.block := fun X hX => by
        rcases hoff9 X hX with h | h
        · have := HOF.out X h; omega
        · simp at h; omega
      clear hrd9 hoff9 hd9
      go_wp2_with fail
      exact bodyPost_ret (v := .tuple #[.agg #[.int .i64 o2, .int .i64 l2', .int .i64 m2, .slice pa9 qs.length pc9, .int .i64 base9, .int .i64 last9], .string (sX)]) (by simp [results, Try.results45, go_sem, ↓IntWalk.iteOmega]) rfl ⟨o2, l2', m2, pa9, pc9, qs, base9, last9, sX, rfl, hq9, (by omega), rd_sn (D1 := w.heap.size) (D2 := w.heap.size) HR9.out (by repeat (first | (with_reducible exact sn_refl _ _ _) | (with_reducible apply sn_plus) | (with_reducible apply sn_patch) | (with_reducible apply sn_drew) | (with_reducible refine sn_right ?_ (by first | exact .inl rfl | exact .inr rfl | omega) _) | (with_reducible refine sn_left ?_ (by first | exact .inl rfl | exact .inr rfl | omega) _) | (with_reducible apply sn_alloc) | (with_reducible refine sn_alloc2 ?_ (by simp <;> omega) _ _))) (fun X hX => ⟨by have := hblk9 X hX; omega, by have := hblk9 X hX; omega⟩), below_more (by repeat (first | exact Below.refl _ _ | refine below_plus ?_ (by first | omega | (simp <;> omega)) _ | refine Below.alloc ?_ (by first | omega | (simp <;> omega)) _ | refine below_patch ?_ (by omega) _ | refine Below.drew ?_)), hblk9⟩

theorem DrawGreedyCodes_any (a : Option Addr) (cap : Nat) (bs : List UInt8) (w : World) (hr : Rd encB w a cap bs) :
    Calls Try.prog 45 #[.slice a bs.length cap] w (RetKs w) :=
  (DrawGreedyCodes_at a cap bs w hr).mono fun _ _ ⟨o, l, m, pa, pc, ps, base, last, s, h1, h2, h3, h4, h5, _⟩ => ⟨o, l, m, pa, pc, ps, base, last, s, h1, h2, h3, h4, h5⟩

end Go.Proofs.Ytlihhlihcjncoaa
