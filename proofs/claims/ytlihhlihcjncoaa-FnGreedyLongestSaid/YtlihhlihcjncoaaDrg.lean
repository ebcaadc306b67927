/- Draws: l4Dict, l4Some, DrawStartWith, DrawTrimDict. -/
import Derived.Test.YtlihhlihcjncoaaDrd
import Derived.Test.YtlihhlihcjncoaaGf
namespace Go.Proofs.Ytlihhlihcjncoaa
open Go.RowKit
set_option linter.unusedVariables false
set_option linter.unusedSimpArgs false

theorem ext_from (s : ByteArray) (v : Nat) : (s.extract v s.size).size = s.size - v := by
  rw [← bytes_len, ext_drop, List.length_drop, bytes_len]

set_option maxRecDepth 100000 in
set_option maxHeartbeats 4000000 in
theorem l4Dict_d (B n : Nat) (o l m : Int) (s : ByteArray) (w : World) (hd : Dsrc w B n) (hn : n ≤ 800000) (hs : sv o l m = true) (hz : s.size ≤ 100) :
    Calls Try.prog 126 #[.pointer (some ⟨B, 0, none⟩), .agg #[.int .i64 o, .int .i64 l, .int .i64 m], .string s] w (RetT w B (n + 60) 100) := by
  have hB := hd.B_lt
  have HD := Lib.hid hd
  clear hd
  go_enter Try.func126, Try.ntmps126
  go_wp2_with fail
  refine (pick_d B n _ _ (by repeat (first | (with_reducible exact HD.out) | (with_reducible apply dsrc_seq) | (with_reducible apply dsrc_draw) | (with_reducible apply Dsrc.plus) | (with_reducible apply Dsrc.alloc) | (with_reducible apply Dsrc.drew))) (by omega)).mono ?_
  rintro e w' ⟨v, rfl, hv, hdn⟩
  obtain ⟨hd1, cur1, x1, rfl⟩ := hdn
  have HD1 := Lib.hid hd1
  clear hd1
  rcases (by omega : v = 0 ∨ (v = 1 ∧ 0 < s.size) ∨ (v = 1 ∧ s.size = 0) ∨ 1 < v) with hv0 | hv0 | hv0 | hv0
  · have q0 : ((v : Int) == 0) = true := by simp; omega
    go_wp2_with fail
    go_ret
    exact ⟨⟨#[]⟩, rfl, by show 0 ≤ 100; omega, drn_of (Dsrc.mono (by repeat (first | (with_reducible exact HD1.out) | (with_reducible apply dsrc_seq) | (with_reducible apply dsrc_draw) | (with_reducible apply Dsrc.plus) | (with_reducible apply Dsrc.alloc) | (with_reducible apply Dsrc.drew))) (by omega)) (by repeat (first | (with_reducible exact grew_refl _ _) | (with_reducible apply grew_plus) | (with_reducible apply grew_alloc) | (with_reducible apply grew_drew) | (with_reducible apply grew_pat))) hB⟩
  · obtain ⟨hv1, hz1⟩ := hv0
    have q0 : ((v : Int) == 0) = false := by simp; omega
    have q1 : ((v : Int) == 1) = true := by simp; omega
    have q2 : decide ((0 : Int) < (s.size : Int)) = true := decide_eq_true (by omega)
    clear hv1
    go_wp2_with fail
    refine (pick_d B (n + 1) _ _ (by repeat (first | (with_reducible exact HD1.out) | (with_reducible apply dsrc_seq) | (with_reducible apply dsrc_draw) | (with_reducible apply Dsrc.plus) | (with_reducible apply Dsrc.alloc) | (with_reducible apply Dsrc.drew))) (by omega)).mono ?_
    rintro e w' ⟨v2, rfl, hv2, hdn⟩
    obtain ⟨hd2, cur2, x2, rfl⟩ := hdn
    have HD2 := Lib.hid hd2
    clear hd2
    have hv3 : v2 ≤ s.size := by omega
    go_wp2_with fail
    go_ret
    exact ⟨s.extract v2 s.size, rfl, by rw [ext_from]; omega, drn_of (Dsrc.mono (by repeat (first | (with_reducible exact HD2.out) | (with_reducible apply dsrc_seq) | (with_reducible apply dsrc_draw) | (with_reducible apply Dsrc.plus) | (with_reducible apply Dsrc.alloc) | (with_reducible apply Dsrc.drew))) (by omega)) (by repeat (first | (with_reducible exact grew_refl _ _) | (with_reducible apply grew_plus) | (with_reducible apply grew_alloc) | (with_reducible apply grew_drew) | (with_reducible apply grew_pat))) hB⟩
  · obtain ⟨hv1, hz1⟩ := hv0
    have q0 : ((v : Int) == 0) = false := by simp; omega
    have q1 : ((v : Int) == 1) = true := by simp; omega
    have q2 : decide ((0 : Int) < (s.size : Int)) = false := decide_eq_false (by omega)
    have q3 : decide (0 < s.size) = false := decide_eq_false (by omega)
    have q5 : ¬ 0 < s.size := by omega
    clear hv1
    go_wp2_with fail
    refine (l1Data_d B (n + 1) 20 o l m _ (by repeat (first | (with_reducible exact HD1.out) | (with_reducible apply dsrc_seq) | (with_reducible apply dsrc_draw) | (with_reducible apply Dsrc.plus) | (with_reducible apply Dsrc.alloc) | (with_reducible apply Dsrc.drew))) (by omega) (by omega) hs).mono ?_
    rintro e w' ⟨r, rfl, hr, hdn⟩
    obtain ⟨hd2, cur2, x2, rfl⟩ := hdn
    have HD2 := Lib.hid hd2
    clear hd2
    go_wp2_with fail
    go_ret
    exact ⟨r, rfl, by omega, drn_of (Dsrc.mono (by repeat (first | (with_reducible exact HD2.out) | (with_reducible apply dsrc_seq) | (with_reducible apply dsrc_draw) | (with_reducible apply Dsrc.plus) | (with_reducible apply Dsrc.alloc) | (with_reducible apply Dsrc.drew))) (by omega)) (by repeat (first | (with_reducible exact grew_refl _ _) | (with_reducible apply grew_plus) | (with_reducible apply grew_alloc) | (with_reducible apply grew_drew) | (with_reducible apply grew_pat))) hB⟩
  · have q0 : ((v : Int) == 0) = false := by simp; omega
    have q1 : ((v : Int) == 1) = false := by simp; omega
    go_wp2_with fail
    refine (l1Data_d B (n + 1) 20 o l m _ (by repeat (first | (with_reducible exact HD1.out) | (with_reducible apply dsrc_seq) | (with_reducible apply dsrc_draw) | (with_reducible apply Dsrc.plus) | (with_reducible apply Dsrc.alloc) | (with_reducible apply Dsrc.drew))) (by omega) (by omega) hs).mono ?_
    rintro e w' ⟨r, rfl, hr, hdn⟩
    obtain ⟨hd2, cur2, x2, rfl⟩ := hdn
    have HD2 := Lib.hid hd2
    clear hd2
    go_wp2_with fail
    go_ret
    exact ⟨r, rfl, by omega, drn_of (Dsrc.mono (by repeat (first | (with_reducible exact HD2.out) | (with_reducible apply dsrc_seq) | (with_reducible apply dsrc_draw) | (with_reducible apply Dsrc.plus) | (with_reducible apply Dsrc.alloc) | (with_reducible apply Dsrc.drew))) (by omega)) (by repeat (first | (with_reducible exact grew_refl _ _) | (with_reducible apply grew_plus) | (with_reducible apply grew_alloc) | (with_reducible apply grew_drew) | (with_reducible apply grew_pat))) hB⟩

/-- a draw of a setting and two texts -/
def RetS4 (w : World) (B n : Nat) (e : Ending) (w' : World) : Prop := ∃ (o l m : Int) (s1 s2 : ByteArray), e = .returned (.tuple #[.agg #[.int .i64 o, .int .i64 l, .int .i64 m], .string s1, .string s2]) ∧ s1.size ≤ 3001 ∧ s2.size ≤ 3001 ∧ Drn w B n w'

set_option maxRecDepth 100000 in
set_option maxHeartbeats 8000000 in
theorem l4Some_d (B n : Nat) (w : World) (hd : Dsrc w B n) (hn : n ≤ 700000) :
    Calls Try.prog 84 #[.pointer (some ⟨B, 0, none⟩)] w (RetS4 w B (n + 200)) := by
  have hB := hd.B_lt
  have HD := Lib.hid hd
  clear hd
  go_enter Try.func84, Try.ntmps84
  go_wp2_with fail
  refine (l1Some_d B n _ (by repeat (first | (with_reducible exact HD.out) | (with_reducible apply dsrc_seq) | (with_reducible apply dsrc_draw) | (with_reducible apply Dsrc.plus) | (with_reducible apply Dsrc.alloc) | (with_reducible apply Dsrc.drew))) (by omega)).mono ?_
  rintro e w' ⟨o, l, m, rfl, hs, hdn⟩
  obtain ⟨hd1, cur1, x1, rfl⟩ := hdn
  have HD1 := Lib.hid hd1
  clear hd1
  obtain ⟨_, l1, l2, _, _⟩ := sv_iff.1 hs
  go_wp2_with fail
  refine (l1Data_d B (n + 5) 28 o l m _ (by repeat (first | (with_reducible exact HD1.out) | (with_reducible apply dsrc_seq) | (with_reducible apply dsrc_draw) | (with_reducible apply Dsrc.plus) | (with_reducible apply Dsrc.alloc) | (with_reducible apply Dsrc.drew))) (by omega) (by omega) hs).mono ?_
  rintro e w' ⟨s2, rfl, hs2, hdn⟩
  obtain ⟨hd2, cur2, x2, rfl⟩ := hdn
  have HD2 := Lib.hid hd2
  clear hd2
  go_wp2_with fail
  refine (l4Dict_d B _ o l m s2 _ (by repeat (first | (with_reducible exact HD2.out) | (with_reducible apply dsrc_seq) | (with_reducible apply dsrc_draw) | (with_reducible apply Dsrc.plus) | (with_reducible apply Dsrc.alloc) | (with_reducible apply Dsrc.drew))) (by omega) hs (by omega)).mono ?_
  rintro e w' ⟨s1, rfl, hs1, hdn⟩
  obtain ⟨hd3, cur3, x3, rfl⟩ := hdn
  have HD3 := Lib.hid hd3
  clear hd3
  go_wp2_with fail
  refine (pick_d B _ _ _ (by repeat (first | (with_reducible exact HD3.out) | (with_reducible apply dsrc_seq) | (with_reducible apply dsrc_draw) | (with_reducible apply Dsrc.plus) | (with_reducible apply Dsrc.alloc) | (with_reducible apply Dsrc.drew))) (by omega)).mono ?_
  rintro e w' ⟨v4, rfl, hv4, hdn⟩
  obtain ⟨hd4, cur4, x4, rfl⟩ := hdn
  have HD4 := Lib.hid hd4
  clear hd4
  rcases (by omega : v4 = 0 ∨ 0 < v4) with hv | hv
  · have q4 : ((v4 : Int) == 0) = true := by simp; omega
    go_wp2_with fail
    refine (l1Wild_d B _ s2 _ (by repeat (first | (with_reducible exact HD4.out) | (with_reducible apply dsrc_seq) | (with_reducible apply dsrc_draw) | (with_reducible apply Dsrc.plus) | (with_reducible apply Dsrc.alloc) | (with_reducible apply Dsrc.drew))) (by omega) (by omega)).mono ?_
    rintro e w' ⟨s2', rfl, hs2', hdn⟩
    obtain ⟨hd5, cur5, x5, rfl⟩ := hdn
    have HD5 := Lib.hid hd5
    clear hd5
    go_wp2_with fail
    refine (pick_d B _ _ _ (by repeat (first | (with_reducible exact HD5.out) | (with_reducible apply dsrc_seq) | (with_reducible apply dsrc_draw) | (with_reducible apply Dsrc.plus) | (with_reducible apply Dsrc.alloc) | (with_reducible apply Dsrc.drew))) (by omega)).mono ?_
    rintro e w' ⟨v6, rfl, hv6, hdn⟩
    obtain ⟨hd6, cur6, x6, rfl⟩ := hdn
    have HD6 := Lib.hid hd6
    clear hd6
    rcases (by omega : v6 = 0 ∨ 0 < v6) with hv | hv
    · have q6 : ((v6 : Int) == 0) = true := by simp; omega
      go_wp2_with fail
      refine (l1Wild_d B _ s1 _ (by repeat (first | (with_reducible exact HD6.out) | (with_reducible apply dsrc_seq) | (with_reducible apply dsrc_draw) | (with_reducible apply Dsrc.plus) | (with_reducible apply Dsrc.alloc) | (with_reducible apply Dsrc.drew))) (by omega) (by omega)).mono ?_
      rintro e w' ⟨s1', rfl, hs1', hdn⟩
      obtain ⟨hd7, cur7, x7, rfl⟩ := hdn
      have HD7 := Lib.hid hd7
      clear hd7
      go_wp2_with fail
      refine (l1Bad_d B _ o l m _ (by repeat (first | (with_reducible exact HD7.out) | (with_reducible apply dsrc_seq) | (with_reducible apply dsrc_draw) | (with_reducible apply Dsrc.plus) | (with_reducible apply Dsrc.alloc) | (with_reducible apply Dsrc.drew))) (by omega) (by omega) (by omega)).mono ?_
      rintro e w' ⟨o2, l2', m2, rfl, hdn⟩
      obtain ⟨hd9, cur9, x9, rfl⟩ := hdn
      have HD9 := Lib.hid hd9
      clear hd9
      go_wp2_with fail
      all_goals exact bodyPost_ret (v := .tuple #[.agg #[.int .i64 o2, .int .i64 l2', .int .i64 m2], .string s1', .string s2']) (by simp [results, Try.results84, go_sem, ↓IntWalk.iteOmega]) rfl ⟨o2, l2', m2, s1', s2', rfl, by omega, by omega, drn_of ((Dsrc.mono HD9.out (by omega)).sl (by repeat (first | (with_reducible exact sl_refl _ _) | (with_reducible apply sl_plus) | (with_reducible apply sl_patch) | (with_reducible apply sl_drew) | (with_reducible refine sl_alloc2 ?_ (by simp <;> omega) _ _))) hB) (by repeat (first | (with_reducible exact grew_refl _ _) | (with_reducible apply grew_plus) | (with_reducible apply grew_alloc) | (with_reducible apply grew_drew) | (with_reducible apply grew_pat))) hB⟩
    · have q6 : ((v6 : Int) == 0) = false := by simp; omega
      go_wp2_with fail
      refine (l1Bad_d B _ o l m _ (by repeat (first | (with_reducible exact HD6.out) | (with_reducible apply dsrc_seq) | (with_reducible apply dsrc_draw) | (with_reducible apply Dsrc.plus) | (with_reducible apply Dsrc.alloc) | (with_reducible apply Dsrc.drew))) (by omega) (by omega) (by omega)).mono ?_
      rintro e w' ⟨o2, l2', m2, rfl, hdn⟩
      obtain ⟨hd9, cur9, x9, rfl⟩ := hdn
      have HD9 := Lib.hid hd9
      clear hd9
      go_wp2_with fail
      all_goals exact bodyPost_ret (v := .tuple #[.agg #[.int .i64 o2, .int .i64 l2', .int .i64 m2], .string s1, .string s2']) (by simp [results, Try.results84, go_sem, ↓IntWalk.iteOmega]) rfl ⟨o2, l2', m2, s1, s2', rfl, by omega, by omega, drn_of ((Dsrc.mono HD9.out (by omega)).sl (by repeat (first | (with_reducible exact sl_refl _ _) | (with_reducible apply sl_plus) | (with_reducible apply sl_patch) | (with_reducible apply sl_drew) | (with_reducible refine sl_alloc2 ?_ (by simp <;> omega) _ _))) hB) (by repeat (first | (with_reducible exact grew_refl _ _) | (with_reducible apply grew_plus) | (with_reducible apply grew_alloc) | (with_reducible apply grew_drew) | (with_reducible apply grew_pat))) hB⟩
  · have q4 : ((v4 : Int) == 0) = false := by simp; omega
    go_wp2_with fail
    refine (pick_d B _ _ _ (by repeat (first | (with_reducible exact HD4.out) | (with_reducible apply dsrc_seq) | (with_reducible apply dsrc_draw) | (with_reducible apply Dsrc.plus) | (with_reducible apply Dsrc.alloc) | (with_reducible apply Dsrc.drew))) (by omega)).mono ?_
    rintro e w' ⟨v6, rfl, hv6, hdn⟩
    obtain ⟨hd6, cur6, x6, rfl⟩ := hdn
    have HD6 := Lib.hid hd6
    clear hd6
    rcases (by omega : v6 = 0 ∨ 0 < v6) with hv | hv
    · have q6 : ((v6 : Int) == 0) = true := by simp; omega
      go_wp2_with fail
      refine (l1Wild_d B _ s1 _ (by repeat (first | (with_reducible exact HD6.out) | (with_reducible apply dsrc_seq) | (with_reducible apply dsrc_draw) | (with_reducible apply Dsrc.plus) | (with_reducible apply Dsrc.alloc) | (with_reducible apply Dsrc.drew))) (by omega) (by omega)).mono ?_
      rintro e w' ⟨s1', rfl, hs1', hdn⟩
      obtain ⟨hd7, cur7, x7, rfl⟩ := hdn
      have HD7 := Lib.hid hd7
      clear hd7
      go_wp2_with fail
      refine (l1Bad_d B _ o l m _ (by repeat (first | (with_reducible exact HD7.out) | (with_reducible apply dsrc_seq) | (with_reducible apply dsrc_draw) | (with_reducible apply Dsrc.plus) | (with_reducible apply Dsrc.alloc) | (with_reducible apply Dsrc.drew))) (by omega) (by omega) (by omega)).mono ?_
      rintro e w' ⟨o2, l2', m2, rfl, hdn⟩
      obtain ⟨hd9, cur9, x9, rfl⟩ := hdn
      have HD9 := Lib.hid hd9
      clear hd9
      go_wp2_with fail
      all_goals exact bodyPost_ret (v := .tuple #[.agg #[.int .i64 o2, .int .i64 l2', .int .i64 m2], .string s1', .string s2]) (by simp [results, Try.results84, go_sem, ↓IntWalk.iteOmega]) rfl ⟨o2, l2', m2, s1', s2, rfl, by omega, by omega, drn_of ((Dsrc.mono HD9.out (by omega)).sl (by repeat (first | (with_reducible exact sl_refl _ _) | (with_reducible apply sl_plus) | (with_reducible apply sl_patch) | (with_reducible apply sl_drew) | (with_reducible refine sl_alloc2 ?_ (by simp <;> omega) _ _))) hB) (by repeat (first | (with_reducible exact grew_refl _ _) | (with_reducible apply grew_plus) | (with_reducible apply grew_alloc) | (with_reducible apply grew_drew) | (with_reducible apply grew_pat))) hB⟩
    · have q6 : ((v6 : Int) == 0) = false := by simp; omega
      go_wp2_with fail
      refine (l1Bad_d B _ o l m _ (by repeat (first | (with_reducible exact HD6.out) | (with_reducible apply dsrc_seq) | (with_reducible apply dsrc_draw) | (with_reducible apply Dsrc.plus) | (with_reducible apply Dsrc.alloc) | (with_reducible apply Dsrc.drew))) (by omega) (by omega) (by omega)).mono ?_
      rintro e w' ⟨o2, l2', m2, rfl, hdn⟩
      obtain ⟨hd9, cur9, x9, rfl⟩ := hdn
      have HD9 := Lib.hid hd9
      clear hd9
      go_wp2_with fail
      all_goals exact bodyPost_ret (v := .tuple #[.agg #[.int .i64 o2, .int .i64 l2', .int .i64 m2], .string s1, .string s2]) (by simp [results, Try.results84, go_sem, ↓IntWalk.iteOmega]) rfl ⟨o2, l2', m2, s1, s2, rfl, by omega, by omega, drn_of ((Dsrc.mono HD9.out (by omega)).sl (by repeat (first | (with_reducible exact sl_refl _ _) | (with_reducible apply sl_plus) | (with_reducible apply sl_patch) | (with_reducible apply sl_drew) | (with_reducible refine sl_alloc2 ?_ (by simp <;> omega) _ _))) hB) (by repeat (first | (with_reducible exact grew_refl _ _) | (with_reducible apply grew_plus) | (with_reducible apply grew_alloc) | (with_reducible apply grew_drew) | (with_reducible apply grew_pat))) hB⟩

end Go.Proofs.Ytlihhlihcjncoaa
