/- Draws: DrawLearnKnown, DrawWordUses. -/
import Derived.Test.YtlihhlihcjncoaaDrl
import Derived.Test.YtlihhlihcjncoaaDrh
import Derived.Test.YtlihhlihcjncoaaLst
namespace Go.Proofs.Ytlihhlihcjncoaa
open Go.RowKit
set_option linter.unusedVariables false
set_option linter.unusedSimpArgs false

/-- a world under a name, with what is known of it -/
theorem wpn {P : Program} {c : Code} {Q : Exit → Act → World → Prop} {a : Act} {W : World} (F : World → Prop) (hF : F W) (h : ∀ X, F X → c.wp P Q a X) : c.wp P Q a W := h W hF

theorem callsn {P : Program} {f : FuncId} {args : Array Value} {Q : Ending → World → Prop} {W : World} (F : World → Prop) (hF : F W) (h : ∀ X, F X → Calls P f args X Q) : Calls P f args W Q := h W hF

set_option maxRecDepth 100000 in
set_option maxHeartbeats 2000000 in
theorem DrawLearnKnown_any (a : Option Addr) (cap : Nat) (bs : List UInt8) (w : World) (hr : Rd encB w a cap bs) :
    Calls Try.prog 25 #[.slice a bs.length cap] w (RetKs w) := by
  go_enter Try.func25, Try.ntmps25
  go_wp2_with fail
  refine (DrawGreedyCodes_at a cap bs _ (by repeat (first | exact hr | apply rd_seq | apply Rd.plus | apply Rd.alloc | apply Rd.drew | apply Rd.drewN | refine rd_patch ?_ _ _ (by intro A hA; first | (cases hA; show _ ≠ _; omega) | (have := hal A hA; omega))))).mono ?_
  rintro e w' ⟨o, l, m, pa, pc, ps, base, last, s, rfl, hl3, hs5, hrd, ⟨x1, rfl⟩, hoff⟩
  simp at hoff
  have HR := Lib.hid (show Rd encP _ pa pc ps from hrd)
  clear hrd
  go_wp2_with fail
  exact bodyPost_ret (v := .tuple #[.agg #[.int .i64 o, .int .i64 l, .int .i64 m, .slice pa ps.length pc, .int .i64 base, .int .i64 last], .string s]) (by simp [results, Try.results25, go_sem, ↓IntWalk.iteOmega]) rfl ⟨o, l, m, pa, pc, ps, base, last, s, rfl, hl3, hs5, rd_sn (D1 := w.heap.size) (D2 := w.heap.size) HR.out (by repeat (first | (with_reducible exact sn_refl _ _ _) | (with_reducible apply sn_plus) | (with_reducible apply sn_patch) | (with_reducible apply sn_drew) | (with_reducible refine sn_right ?_ (by first | exact .inl rfl | exact .inr rfl | omega) _) | (with_reducible refine sn_left ?_ (by first | exact .inl rfl | exact .inr rfl | omega) _) | (with_reducible apply sn_alloc) | (with_reducible refine sn_alloc2 ?_ (by simp <;> omega) _ _))) (fun X hX => ⟨by have := hoff X hX; omega, by have := hoff X hX; omega⟩), below_more (by repeat (first | exact Below.refl _ _ | refine below_plus ?_ (by first | omega | (simp <;> omega)) _ | refine Below.alloc ?_ (by first | omega | (simp <;> omega)) _ | refine below_patch ?_ (by omega) _ | refine Below.drew ?_))⟩

set_option maxRecDepth 100000 in
set_option maxHeartbeats 4000000 in
theorem DrawWordUses_any (a : Option Addr) (cap : Nat) (bs : List UInt8) (w : World) (hr : Rd encB w a cap bs) :
    Calls Try.prog 39 #[.slice a bs.length cap] w (RetKs w) := by
  go_enter Try.func39, Try.ntmps39
  go_wp2_with fail
  refine (l9Open_any a cap bs _ (by repeat (first | exact hr | apply rd_seq | apply Rd.plus | apply Rd.alloc | apply Rd.drew | apply Rd.drewN | refine rd_patch ?_ _ _ (by intro A hA; first | (cases hA; show _ ≠ _; omega) | (have := hal A hA; omega))))).mono ?_
  rintro e w' ⟨B, rfl, hd, hB, x0, rfl⟩
  have HD := Lib.hid hd
  have hBl := hd.B_lt
  simp at hB hBl
  clear hd
  go_wp2_with fail
  refine (l4Some_d B 0 _ (by repeat (first | (with_reducible exact HD.out) | (with_reducible apply dsrc_seq) | (with_reducible apply dsrc_draw) | (with_reducible apply Dsrc.plus) | (with_reducible apply Dsrc.alloc) | (with_reducible apply Dsrc.drew))) (by omega)).mono ?_
  rintro e w' ⟨o, l, m, s1, s2, rfl, h1, h2, hdn⟩
  obtain ⟨hd1, cur1, x1, rfl⟩ := hdn
  have HD1 := Lib.hid hd1
  clear hd1
  have hm1 : s1.size ≤ maxLen := by unfold maxLen; omega
  by_cases hbad : sv o l m = false ∨ dfB o l m s1 = false
  · go_wp2_with fail
    refine (specStartWith_bad o l m s1 _ hm1 hbad).mono ?_
    rintro e w' ⟨pa, pc, rfl, hown, x2, rfl⟩
    clear hown
    go_wp2_with fail
    refine (l2Draw_d B _ _ (by repeat (first | (with_reducible exact HD1.out) | (with_reducible apply dsrc_seq) | (with_reducible apply dsrc_draw) | (with_reducible apply Dsrc.plus) | (with_reducible apply Dsrc.alloc) | (with_reducible apply Dsrc.drew))) (by omega)).mono ?_
    rintro e w' ⟨o2, l2', m2, pa9, pc9, ps, b, last, rfl, hkv, hl14, hrd, hoff, hdn⟩
    obtain ⟨hd2, cur2, x3, rfl⟩ := hdn
    have HR9 := Lib.hid (show Rd encP _ pa9 pc9 ps from hrd)
    simp at hoff
    have hblk9 : ∀ X, pa9 = some X → X.block ≠ w.heap.size := fun X hX => by have := hoff X hX; omega
    clear hkv hrd hoff hd2
    go_wp2_with fail
    exact bodyPost_ret (v := .tuple #[.agg #[.int .i64 o2, .int .i64 l2', .int .i64 m2, .slice pa9 ps.length pc9, .int .i64 b, .int .i64 last], .string s2]) (by simp [results, Try.results39, go_sem, ↓IntWalk.iteOmega]) rfl ⟨o2, l2', m2, pa9, pc9, ps, b, last, s2, rfl, by omega, by omega, rd_sn (D1 := w.heap.size) (D2 := w.heap.size) HR9.out (by repeat (first | (with_reducible exact sn_refl _ _ _) | (with_reducible apply sn_plus) | (with_reducible apply sn_patch) | (with_reducible apply sn_drew) | (with_reducible refine sn_right ?_ (by first | exact .inl rfl | exact .inr rfl | omega) _) | (with_reducible refine sn_left ?_ (by first | exact .inl rfl | exact .inr rfl | omega) _) | (with_reducible apply sn_alloc) | (with_reducible refine sn_alloc2 ?_ (by simp <;> omega) _ _))) (fun X hX => ⟨hblk9 X hX, hblk9 X hX⟩), below_more (by repeat (first | exact Below.refl _ _ | refine below_plus ?_ (by first | omega | (simp <;> omega)) _ | refine Below.alloc ?_ (by first | omega | (simp <;> omega)) _ | refine below_patch ?_ (by omega) _ | refine Below.drew ?_))⟩
  · have hs : sv o l m = true := by
      cases hk : sv o l m
      · exact absurd (.inl hk) hbad
      · rfl
    have hd : dfB o l m s1 = true := by
      cases hd : dfB o l m s1
      · exact absurd (.inr hd) hbad
      · rfl
    obtain ⟨P, hP⟩ : ∃ P, lrn0 l m s1 = P := ⟨_, rfl⟩
    have hPl : P.length ≤ 2000 := by
      have h9 := lrn_few hs hd
      have h8 := dfB_len hd
      rw [hP] at h9; omega
    have HS2 := Lib.hid (fun (W : World) => specStartWith_yes0 o l m s1 W hs hd hm1 P hP)
    clear hbad hd hP
    go_wp2_with fail
    refine (HS2.out _).mono ?_
    rintro e w' ⟨pa, pc, rfl, hown, x2, rfl⟩
    have hoz := fun A hA => (own_lt hown A hA).1
    simp at hoz
    (try simp only [plus_plus] at hown)
    have HO := Lib.hid hown
    have HR1 := Lib.hid (show Rd encP _ pa pc P from hown.rd)
    clear hown
    go_wp2_with fail
    refine (l2Bad_d B _ o l m pa pc P P.length (-1) _ (by repeat (first | (with_reducible exact HD1.out) | (with_reducible apply dsrc_seq) | (with_reducible apply dsrc_draw) | (with_reducible apply Dsrc.plus) | (with_reducible apply Dsrc.alloc) | (with_reducible apply Dsrc.drew))) (by omega) hs (by (try unfold RdP); repeat (first | (with_reducible exact HR1.out) | (with_reducible apply rd_seq) | (with_reducible apply Rd.plus) | (with_reducible apply Rd.alloc) | (with_reducible apply Rd.drew) | (with_reducible apply Rd.drewN))) (fun X hX e => by have := hoz X hX; omega) (by omega)).mono ?_
    rintro e w' ⟨o2, l2', m2, pa9, pc9, qs, base9, last9, rfl, hq9, hrd9, hoff9, hdn⟩
    obtain ⟨hd9, cur9, x9, rfl⟩ := hdn
    have HR9 := Lib.hid hrd9
    have hblk9 : ∀ X, pa9 = some X → X.block ≠ w.heap.size := fun X hX e => by
      rcases hoff9 X hX with h | h
      · have := hoz X h; omega
      · simp at h; omega
    clear hrd9 hoff9 hd9
    go_wp2_with fail
    exact bodyPost_ret (v := .tuple #[.agg #[.int .i64 o2, .int .i64 l2', .int .i64 m2, .slice pa9 qs.length pc9, .int .i64 base9, .int .i64 last9], .string s2]) (by simp [results, Try.results39, go_sem, ↓IntWalk.iteOmega]) rfl ⟨o2, l2', m2, pa9, pc9, qs, base9, last9, s2, rfl, hq9, by omega, rd_sn (D1 := w.heap.size) (D2 := w.heap.size) HR9.out (by repeat (first | (with_reducible exact sn_refl _ _ _) | (with_reducible apply sn_plus) | (with_reducible apply sn_patch) | (with_reducible apply sn_drew) | (with_reducible refine sn_right ?_ (by first | exact .inl rfl | exact .inr rfl | omega) _) | (with_reducible refine sn_left ?_ (by first | exact .inl rfl | exact .inr rfl | omega) _) | (with_reducible apply sn_alloc) | (with_reducible refine sn_alloc2 ?_ (by simp <;> omega) _ _))) (fun X hX => ⟨hblk9 X hX, hblk9 X hX⟩), below_more (by repeat (first | exact Below.refl _ _ | refine below_plus ?_ (by first | omega | (simp <;> omega)) _ | refine Below.alloc ?_ (by first | omega | (simp <;> omega)) _ | refine below_patch ?_ (by omega) _ | refine Below.drew ?_))⟩

end Go.Proofs.Ytlihhlihcjncoaa
