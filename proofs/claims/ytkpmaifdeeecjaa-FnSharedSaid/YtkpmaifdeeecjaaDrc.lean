/- Draws: l1Data, l1Wild. -/
import Derived.Test.YtkpmaifdeeecjaaDra
namespace Go.Proofs.Ytkpmaifdeeecjaa
open Go.RowKit
set_option linter.unusedVariables false
set_option linter.unusedSimpArgs false

/-- a draw of a string -/
def RetT (w : World) (B n k : Nat) (e : Ending) (w' : World) : Prop := ∃ s : ByteArray, e = .returned (.string s) ∧ s.size ≤ k ∧ Drn w B n w'

theorem dsrc_pat {w w' : World} {B n : Nat} {cur : Array Value} {x : Ext} (h : Dsrc (plus (patch w B (.cells cur 51)) x) B n) : Dsrc (plus (patch w B (.cells cur 51)) x) B n := h

set_option maxRecDepth 100000 in
set_option maxHeartbeats 4000000 in
theorem l1Data_d (B n k : Nat) (o l m : Int) (w : World) (hd : Dsrc w B n) (hn : n ≤ 900000) (hk : k ≤ 1000) (hs : sv o l m = true) :
    Calls Try.prog 14 #[.pointer (some ⟨B, 0, none⟩), .agg #[.int .i64 o, .int .i64 l, .int .i64 m], .int .i64 k] w (RetT w B (n + 4 + 2 * k) k) := by
  have HD := Lib.hid hd
  have hB := hd.B_lt
  obtain ⟨_, l1, l2, _, _⟩ := sv_iff.1 hs
  obtain ⟨t1, t2⟩ := two_lit l1 l2
  have l0 : 0 ≤ l := by omega
  have l10 : l ≤ 10 := by omega
  clear hd
  obtain ⟨i0, hi, hz0, hz1, hz2⟩ := info_parts infoByte
  have hmk : ∀ W : World, (Instr.makeSlice 22 (.int .i64 0) (.int .i64 (k : Int))).run Try.prog W = .ok (.slice (some ⟨W.heap.size, 0, none⟩) 0 k) (W.alloc (.cells (madeCells (Value.int .u8 0).cells k) 5)) := by
    intro W
    have := run_make (P := Try.prog) (w := W) 22 5 i0 _ Try.underlying22 hi hz0 .i64 .i64 (0 : Int) (k : Int) (by omega) (by omega) (by rw [hz2]; omega) (by omega)
    rw [hz1] at this
    simpa using this
  go_enter Try.func14, Try.ntmps14
  go_wp2_with (go_at_call 28; refine (l1Clear_any _ _ _ l0 l10 _).mono ?_; rintro e w' ⟨rfl, xc, rfl⟩)
  refine (num_d B n _ (by repeat (first | (with_reducible exact HD.out) | (with_reducible apply dsrc_seq) | (with_reducible apply dsrc_draw) | (with_reducible apply Dsrc.plus) | (with_reducible apply Dsrc.alloc) | (with_reducible apply Dsrc.drew))) (by omega) _ _ [2, 3, two l, 1] (by exact rd_lit _ _ _ _ _ (by simp <;> omega) rfl (by simp)) (fun X hX => by cases hX; simp <;> omega) (by simp)).mono ?_
  rintro e w' ⟨pt, rfl, hpt, hdn⟩
  obtain ⟨hd1, cur1, x1, rfl⟩ := hdn
  have HD1 := Lib.hid hd1
  clear hd1
  have hp1 : 1 ≤ pt := by simp at hpt; omega
  clear hpt
  go_wp2_with (go_at_call 28; refine (l1Clear_any _ _ _ l0 l10 _).mono ?_; rintro e w' ⟨rfl, xc, rfl⟩)
  obtain ⟨part, hpart⟩ : ∃ z, min pt (two l) = z := ⟨_, rfl⟩
  rw [hpart]
  have hpa : 1 ≤ part ∧ part ≤ 256 := by omega
  clear hpart
  refine (pick_d B (n + 1) _ _ (by repeat (first | (with_reducible exact HD1.out) | (with_reducible apply dsrc_seq) | (with_reducible apply dsrc_draw) | (with_reducible apply Dsrc.plus) | (with_reducible apply Dsrc.alloc) | (with_reducible apply Dsrc.drew))) (by omega)).mono ?_
  rintro e w' ⟨v1, rfl, hv1, hdn⟩
  obtain ⟨hd2, cur2, x2, rfl⟩ := hdn
  have HD2 := Lib.hid hd2
  clear hd2
  go_wp2_with fail
  refine (pick_d B (n + 2) _ _ (by repeat (first | (with_reducible exact HD2.out) | (with_reducible apply dsrc_seq) | (with_reducible apply dsrc_draw) | (with_reducible apply Dsrc.plus) | (with_reducible apply Dsrc.alloc) | (with_reducible apply Dsrc.drew))) (by omega)).mono ?_
  rintro e w' ⟨md, rfl, hv2, hdn⟩
  obtain ⟨hd3, cur3, x3, rfl⟩ := hdn
  have HD3 := Lib.hid hd3
  clear hd3
  go_wp2_with fail
  refine (pick_d B (n + 3) _ _ (by repeat (first | (with_reducible exact HD3.out) | (with_reducible apply dsrc_seq) | (with_reducible apply dsrc_draw) | (with_reducible apply Dsrc.plus) | (with_reducible apply Dsrc.alloc) | (with_reducible apply Dsrc.drew))) (by omega)).mono ?_
  rintro e w' ⟨v, rfl, hv3, hdn⟩
  obtain ⟨hd4, cur4, x4, rfl⟩ := hdn
  have HD4 := Lib.hid hd4
  clear hd4
  have hvk : v ≤ k := by omega
  have HO0 := Lib.hid (Own.newAt (w := w.alloc (.cells #[.int .i64 o, .int .i64 l, .int .i64 m] 24)) (E := encB) (xs := []) (cap := k) (e := 5) (lo := w.heap.size) (b := w.heap.size + 1) (cur := madeCells #[Value.int .u8 0] k) (by simp) (by simp <;> omega) (by simp [size_madeCells, encB]) (row_of encB (madeCells (Value.int .u8 0).cells k) _ (fun i x h => by simp at h)) (by simp) (by omega))
  go_wp2_with fail
  go_loopw [7, 11] (fun t q wr => ∃ (j : Nat) (ys : List UInt8) (A : Option Addr) (c : Nat), j ≤ v ∧ q = .int .i64 j ∧ t = .slice A ys.length c ∧ ys.length + j = v ∧ Own encB 5 wr A c ys w.heap.size ∧ Dsrc wr B (n + 4 + 2 * ys.length) ∧ Grew (some ⟨B, 0, none⟩) w wr) (fun _ q _ => (intOf q).toNat)
  case atStart =>
    refine ⟨v, [], some ⟨w.heap.size + 1, 0, none⟩, k, Nat.le_refl _, rfl, rfl, by simp, ?_, HD4.out, (by repeat (first | (with_reducible exact grew_refl _ _) | (with_reducible apply grew_plus) | (with_reducible apply grew_alloc) | (with_reducible apply grew_drew) | (with_reducible apply grew_pat)))⟩
    exact own_grew (w' := plus (patch _ B (.cells cur4 51)) x4) HO0.out (by repeat (first | (with_reducible exact grew_refl _ _) | (with_reducible apply grew_plus) | (with_reducible apply grew_alloc) | (with_reducible apply grew_drew) | (with_reducible apply grew_pat))) (fun X hX Y hY e => by cases hX; cases hY; simp at e; omega)
  case round =>
    obtain ⟨j, ys, A, c, hj, rfl, rfl, hys, hown, hd, hg⟩ := hrel
    have HO := Lib.hid hown
    have HDR := Lib.hid hd
    have HG := Lib.hid hg
    have hsz := hg.size
    have hAlo := own_lo hown
    clear hown hd hg
    rcases dec (0 < j) with ⟨hlt, v0⟩ | ⟨hlt, v0⟩
    · go_wp2_with fail
      refine (pick_d B _ _ _ HDR.out (by omega)).mono ?_
      rintro e w' ⟨z, rfl, hz3, hdn⟩
      obtain ⟨hd5, cur5, x5, rfl⟩ := hdn
      have HD5 := Lib.hid hd5
      clear hd5
      have hz5 : z ≤ 255 := by omega
      have hza := Int.emod_nonneg (z : Int) (show part ≠ 0 by omega)
      have hzb := Int.emod_lt_of_pos (z : Int) (show 0 < part by omega)
      have HO6 := Lib.hid (own_grew HO.out (w' := plus (patch wr B (.cells cur5 51)) x5) (by repeat (first | (with_reducible exact grew_refl _ _) | (with_reducible apply grew_plus) | (with_reducible apply grew_alloc) | (with_reducible apply grew_drew) | (with_reducible apply grew_pat))) (fun X hX Y hY e => by cases hY; have h9 := hAlo X hX; have e2 : B = X.block := e; omega))
      have HG6 := Lib.hid (grew_trans HG.out (show Grew (some ⟨B, 0, none⟩) wr (plus (patch wr B (.cells cur5 51)) x5) from (by repeat (first | (with_reducible exact grew_refl _ _) | (with_reducible apply grew_plus) | (with_reducible apply grew_alloc) | (with_reducible apply grew_drew) | (with_reducible apply grew_pat)))))
      rcases (by omega : md = 0 ∨ md = 1 ∨ 1 < md) with hmd | hmd | hmd
      · have q0 : ((md : Int) == 0) = true := by simp; omega
        have q1 : ((md : Int) == 1) = false := by simp; omega
        clear hmd
        rcases dec ((0 : Int) < ys.length) with ⟨hyl, q2⟩ | ⟨hyl, q2⟩
        · obtain ⟨i, hil⟩ : ∃ i, ys.length = i + 1 := ⟨ys.length - 1, by omega⟩
          obtain ⟨y, hy⟩ : ∃ y, ys[i]? = some y := ⟨_, List.getElem?_eq_getElem (by omega)⟩
          have hil1 := Nat.le_of_eq hil
          have hil2 := Nat.le_of_eq hil.symm
          obtain ⟨b, rfl, hb1, hb2, hb3, hb4, hb5⟩ := own_cell HO.out hy
          have cy := hb5 0 _ rfl
          have e1 : i * encB.sz + 0 = i := by show i * 1 + 0 = i; omega
          rw [e1] at cy
          have e2 : ((ys.length : Int) - 1).toNat = i := by omega
          have hbB : B < b := by have := hAlo _ rfl; simp at this; omega
          have hyb := y.toNat_lt
          clear hb4 hb5 hy e1 hil
          go_wp2_with fail
          refine (pick_d B _ _ _ HD5.out (by omega)).mono ?_
          rintro e w' ⟨v6, rfl, hv6, hdn⟩
          obtain ⟨hd6, cur6, x6, rfl⟩ := hdn
          have HD6 := Lib.hid hd6
          clear hd6
          have HO8 := Lib.hid (own_grew HO6.out (w' := plus (patch (plus (patch wr B (.cells cur5 51)) x5) B (.cells cur6 51)) x6) (by repeat (first | (with_reducible exact grew_refl _ _) | (with_reducible apply grew_plus) | (with_reducible apply grew_alloc) | (with_reducible apply grew_drew) | (with_reducible apply grew_pat))) (fun X hX Y hY e => by cases hY; have h9 := hAlo X hX; have e2 : B = X.block := e; omega))
          have HG8 := Lib.hid (grew_trans HG6.out (show Grew (some ⟨B, 0, none⟩) (plus (patch wr B (.cells cur5 51)) x5) (plus (patch (plus (patch wr B (.cells cur5 51)) x5) B (.cells cur6 51)) x6) from (by repeat (first | (with_reducible exact grew_refl _ _) | (with_reducible apply grew_plus) | (with_reducible apply grew_alloc) | (with_reducible apply grew_drew) | (with_reducible apply grew_pat)))))
          clear HG6 HO6
          have HG6 := Lib.hid HG8.out
          rcases dec ((0 : Int) < v6) with ⟨hv7, q3⟩ | ⟨hv7, q3⟩
          · skip
            go_wp2_with (at_builtin; refine wpList_append_at encB _ _ _ _ i0 _ 1 rfl rfl Try.underlying22 hi hz0 hz1 hz2 rfl (by decide) ys _ _ w.heap.size (by repeat (first | (with_reducible exact HO8.out) | (with_reducible apply own_seq) | (with_reducible apply own_draw) | (with_reducible apply Own.plus) | (with_reducible apply Own.alloc) | (with_reducible apply Own.drew) | (with_reducible apply Own.drewN))) rfl [UInt8.ofNat ((y.toNat : Int) : Int).toNat] _ 0 1 (one_cells _ _ (y.toNat : Int) (by omega) (by omega) (by simp <;> omega)) rfl (by first | omega | rfl | (simp <;> omega) | (simp only [List.length_cons, List.length_nil, plus_size, World.size_alloc]; omega)) (by first | omega | rfl | (simp <;> omega) | (simp only [List.length_cons, List.length_nil, plus_size, World.size_alloc]; omega)) (by simp <;> omega) ?_; intro A7 c7 w7 hw7 hg7 hx7; have HO7 := Lib.hid hw7; have HD7 := Lib.hid (Dsrc.grew (Dsrc.alloc HD6.out (.cells #[.int .u8 (y.toNat : Int)] 5)) hg7 (fun X hX => by have := hAlo X hX; omega)); have HG7 := Lib.hid (show Grew (some ⟨B, 0, none⟩) w w7 from ⟨hg7.os.trans HG6.out.os, hg7.tape.trans HG6.out.tape, hg7.output.trans HG6.out.output, by have := hg7.size; have := HG6.out.size; simp at *; omega, fun q hq ha => (hg7.block q (by have := HG6.out.size; simp at *; omega) (fun X hX e => by have := hAlo X hX; omega)).trans ((push_old _ _ (by have := HG6.out.size; simp at *; omega)).trans (HG6.out.block q hq ha))⟩); clear hw7 hg7 hx7)
            go_roundw
            case rel => exact ⟨j - 1, ys ++ [UInt8.ofNat ((y.toNat : Int) : Int).toNat], A7, c7, by omega, int_val (by omega), by simp, by simp; omega, HO7.out, HD7.out.mono (by simp; omega), HG7.out⟩
            case measure => simp [intOf]; omega
          · skip
            go_wp2_with (at_builtin; refine wpList_append_at encB _ _ _ _ i0 _ 1 rfl rfl Try.underlying22 hi hz0 hz1 hz2 rfl (by decide) ys _ _ w.heap.size (by repeat (first | (with_reducible exact HO8.out) | (with_reducible apply own_seq) | (with_reducible apply own_draw) | (with_reducible apply Own.plus) | (with_reducible apply Own.alloc) | (with_reducible apply Own.drew) | (with_reducible apply Own.drewN))) rfl [UInt8.ofNat (((z : Int) % part) : Int).toNat] _ 0 1 (one_cells _ _ ((z : Int) % part) (by omega) (by omega) (by simp <;> omega)) rfl (by first | omega | rfl | (simp <;> omega) | (simp only [List.length_cons, List.length_nil, plus_size, World.size_alloc]; omega)) (by first | omega | rfl | (simp <;> omega) | (simp only [List.length_cons, List.length_nil, plus_size, World.size_alloc]; omega)) (by simp <;> omega) ?_; intro A7 c7 w7 hw7 hg7 hx7; have HO7 := Lib.hid hw7; have HD7 := Lib.hid (Dsrc.grew (Dsrc.alloc HD6.out (.cells #[.int .u8 ((z : Int) % part)] 5)) hg7 (fun X hX => by have := hAlo X hX; omega)); have HG7 := Lib.hid (show Grew (some ⟨B, 0, none⟩) w w7 from ⟨hg7.os.trans HG6.out.os, hg7.tape.trans HG6.out.tape, hg7.output.trans HG6.out.output, by have := hg7.size; have := HG6.out.size; simp at *; omega, fun q hq ha => (hg7.block q (by have := HG6.out.size; simp at *; omega) (fun X hX e => by have := hAlo X hX; omega)).trans ((push_old _ _ (by have := HG6.out.size; simp at *; omega)).trans (HG6.out.block q hq ha))⟩); clear hw7 hg7 hx7)
            go_roundw
            case rel => exact ⟨j - 1, ys ++ [UInt8.ofNat (((z : Int) % part) : Int).toNat], A7, c7, by omega, int_val (by omega), by simp, by simp; omega, HO7.out, HD7.out.mono (by simp; omega), HG7.out⟩
            case measure => simp [intOf]; omega
        · skip
          go_wp2_with (at_builtin; refine wpList_append_at encB _ _ _ _ i0 _ 1 rfl rfl Try.underlying22 hi hz0 hz1 hz2 rfl (by decide) ys _ _ w.heap.size (by repeat (first | (with_reducible exact HO6.out) | (with_reducible apply own_seq) | (with_reducible apply own_draw) | (with_reducible apply Own.plus) | (with_reducible apply Own.alloc) | (with_reducible apply Own.drew) | (with_reducible apply Own.drewN))) rfl [UInt8.ofNat (((z : Int) % part) : Int).toNat] _ 0 1 (one_cells _ _ ((z : Int) % part) (by omega) (by omega) (by simp <;> omega)) rfl (by first | omega | rfl | (simp <;> omega) | (simp only [List.length_cons, List.length_nil, plus_size, World.size_alloc]; omega)) (by first | omega | rfl | (simp <;> omega) | (simp only [List.length_cons, List.length_nil, plus_size, World.size_alloc]; omega)) (by simp <;> omega) ?_; intro A7 c7 w7 hw7 hg7 hx7; have HO7 := Lib.hid hw7; have HD7 := Lib.hid (Dsrc.grew (Dsrc.alloc HD5.out (.cells #[.int .u8 ((z : Int) % part)] 5)) hg7 (fun X hX => by have := hAlo X hX; omega)); have HG7 := Lib.hid (show Grew (some ⟨B, 0, none⟩) w w7 from ⟨hg7.os.trans HG6.out.os, hg7.tape.trans HG6.out.tape, hg7.output.trans HG6.out.output, by have := hg7.size; have := HG6.out.size; simp at *; omega, fun q hq ha => (hg7.block q (by have := HG6.out.size; simp at *; omega) (fun X hX e => by have := hAlo X hX; omega)).trans ((push_old _ _ (by have := HG6.out.size; simp at *; omega)).trans (HG6.out.block q hq ha))⟩); clear hw7 hg7 hx7)
          go_roundw
          case rel => exact ⟨j - 1, ys ++ [UInt8.ofNat (((z : Int) % part) : Int).toNat], A7, c7, by omega, int_val (by omega), by simp, by simp; omega, HO7.out, HD7.out.mono (by simp; omega), HG7.out⟩
          case measure => simp [intOf]; omega
      · have q0 : ((md : Int) == 0) = false := by simp; omega
        have q1 : ((md : Int) == 1) = true := by simp; omega
        clear hmd
        rcases dec ((1 : Int) + v1 ≤ ys.length) with ⟨hyl, q2⟩ | ⟨hyl, q2⟩
        · obtain ⟨i, hil⟩ : ∃ i, ys.length = i + (1 + v1) := ⟨ys.length - (1 + v1), by omega⟩
          obtain ⟨y, hy⟩ : ∃ y, ys[i]? = some y := ⟨_, List.getElem?_eq_getElem (by omega)⟩
          have hil1 := Nat.le_of_eq hil
          have hil2 := Nat.le_of_eq hil.symm
          obtain ⟨b, rfl, hb1, hb2, hb3, hb4, hb5⟩ := own_cell HO.out hy
          have cy := hb5 0 _ rfl
          have e1 : i * encB.sz + 0 = i := by show i * 1 + 0 = i; omega
          rw [e1] at cy
          have e2 : ((ys.length : Int) - (1 + v1)).toNat = i := by omega
          have hbB : B < b := by have := hAlo _ rfl; simp at this; omega
          have hyb := y.toNat_lt
          clear hb4 hb5 hy e1 hil
          go_wp2_with fail
          refine (pick_d B _ _ _ HD5.out (by omega)).mono ?_
          rintro e w' ⟨v6, rfl, hv6, hdn⟩
          obtain ⟨hd6, cur6, x6, rfl⟩ := hdn
          have HD6 := Lib.hid hd6
          clear hd6
          have HO8 := Lib.hid (own_grew HO6.out (w' := plus (patch (plus (patch wr B (.cells cur5 51)) x5) B (.cells cur6 51)) x6) (by repeat (first | (with_reducible exact grew_refl _ _) | (with_reducible apply grew_plus) | (with_reducible apply grew_alloc) | (with_reducible apply grew_drew) | (with_reducible apply grew_pat))) (fun X hX Y hY e => by cases hY; have h9 := hAlo X hX; have e2 : B = X.block := e; omega))
          have HG8 := Lib.hid (grew_trans HG6.out (show Grew (some ⟨B, 0, none⟩) (plus (patch wr B (.cells cur5 51)) x5) (plus (patch (plus (patch wr B (.cells cur5 51)) x5) B (.cells cur6 51)) x6) from (by repeat (first | (with_reducible exact grew_refl _ _) | (with_reducible apply grew_plus) | (with_reducible apply grew_alloc) | (with_reducible apply grew_drew) | (with_reducible apply grew_pat)))))
          clear HG6 HO6
          have HG6 := Lib.hid HG8.out
          rcases dec ((0 : Int) < v6) with ⟨hv7, q3⟩ | ⟨hv7, q3⟩
          · skip
            go_wp2_with (at_builtin; refine wpList_append_at encB _ _ _ _ i0 _ 1 rfl rfl Try.underlying22 hi hz0 hz1 hz2 rfl (by decide) ys _ _ w.heap.size (by repeat (first | (with_reducible exact HO8.out) | (with_reducible apply own_seq) | (with_reducible apply own_draw) | (with_reducible apply Own.plus) | (with_reducible apply Own.alloc) | (with_reducible apply Own.drew) | (with_reducible apply Own.drewN))) rfl [UInt8.ofNat ((y.toNat : Int) : Int).toNat] _ 0 1 (one_cells _ _ (y.toNat : Int) (by omega) (by omega) (by simp <;> omega)) rfl (by first | omega | rfl | (simp <;> omega) | (simp only [List.length_cons, List.length_nil, plus_size, World.size_alloc]; omega)) (by first | omega | rfl | (simp <;> omega) | (simp only [List.length_cons, List.length_nil, plus_size, World.size_alloc]; omega)) (by simp <;> omega) ?_; intro A7 c7 w7 hw7 hg7 hx7; have HO7 := Lib.hid hw7; have HD7 := Lib.hid (Dsrc.grew (Dsrc.alloc HD6.out (.cells #[.int .u8 (y.toNat : Int)] 5)) hg7 (fun X hX => by have := hAlo X hX; omega)); have HG7 := Lib.hid (show Grew (some ⟨B, 0, none⟩) w w7 from ⟨hg7.os.trans HG6.out.os, hg7.tape.trans HG6.out.tape, hg7.output.trans HG6.out.output, by have := hg7.size; have := HG6.out.size; simp at *; omega, fun q hq ha => (hg7.block q (by have := HG6.out.size; simp at *; omega) (fun X hX e => by have := hAlo X hX; omega)).trans ((push_old _ _ (by have := HG6.out.size; simp at *; omega)).trans (HG6.out.block q hq ha))⟩); clear hw7 hg7 hx7)
            go_roundw
            case rel => exact ⟨j - 1, ys ++ [UInt8.ofNat ((y.toNat : Int) : Int).toNat], A7, c7, by omega, int_val (by omega), by simp, by simp; omega, HO7.out, HD7.out.mono (by simp; omega), HG7.out⟩
            case measure => simp [intOf]; omega
          · skip
            go_wp2_with (at_builtin; refine wpList_append_at encB _ _ _ _ i0 _ 1 rfl rfl Try.underlying22 hi hz0 hz1 hz2 rfl (by decide) ys _ _ w.heap.size (by repeat (first | (with_reducible exact HO8.out) | (with_reducible apply own_seq) | (with_reducible apply own_draw) | (with_reducible apply Own.plus) | (with_reducible apply Own.alloc) | (with_reducible apply Own.drew) | (with_reducible apply Own.drewN))) rfl [UInt8.ofNat (((z : Int) % part) : Int).toNat] _ 0 1 (one_cells _ _ ((z : Int) % part) (by omega) (by omega) (by simp <;> omega)) rfl (by first | omega | rfl | (simp <;> omega) | (simp only [List.length_cons, List.length_nil, plus_size, World.size_alloc]; omega)) (by first | omega | rfl | (simp <;> omega) | (simp only [List.length_cons, List.length_nil, plus_size, World.size_alloc]; omega)) (by simp <;> omega) ?_; intro A7 c7 w7 hw7 hg7 hx7; have HO7 := Lib.hid hw7; have HD7 := Lib.hid (Dsrc.grew (Dsrc.alloc HD6.out (.cells #[.int .u8 ((z : Int) % part)] 5)) hg7 (fun X hX => by have := hAlo X hX; omega)); have HG7 := Lib.hid (show Grew (some ⟨B, 0, none⟩) w w7 from ⟨hg7.os.trans HG6.out.os, hg7.tape.trans HG6.out.tape, hg7.output.trans HG6.out.output, by have := hg7.size; have := HG6.out.size; simp at *; omega, fun q hq ha => (hg7.block q (by have := HG6.out.size; simp at *; omega) (fun X hX e => by have := hAlo X hX; omega)).trans ((push_old _ _ (by have := HG6.out.size; simp at *; omega)).trans (HG6.out.block q hq ha))⟩); clear hw7 hg7 hx7)
            go_roundw
            case rel => exact ⟨j - 1, ys ++ [UInt8.ofNat (((z : Int) % part) : Int).toNat], A7, c7, by omega, int_val (by omega), by simp, by simp; omega, HO7.out, HD7.out.mono (by simp; omega), HG7.out⟩
            case measure => simp [intOf]; omega
        · skip
          go_wp2_with (at_builtin; refine wpList_append_at encB _ _ _ _ i0 _ 1 rfl rfl Try.underlying22 hi hz0 hz1 hz2 rfl (by decide) ys _ _ w.heap.size (by repeat (first | (with_reducible exact HO6.out) | (with_reducible apply own_seq) | (with_reducible apply own_draw) | (with_reducible apply Own.plus) | (with_reducible apply Own.alloc) | (with_reducible apply Own.drew) | (with_reducible apply Own.drewN))) rfl [UInt8.ofNat (((z : Int) % part) : Int).toNat] _ 0 1 (one_cells _ _ ((z : Int) % part) (by omega) (by omega) (by simp <;> omega)) rfl (by first | omega | rfl | (simp <;> omega) | (simp only [List.length_cons, List.length_nil, plus_size, World.size_alloc]; omega)) (by first | omega | rfl | (simp <;> omega) | (simp only [List.length_cons, List.length_nil, plus_size, World.size_alloc]; omega)) (by simp <;> omega) ?_; intro A7 c7 w7 hw7 hg7 hx7; have HO7 := Lib.hid hw7; have HD7 := Lib.hid (Dsrc.grew (Dsrc.alloc HD5.out (.cells #[.int .u8 ((z : Int) % part)] 5)) hg7 (fun X hX => by have := hAlo X hX; omega)); have HG7 := Lib.hid (show Grew (some ⟨B, 0, none⟩) w w7 from ⟨hg7.os.trans HG6.out.os, hg7.tape.trans HG6.out.tape, hg7.output.trans HG6.out.output, by have := hg7.size; have := HG6.out.size; simp at *; omega, fun q hq ha => (hg7.block q (by have := HG6.out.size; simp at *; omega) (fun X hX e => by have := hAlo X hX; omega)).trans ((push_old _ _ (by have := HG6.out.size; simp at *; omega)).trans (HG6.out.block q hq ha))⟩); clear hw7 hg7 hx7)
          go_roundw
          case rel => exact ⟨j - 1, ys ++ [UInt8.ofNat (((z : Int) % part) : Int).toNat], A7, c7, by omega, int_val (by omega), by simp, by simp; omega, HO7.out, HD7.out.mono (by simp; omega), HG7.out⟩
          case measure => simp [intOf]; omega
      · have q0 : ((md : Int) == 0) = false := by simp; omega
        have q1 : ((md : Int) == 1) = false := by simp; omega
        go_wp2_with (at_builtin; refine wpList_append_at encB _ _ _ _ i0 _ 1 rfl rfl Try.underlying22 hi hz0 hz1 hz2 rfl (by decide) ys _ _ w.heap.size (by repeat (first | (with_reducible exact HO6.out) | (with_reducible apply own_seq) | (with_reducible apply own_draw) | (with_reducible apply Own.plus) | (with_reducible apply Own.alloc) | (with_reducible apply Own.drew) | (with_reducible apply Own.drewN))) rfl [UInt8.ofNat (((z : Int) % part) : Int).toNat] _ 0 1 (one_cells _ _ ((z : Int) % part) (by omega) (by omega) (by simp <;> omega)) rfl (by first | omega | rfl | (simp <;> omega) | (simp only [List.length_cons, List.length_nil, plus_size, World.size_alloc]; omega)) (by first | omega | rfl | (simp <;> omega) | (simp only [List.length_cons, List.length_nil, plus_size, World.size_alloc]; omega)) (by simp <;> omega) ?_; intro A7 c7 w7 hw7 hg7 hx7; have HO7 := Lib.hid hw7; have HD7 := Lib.hid (Dsrc.grew (Dsrc.alloc HD5.out (.cells #[.int .u8 ((z : Int) % part)] 5)) hg7 (fun X hX => by have := hAlo X hX; omega)); have HG7 := Lib.hid (show Grew (some ⟨B, 0, none⟩) w w7 from ⟨hg7.os.trans HG6.out.os, hg7.tape.trans HG6.out.tape, hg7.output.trans HG6.out.output, by have := hg7.size; have := HG6.out.size; simp at *; omega, fun q hq ha => (hg7.block q (by have := HG6.out.size; simp at *; omega) (fun X hX e => by have := hAlo X hX; omega)).trans ((push_old _ _ (by have := HG6.out.size; simp at *; omega)).trans (HG6.out.block q hq ha))⟩); clear hw7 hg7 hx7)
        go_roundw
        case rel => exact ⟨j - 1, ys ++ [UInt8.ofNat (((z : Int) % part) : Int).toNat], A7, c7, by omega, int_val (by omega), by simp, by simp; omega, HO7.out, HD7.out.mono (by simp; omega), HG7.out⟩
        case measure => simp [intOf]; omega
    · obtain rfl : j = 0 := by omega
      have hcv := run_str_own (P := Try.prog) (W := wr) Try.underlying22 Try.underlying5 Try.underlying9 HO.out
      go_wp2
      go_ret
      exact ⟨bstr ys, rfl, by rw [bstr_size]; omega, drn_of (HDR.out.mono (by omega)) HG.out hB⟩

end Go.Proofs.Ytkpmaifdeeecjaa
