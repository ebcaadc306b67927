/- Draws: the walks of l9Open, l1Bytes. -/
import Derived.Test.YtibfkfinghcpaaaDrw
import Derived.Test.YtibfkfinghcpaaaBtk
namespace Go.Proofs.Ytibfkfinghcpaaa
open Go.RowKit
set_option linter.unusedVariables false
set_option linter.unusedSimpArgs false

/-- a new source of draws -/
def RetSrc (w : World) (e : Ending) (w' : World) : Prop := ∃ B : Nat, e = .returned (.pointer (some ⟨B, 0, none⟩)) ∧ Dsrc w' B 0 ∧ w.heap.size ≤ B ∧ ∃ x, w' = plus w x

theorem rd_lt0 {α : Type} {E : Enc α} {w : World} {a : Option Addr} {cap : Nat} {xs : List α} (h : Rd E w a cap xs) : cap = 0 ∨ ∀ X, a = some X → X.block < w.heap.size := by
  obtain ⟨h1, h2, h3⟩ := h
  rcases h3 with h3 | ⟨b, off, rfl, hb, hc⟩
  · exact .inl h3
  · exact .inr fun X hX => by cases hX; exact hb

set_option maxHeartbeats 1000000 in
theorem l9Open_any (a : Option Addr) (cap : Nat) (bs : List UInt8) (w : World) (hr : Rd encB w a cap bs) :
    Calls Try.prog 51 #[.slice a bs.length cap] w (RetSrc w) := by
  have hl := hr.1
  have hc := hr.2.1
  have h0 := rd_lt0 hr
  rcases dec (2000 < bs.length) with ⟨hm, v1⟩ | ⟨hm, v1⟩
  · have ht := rd_take hr 2000
    have hlt : (bs.take 2000).length = 2000 := by rw [List.length_take]; omega
    go_enter Try.func51, Try.ntmps51
    go_wp2
    go_ret
    refine ⟨w.heap.size, rfl, ⟨a, cap, bs.take 2000, 0, ?_, ht.alloc _, h0, by omega, Nat.le_refl _⟩, Nat.le_refl _, (by repeat (first | exact More.refl _ | apply More.plus | apply More.alloc | apply More.drew | apply More.drewN))⟩
    rw [hlt]
    exact push_new _ _ _ rfl
  · go_enter Try.func51, Try.ntmps51
    go_wp2
    go_ret
    exact ⟨w.heap.size, rfl, ⟨a, cap, bs, 0, push_new _ _ _ rfl, hr.alloc _, h0, by omega, Nat.le_refl _⟩, Nat.le_refl _, (by repeat (first | exact More.refl _ | apply More.plus | apply More.alloc | apply More.drew | apply More.drewN))⟩

theorem push_old (w : World) (o : Obj) {n : Nat} (h : n < w.heap.size) : (w.alloc o).heap[n]? = w.heap[n]? := by rw [push_at, if_pos h]

/-- a draw of a string -/
def RetDs (w : World) (B n k : Nat) (e : Ending) (w' : World) : Prop := ∃ s : ByteArray, e = .returned (.string s) ∧ s.size ≤ k ∧ Dsrc w' B n ∧ Grew (some ⟨B, 0, none⟩) w w'

set_option maxRecDepth 100000 in
set_option maxHeartbeats 2000000 in
theorem l1Bytes_any (B n k : Nat) (w : World) (hd : Dsrc w B n) (hn : n ≤ 900000) (hk : k ≤ 1000) :
    Calls Try.prog 57 #[.pointer (some ⟨B, 0, none⟩), .int .i64 k] w (RetDs w B (n + 1 + k) k) := by
  have HD := Lib.hid hd
  have hB := hd.B_lt
  clear hd
  obtain ⟨i0, hi, hz0, hz1, hz2⟩ := info_parts infoByte
  have hmk : ∀ W : World, (Instr.makeSlice 22 (.int .i64 0) (.int .i64 (k : Int))).run Try.prog W = .ok (.slice (some ⟨W.heap.size, 0, none⟩) 0 k) (W.alloc (.cells (madeCells (Value.int .u8 0).cells k) 5)) := by
    intro W
    have := run_make (P := Try.prog) (w := W) 22 5 i0 _ Try.underlying22 hi hz0 .i64 .i64 (0 : Int) (k : Int) (by omega) (by omega) (by rw [hz2]; omega) (by omega)
    rw [hz1] at this
    simpa using this
  go_enter Try.func57, Try.ntmps57
  go_wp2_with (go_at_call 56; refine (pick_any B n _ _ (HD.out.alloc _) (by omega)).mono ?_; rintro e w5 ⟨v, rfl, hv0, hv1, hd5, hg5⟩)
  obtain ⟨v, rfl⟩ : ∃ v' : Nat, v = v' := ⟨v.toNat, by omega⟩
  have HO0 := Lib.hid (own_grew (Own.newAt (w := w) (E := encB) (xs := []) (cap := k) (e := 5) (lo := w.heap.size) rfl (Nat.le_refl _) (by simp [size_madeCells, encB]) (row_of encB (madeCells (Value.int .u8 0).cells k) _ (fun i x h => by simp at h)) (by simp) (by omega)) hg5 (fun X hX Y hY e => by cases hX; cases hY; simp at e; omega))
  have HD5 := Lib.hid hd5
  have HG5 := Lib.hid (grew_trans (grew_alloc (grew_refl _ _) _) hg5)
  have hsz5 := HG5.out.size
  clear hd5 hg5
  go_loopw [5, 6] (fun t q wr => ∃ (j : Nat) (ys : List UInt8) (A : Option Addr) (c : Nat), j ≤ v ∧ q = .int .i64 j ∧ t = .slice A ys.length c ∧ ys.length + j = v ∧ Own encB 5 wr A c ys w.heap.size ∧ Dsrc wr B (n + 1 + ys.length) ∧ Grew (some ⟨B, 0, none⟩) w wr) (fun _ q _ => (intOf q).toNat)
  case atStart => exact ⟨v, [], _, k, Nat.le_refl _, rfl, rfl, by simp, HO0.out, HD5.out, HG5.out⟩
  case round =>
    obtain ⟨j, ys, A, c, hj, rfl, rfl, hys, hown, hd, hg⟩ := hrel
    have HO := Lib.hid hown
    have HDR := Lib.hid hd
    have HG := Lib.hid hg
    have hsz := hg.size
    have hAlo := own_lo hown
    clear hown hd hg
    rcases dec (0 < j) with ⟨hlt, v1⟩ | ⟨hlt, v1⟩
    · go_wp2_with fail
      refine (pick_any B _ _ _ HDR.out (by omega)).mono ?_
      rintro e w6 ⟨z, rfl, hz3, hz4, hd6, hg6⟩
      have hz5 : z ≤ 255 := by omega
      have HO6 := Lib.hid (own_grew HO.out hg6 (fun X hX Y hY e => by
        cases hY
        have h9 := hAlo X hX
        have e2 : B = X.block := e
        omega))
      have HD6 := Lib.hid hd6
      have HG6 := Lib.hid (grew_trans HG.out hg6)
      have z6 := hg6.size
      clear hd6 hg6
      go_wp2_with (at_builtin; refine wpList_append_at encB _ _ _ _ i0 _ 1 rfl rfl Try.underlying22 hi hz0 hz1 hz2 rfl (by decide) ys A c w.heap.size (by repeat (first | (with_reducible exact HO6.out) | (with_reducible apply own_seq) | (with_reducible apply own_draw) | (with_reducible apply Own.plus) | (with_reducible apply Own.alloc) | (with_reducible apply Own.drew) | (with_reducible apply Own.drewN))) rfl [UInt8.ofNat z.toNat] _ 0 1 (one_cells _ _ z hz3 hz5 (by simp)) rfl (by first | omega | rfl | (simp <;> omega) | (simp only [List.length_cons, List.length_nil, plus_size, World.size_alloc]; omega)) (by first | omega | rfl | (simp <;> omega) | (simp only [List.length_cons, List.length_nil, plus_size, World.size_alloc]; omega)) (by simp <;> omega) ?_; intro A7 c7 w7 hw7 hg7 hx7; have HO7 := Lib.hid hw7; have HD7 := Lib.hid (Dsrc.grew (HD6.out.alloc (.cells #[.int .u8 z] 5)) hg7 (fun X hX => by have := hAlo X hX; omega)); have HG7 := Lib.hid (show Grew (some ⟨B, 0, none⟩) w w7 from ⟨hg7.os.trans HG6.out.os, hg7.tape.trans HG6.out.tape, hg7.output.trans HG6.out.output, by have := hg7.size; simp at this; omega, fun q hq ha => (hg7.block q (by simp; omega) (fun X hX e => by have := hAlo X hX; omega)).trans ((push_old _ _ (by omega)).trans (HG6.out.block q hq ha))⟩); clear hw7 hg7 hx7)
      go_roundw
      case rel => exact ⟨j - 1, ys ++ [UInt8.ofNat z.toNat], A7, c7, by omega, int_val (by omega), by simp, by simp; omega, HO7.out, HD7.out.mono (by simp; omega), HG7.out⟩
      case measure => simp [intOf]; omega
    · obtain rfl : j = 0 := by omega
      have hcv := run_str_own (P := Try.prog) (W := wr) Try.underlying22 Try.underlying5 Try.underlying9 HO.out
      go_wp2
      go_ret
      exact ⟨bstr ys, rfl, by rw [bstr_size]; omega, HDR.out.mono (by omega), HG.out⟩

end Go.Proofs.Ytibfkfinghcpaaa
