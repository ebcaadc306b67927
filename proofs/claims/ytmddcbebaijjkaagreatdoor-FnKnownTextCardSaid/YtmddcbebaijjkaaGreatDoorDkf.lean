/- Draws: l2Open, DrawFormatKnown. -/
import Derived.Test.YtmddcbebaijjkaaGreatDoorDri
import Derived.Test.YtmddcbebaijjkaaGreatDoorGl
namespace Go.Proofs.YtmddcbebaijjkaaGreatDoor
open Go.RowKit
set_option linter.unusedVariables false
set_option linter.unusedSimpArgs false

/-- a draw of what may be known, behind a source -/
def RetKo (w : World) (B n : Nat) (e : Ending) (w' : World) : Prop := ∃ (o l m : Int) (pa : Option Addr) (pc : Nat) (ps : List Pr) (base last : Int),
  e = .returned (.agg #[.int .i64 o, .int .i64 l, .int .i64 m, .slice pa ps.length pc, .int .i64 base, .int .i64 last]) ∧ ps.length ≤ 3000 ∧ Rd encP w' pa pc ps ∧ (∀ X, pa = some X → w.heap.size < X.block) ∧ Drn w B n w'

set_option maxRecDepth 100000 in
set_option maxHeartbeats 4000000 in
theorem l2Open_d (B n : Nat) (w : World) (hd : Dsrc w B n) (hn : n ≤ 600000) : Calls Tryz.prog 60 #[.pointer (some ⟨B, 0, none⟩)] w (RetKo w B (n + 63)) := by
  have hB := hd.B_lt
  have HD := Lib.hid hd
  clear hd
  go_enter Tryz.func60, Tryz.ntmps60
  go_wp2_with fail
  refine (l2Draw_d B n _ (by repeat (first | (with_reducible exact HD.out) | (with_reducible apply dsrc_seq) | (with_reducible apply dsrc_draw) | (with_reducible apply Dsrc.plus) | (with_reducible apply Dsrc.alloc) | (with_reducible apply Dsrc.drew))) (by omega)).mono ?_
  rintro e w1 ⟨o, l, m, pa, pc, ps, b, last, rfl, hkv, hl14, hrd, hoff, hdn⟩
  have hs := hkv.s
  simp at hoff
  have HR1 := Lib.hid (show Rd encP _ pa pc ps from hrd)
  have HZ1 := Lib.hid (blk_grew hdn.grew (pushF w _ _ rfl) (fun X hX e => by cases hX; simp at e; omega))
  have HG1 := Lib.hid (grew_trans (show Grew (some ⟨B, 0, none⟩) w _ from (by repeat (first | (with_reducible exact grew_refl _ _) | (with_reducible apply grew_plus) | (with_reducible apply grew_alloc) | (with_reducible apply grew_drew) | (with_reducible apply grew_pat)))) hdn.grew)
  have HS1 := Lib.hid hdn.1
  clear hkv hrd hdn
  go_wp2_with fail
  refine (l2Bad_d B (n + 60) o l m pa pc ps b last w1 HS1.out (by omega) hs HR1.out (fun X hX e => by have := hoff X hX; omega) (by omega)).mono ?_
  rintro e w2 ⟨o2, l2', m2, pa9, pc9, qs, base9, last9, rfl, hq9, hrd9, hoff9, hdn⟩
  have hw1 : w.heap.size < w1.heap.size := (Array.getElem?_eq_some_iff.1 HZ1.out).1
  have hblk9 : ∀ X, pa9 = some X → w.heap.size < X.block := fun X hX => by
    rcases hoff9 X hX with h | h
    · have := hoff X h; omega
    · omega
  have HR2 := Lib.hid (show Rd encP _ pa9 pc9 qs from hrd9)
  have HZ2 := Lib.hid (blk_grew hdn.grew HZ1.out (fun X hX e => by cases hX; simp at e; omega))
  have HG2 := Lib.hid (grew_trans HG1.out hdn.grew)
  have HS2 := Lib.hid hdn.1
  clear hrd9 hoff9 hdn
  have hw2 : w.heap.size < w2.heap.size := (Array.getElem?_eq_some_iff.1 HZ2.out).1
  have rz := cell_of HZ2.out
  have fz := free_of HZ2.out
  have sz := fun i v => setCell_patch HZ2.out i v
  go_wp2_with fail
  exact bodyPost_ret (v := .agg #[.int .i64 o2, .int .i64 l2', .int .i64 m2, .slice pa9 qs.length pc9, .int .i64 base9, .int .i64 last9]) (by simp [results, Tryz.results60, go_sem, ↓IntWalk.iteOmega]) rfl ⟨o2, l2', m2, pa9, pc9, qs, base9, last9, rfl, hq9, rd_patch HR2.out _ _ (fun X hX => by have := hblk9 X hX; omega), hblk9, drn_of (HS2.out.of_block (fun k hk _ => patch_other _ _ _ (by omega)) (by simp)) (grew_hi HG2.out (Nat.le_refl _) _) hB⟩

/-- a draw of what may be known -/
def RetKf (w : World) (e : Ending) (w' : World) : Prop := ∃ (o l m : Int) (pa : Option Addr) (pc : Nat) (ps : List Pr) (base last : Int),
  e = .returned (.agg #[.int .i64 o, .int .i64 l, .int .i64 m, .slice pa ps.length pc, .int .i64 base, .int .i64 last]) ∧ ps.length ≤ 3000 ∧ Rd encP w' pa pc ps ∧ More w w'

set_option maxRecDepth 100000 in
set_option maxHeartbeats 4000000 in
theorem DrawFormatKnown_any (a : Option Addr) (cap : Nat) (bs : List UInt8) (w : World) (hr : Rd encB w a cap bs) : Calls Tryz.prog 21 #[.slice a bs.length cap] w (RetKf w) := by
  go_enter Tryz.func21, Tryz.ntmps21
  go_wp2_with fail
  refine (l9Open_any a cap bs _ (by repeat (first | exact hr | apply rd_seq | apply Rd.plus | apply Rd.alloc | apply Rd.drew | apply Rd.drewN | refine rd_patch ?_ _ _ (by intro A hA; first | (cases hA; show _ ≠ _; omega) | (have := hal A hA; omega))))).mono ?_
  rintro e w' ⟨B, rfl, hd, hB, x0, rfl⟩
  have HD := Lib.hid hd
  have hBl := hd.B_lt
  simp at hB hBl
  have HZ0 := Lib.hid (plusF (pushF w (.cells #[.int .i64 0, .int .i64 0, .int .i64 0, .slice none 0 0, .int .i64 0, .int .i64 0] 26) _ rfl) x0)
  clear hd
  go_wp2_with fail
  refine (l2Open_d B 0 _ (by repeat (first | (with_reducible exact HD.out) | (with_reducible apply dsrc_seq) | (with_reducible apply dsrc_draw) | (with_reducible apply Dsrc.plus) | (with_reducible apply Dsrc.alloc) | (with_reducible apply Dsrc.drew))) (by omega)).mono ?_
  rintro e w2 ⟨o2, l2', m2, pa9, pc9, qs, base9, last9, rfl, hq9, hrd9, hblk, hdn⟩
  have HR2 := Lib.hid hrd9
  have HZ2 := Lib.hid (blk_grew hdn.grew HZ0.out (fun X hX e => by cases hX; simp at e; omega))
  have HB2 := Lib.hid ((show Below w.heap.size w _ from (by repeat (first | exact Below.refl _ _ | refine below_plus ?_ (by first | omega | (simp <;> omega)) _ | refine Below.alloc ?_ (by first | omega | (simp <;> omega)) _ | refine below_patch ?_ (by omega) _ | refine Below.drew ?_))).trans (hdn.grew.below (B := w.heap.size) (by simp; omega) (fun X hX => by cases hX; show w.heap.size ≤ B; omega)))
  simp at hblk
  clear hrd9 hdn
  have hw2 : w.heap.size < w2.heap.size := (Array.getElem?_eq_some_iff.1 HZ2.out).1
  have rz := cell_of HZ2.out
  have fz := free_of HZ2.out
  have sz := fun i v => setCell_patch HZ2.out i v
  go_wp2_with fail
  exact bodyPost_ret (v := .agg #[.int .i64 o2, .int .i64 l2', .int .i64 m2, .slice pa9 qs.length pc9, .int .i64 base9, .int .i64 last9]) (by simp [results, Tryz.results21, go_sem, ↓IntWalk.iteOmega]) rfl ⟨o2, l2', m2, pa9, pc9, qs, base9, last9, rfl, hq9, rd_patch HR2.out _ _ (fun X hX => by have := hblk X hX; omega), below_more (below_patch HB2.out (Nat.le_refl _) _)⟩

end Go.Proofs.YtmddcbebaijjkaaGreatDoor
