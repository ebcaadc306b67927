/- Draws: DrawFormatReader, DrawParseReader. -/
import Derived.Test.YtmddcbebaijjkaaGreatDoorGw
import Derived.Test.YtmddcbebaijjkaaGreatDoorDpk
import Derived.Test.YtmddcbebaijjkaaGreatDoorGm
namespace Go.Proofs.YtmddcbebaijjkaaGreatDoor
open Go.RowKit
set_option linter.unusedVariables false
set_option linter.unusedSimpArgs false

set_option maxRecDepth 100000 in
set_option maxHeartbeats 4000000 in
theorem DrawFormatReader_any (a : Option Addr) (cap : Nat) (bs : List UInt8) (w : World) (hr : Rd encB w a cap bs) :
    Calls Tryz.prog 17 #[.slice a bs.length cap] w (RetDv w) := by
  go_enter Tryz.func17, Tryz.ntmps17
  go_wp2_with fail
  refine (DrawReaderValid_any a cap bs _ (by repeat (first | exact hr | apply rd_seq | apply Rd.plus | apply Rd.alloc | apply Rd.drew | apply Rd.drewN | refine rd_patch ?_ _ _ (by intro A hA; first | (cases hA; show _ ≠ _; omega) | (have := hal A hA; omega))))).mono ?_
  rintro e w2 ⟨o, l, m, pa, pc, ps, b, last, s, z, c, e1, rfl, hl, hs, hrd, hoff, hx⟩
  have HR := Lib.hid (show Rd encP _ pa pc ps from hrd)
  have hoff2 : ∀ X, pa = some X → w.heap.size < X.block := fun X hX => by have := hoff X hX; simp at this; omega
  have HZ2 := Lib.hid (blk_mo (pushF w (.cells #[.int .i64 0, .int .i64 0, .int .i64 0, .slice none 0 0, .int .i64 0, .int .i64 0, .string ⟨#[]⟩, .int .i64 0, .int .i64 0, .int .i64 0] 28) _ rfl) hx)
  have HB2 := Lib.hid ((show Below w.heap.size w _ from (by repeat (first | exact Below.refl _ _ | refine below_plus ?_ (by first | omega | (simp <;> omega)) _ | refine Below.alloc ?_ (by first | omega | (simp <;> omega)) _ | refine below_patch ?_ (by omega) _ | refine Below.drew ?_))).trans ((more_below hx).mono (by simp)))
  clear hrd hoff hx
  have hw2 : w.heap.size < w2.heap.size := (Array.getElem?_eq_some_iff.1 HZ2.out).1
  have rz := cell_of HZ2.out
  have fz := free_of HZ2.out
  have sz := fun i v => setCell_patch HZ2.out i v
  go_wp2_with fail
  exact bodyPost_ret (v := .agg #[.int .i64 o, .int .i64 l, .int .i64 m, .slice pa ps.length pc, .int .i64 b, .int .i64 last, .string s, .int .i64 z, .int .i64 c, .int .i64 e1]) (by simp [results, Tryz.results17, go_sem, ↓IntWalk.iteOmega]) rfl ⟨o, l, m, pa, pc, ps, b, last, s, z, c, e1, rfl, hl, hs, rd_patch HR.out _ _ (fun X hX => by have := hoff2 X hX; omega), hoff2, below_more (below_patch HB2.out (Nat.le_refl _) _)⟩

/-- a reader's text, whether it is one or not -/
theorem specFormatReader_ex (o l m : Int) (a : Option Addr) (cap : Nat) (ps : List Pr) (base last : Int) (s : ByteArray) (z c e : Int) (hs : s.size ≤ 1000) :
    ∃ T : ByteArray, T.size ≤ 30000 ∧ ∀ (w : World), RdP w a cap ps → Calls Tryz.prog 18 #[.agg #[.int .i64 o, .int .i64 l, .int .i64 m, .slice a ps.length cap, .int .i64 base, .int .i64 last, .string s, .int .i64 z, .int .i64 c, .int .i64 e]] w (Ret w (.string T)) := by
  cases hk : rdb o l m ps base last s z c e
  · exact ⟨⟨#[]⟩, by show 0 ≤ 30000; omega, fun w hr => specFormatReader_no o l m a cap ps base last s z c e w hr (by unfold maxLen; omega) hk⟩
  · exact ⟨_, rdT_size hk hs, fun w hr => specFormatReader_yes o l m a cap ps base last s z c e w hr (by omega) hk⟩

set_option maxRecDepth 100000 in
set_option maxHeartbeats 4000000 in
theorem DrawParseReader_any (a : Option Addr) (cap : Nat) (bs : List UInt8) (w : World) (hr : Rd encB w a cap bs) : Calls Tryz.prog 20 #[.slice a bs.length cap] w (RetTx w) := by
  go_enter Tryz.func20, Tryz.ntmps20
  go_wp2_with fail
  refine (l9Open_any a cap bs _ (by repeat (first | exact hr | apply rd_seq | apply Rd.plus | apply Rd.alloc | apply Rd.drew | apply Rd.drewN | refine rd_patch ?_ _ _ (by intro A hA; first | (cases hA; show _ ≠ _; omega) | (have := hal A hA; omega))))).mono ?_
  rintro e w' ⟨B, rfl, hd, hB, x0, rfl⟩
  have HD := Lib.hid hd
  have hBl := hd.B_lt
  simp at hB hBl
  clear hd
  go_wp2_with fail
  refine (l3Reader_d B 0 _ (by repeat (first | (with_reducible exact HD.out) | (with_reducible apply dsrc_seq) | (with_reducible apply dsrc_draw) | (with_reducible apply Dsrc.plus) | (with_reducible apply Dsrc.alloc) | (with_reducible apply Dsrc.drew))) (by omega)).mono ?_
  rintro e w2 ⟨o, l, m, pa, pc, ps, b, last, s, z, c, e1, u, rfl, hs, hl2, hs1, hu, hrd, hoff, hdn⟩
  have HR := Lib.hid (show Rd encP _ pa pc ps from hrd)
  have HB2 := Lib.hid ((show Below w.heap.size w _ from (by repeat (first | exact Below.refl _ _ | refine below_plus ?_ (by first | omega | (simp <;> omega)) _ | refine Below.alloc ?_ (by first | omega | (simp <;> omega)) _ | refine below_patch ?_ (by omega) _ | refine Below.drew ?_))).trans (hdn.grew.below (B := w.heap.size) (by simp <;> omega) (fun X hX => by cases hX; show w.heap.size ≤ B; omega)))
  have hz2 := HB2.out.size
  have HD2 := Lib.hid hdn.1
  obtain ⟨T, hTs, hF⟩ := specFormatReader_ex o l m pa pc ps b last s z c e1 hs1
  have HF := Lib.hid hF
  clear hrd hdn hoff hF
  go_wp2_with fail
  refine (HF.out _ (by (try unfold RdP); repeat (first | (with_reducible exact HR.out) | (with_reducible apply rd_seq) | (with_reducible apply Rd.plus) | (with_reducible apply Rd.alloc) | (with_reducible apply Rd.drew) | (with_reducible apply Rd.drewN)))).mono ?_
  rintro e w' ⟨rfl, x3, rfl⟩
  go_wp2_with fail
  refine (l3Bent_d B 300 T _ (Dsrc.mono (by repeat (first | (with_reducible exact HD2.out) | (with_reducible apply dsrc_seq) | (with_reducible apply dsrc_draw) | (with_reducible apply Dsrc.plus) | (with_reducible apply Dsrc.alloc) | (with_reducible apply Dsrc.drew))) (by omega)) (by omega) (by omega)).mono ?_
  rintro e w4 ⟨t, rfl, ht, hdn⟩
  have hg := hdn.grew
  have HB4 := Lib.hid ((show Below w.heap.size w _ from (by repeat (first | (with_reducible exact HB2.out) | refine below_plus ?_ (by first | omega | (simp <;> omega)) _ | refine Below.alloc ?_ (by first | omega | (simp <;> omega)) _ | refine below_patch ?_ (by omega) _ | refine Below.drew ?_))).trans (hg.below (B := w.heap.size) (by simp <;> omega) (fun X hX => by cases hX; show w.heap.size ≤ B; omega)))
  clear hdn hg
  go_wp2_with fail
  go_ret
  exact ⟨t, rfl, by omega, below_more HB4.out⟩

end Go.Proofs.YtmddcbebaijjkaaGreatDoor
