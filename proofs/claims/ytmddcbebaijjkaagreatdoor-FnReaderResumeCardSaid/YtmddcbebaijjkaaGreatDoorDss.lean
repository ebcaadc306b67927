/- Draws: DrawReadStream. -/
import Derived.Test.YtmddcbebaijjkaaGreatDoorGw
namespace Go.Proofs.YtmddcbebaijjkaaGreatDoor
open Go.RowKit
set_option linter.unusedVariables false
set_option linter.unusedSimpArgs false

/-- a drawn reader and a stream -/
def RetDx (w : World) (e : Ending) (w' : World) : Prop := ∃ (o l m : Int) (pa : Option Addr) (pc : Nat) (ps : List Pr) (base last : Int) (s : ByteArray) (z c e1 : Int) (u : ByteArray),
  e = .returned (.tuple #[.agg #[.int .i64 o, .int .i64 l, .int .i64 m, .slice pa ps.length pc, .int .i64 base, .int .i64 last, .string s, .int .i64 z, .int .i64 c, .int .i64 e1], .string u]) ∧ ps.length ≤ 3000 ∧ s.size ≤ 1000 ∧ u.size ≤ 5000 ∧ Rd encP w' pa pc ps ∧ (∀ X, pa = some X → w.heap.size < X.block) ∧ ∃ x, w' = plus w x

set_option maxRecDepth 100000 in
set_option maxHeartbeats 4000000 in
theorem DrawReadStream_any (a : Option Addr) (cap : Nat) (bs : List UInt8) (w : World) (hr : Rd encB w a cap bs) :
    Calls Tryz.prog 12 #[.slice a bs.length cap] w (RetDx w) := by
  go_enter Tryz.func12, Tryz.ntmps12
  go_wp2_with fail
  refine (l9Open_any a cap bs _ (by repeat (first | exact hr | apply rd_seq | apply Rd.plus | apply Rd.alloc | apply Rd.drew | apply Rd.drewN | refine rd_patch ?_ _ _ (by intro A hA; first | (cases hA; show _ ≠ _; omega) | (have := hal A hA; omega))))).mono ?_
  rintro e w' ⟨B, rfl, hd, hB, x0, rfl⟩
  have HD := Lib.hid hd
  have hBl := hd.B_lt
  simp at hB hBl
  clear hd
  go_wp2_with fail
  refine (l3Reader_d B 0 _ (by repeat (first | (with_reducible exact HD.out) | (with_reducible apply dsrc_seq) | (with_reducible apply dsrc_draw) | (with_reducible apply Dsrc.plus) | (with_reducible apply Dsrc.alloc) | (with_reducible apply Dsrc.drew))) (by omega)).mono ?_
  rintro e w' ⟨o, l, m, pa, pc, ps, b, last, s, z, c, e1, u, rfl, hs, hl2, hs1, hu, hrd, hoff, hdn⟩
  have HR1 := Lib.hid (show Rd encP _ pa pc ps from hrd)
  simp at hoff
  obtain ⟨hd1, cur1, x1, rfl⟩ := hdn
  have HD1 := Lib.hid hd1
  clear hd1
  clear hrd
  go_wp2_with fail
  refine calls_nm (fun X => KE (.cells #[.int .i64 0, .int .i64 0, .int .i64 0, .slice none 0 0, .int .i64 0, .int .i64 0, .string ⟨#[]⟩, .int .i64 0, .int .i64 0, .int .i64 0] 28 (0, 0)) (.cells #[.int .i64 o, .int .i64 l, .int .i64 m, .slice pa ps.length pc, .int .i64 b, .int .i64 last, .string s, .int .i64 z, .int .i64 c, .int .i64 e1] 28 (0, 0)) w X (w.heap.size + 1 + x0.n + x1.n) B 300 pa pc ps) ⟨?_, ?_, (by (try unfold RdP); repeat (first | (with_reducible exact HR1.out) | (with_reducible apply rd_seq) | (with_reducible apply Rd.plus) | (with_reducible apply Rd.alloc) | (with_reducible apply Rd.drew) | (with_reducible apply Rd.drewN))), fun Y hY => by have := hoff Y hY; omega, fun Y hY => by have := hoff Y hY; simp at this ⊢; omega, (by repeat (first | (with_reducible exact HD1.out) | (with_reducible apply dsrc_seq) | (with_reducible apply dsrc_draw) | (with_reducible apply Dsrc.plus) | (with_reducible apply Dsrc.alloc) | (with_reducible apply Dsrc.drew))), (by repeat (first | exact Below.refl _ _ | refine below_plus ?_ (by first | omega | (simp <;> omega)) _ | refine Below.alloc ?_ (by first | omega | (simp <;> omega)) _ | refine below_patch ?_ (by omega) _ | refine Below.drew ?_)), by omega⟩ ?_
  · exact (by repeat (first | (with_reducible exact push_new _ _ _ rfl) | (with_reducible exact push_new _ _ _ (by simp)) | (with_reducible apply blk_plus) | (with_reducible apply blk_alloc) | (with_reducible apply blk_drew) | (with_reducible refine blk_patch ?_ (by omega))))
  · exact push_new _ _ _ (by simp <;> omega)
  generalize w.heap.size + 1 + x0.n + x1.n = D
  intro X hX
  have HX := Lib.hid hX
  have rX := cell_of hX.blk
  have zX := hX.lt
  have lX := hX.low
  obtain ⟨zXa, zXb⟩ := zX
  clear hX HR1 HD1 HD hoff
  refine (pick_d B 300 _ _ HX.out.src (by omega)).mono ?_
  rintro e w7 ⟨v7, rfl, hv7, hdn⟩
  have H7 := Lib.hid (HX.out.draw hdn)
  clear hdn rX zXa zXb HX
  have r7 := cell_of H7.out.blk
  have z7 := H7.out.lt
  obtain ⟨z7a, z7b⟩ := z7
  rcases (by omega : v7 = 0 ∨ 0 < v7) with hv9 | hv9
  · have q7 : ((v7 : Int) == 0) = true := by simp; omega
    clear hv9 hv7
    go_wp2_with fail
    refine (num_d B _ _ (by repeat (first | (with_reducible exact H7.out.src) | (with_reducible apply dsrc_seq) | (with_reducible apply dsrc_draw) | (with_reducible apply Dsrc.plus) | (with_reducible apply Dsrc.alloc) | (with_reducible apply Dsrc.drew))) (by omega) _ _ [4000, 4001] (by first | exact rd_lit _ _ _ _ _ (by simp <;> omega) rfl (by decide) | exact Rd.alloc (rd_lit _ _ _ _ _ (by simp <;> omega) rfl (by decide)) _) (fun X hX => by cases hX; have := H7.out.low; simp <;> omega) (by decide)).mono ?_
    rintro e w8 ⟨y, rfl, hy, hdn⟩
    have hy2 : y = 4000 ∨ y = 4001 := by simpa using hy
    obtain ⟨y, rfl⟩ : ∃ k : Nat, y = k := ⟨y.toNat, by omega⟩
    have H8 := Lib.hid ((H7.out.more (by repeat (first | exact More.refl _ | apply More.plus | apply More.alloc | apply More.drew | apply More.drewN))).draw hdn)
    clear hdn hy r7 z7a z7b
    have r8 := cell_of H8.out.blk
    have z8 := H8.out.lt
    obtain ⟨z8a, z8b⟩ := z8
    go_wp2_with fail
    refine (l9Many_d _ y _ (by decide) (by omega)).mono ?_
    rintro e w' ⟨r, rfl, hr, x3, rfl⟩
    have hr2 : r.size ≤ 4001 := by
      have h1 : (⟨#[120]⟩ : ByteArray).size = 1 := rfl
      rw [h1] at hr
      omega
    go_wp2_with fail
    refine calls_nm (fun Y => KE (.cells #[.int .i64 0, .int .i64 0, .int .i64 0, .slice none 0 0, .int .i64 0, .int .i64 0, .string ⟨#[]⟩, .int .i64 0, .int .i64 0, .int .i64 0] 28 (0, 0)) (.cells #[.int .i64 o, .int .i64 l, .int .i64 m, .slice pa ps.length pc, .int .i64 b, .int .i64 last, .string s, .int .i64 z, .int .i64 c, .int .i64 e1] 28 (0, 0)) w Y D B 400 pa pc ps) ((H8.out.more (by repeat (first | exact More.refl _ | (with_reducible apply more_seq) | (with_reducible apply more_draw) | apply More.plus | apply More.alloc | apply More.drew))).mono (by omega)) ?_
    intro Y hY
    have HY := Lib.hid hY
    clear hY
    refine (l3BadReader_d B _ o l m pa pc ps b last s z c e1 _ HY.out.src (by omega) hs HY.out.rd (fun X hX => (HY.out.off X hX).1) (by omega) (by omega) HY.out.fit).mono ?_
    rintro e w9 ⟨o2, l2', m2, pa9, pc9, qs, base9, last9, s9', z9', c9', e9', rfl, hq9, hsz9, hrd9, hoff9, hdn⟩
    have H9 := Lib.hid (HY.out.draw hdn)
    have HR9 := Lib.hid (show Rd encP _ pa9 pc9 qs from hrd9)
    have hz9 := HY.out.lt.1
    have hblk9 : ∀ X, pa9 = some X → w.heap.size < X.block := fun X hX => by
      rcases hoff9 X hX with h | h
      · exact (HY.out.off X h).2
      · omega
    clear hrd9 hoff9 hdn
    have r9 := cell_of H9.out.res
    have f9 := free_of H9.out.res
    have s9 := fun i v => setCell_patch H9.out.res i v
    have z9 := H9.out.lt.1
    go_wp2_with fail
    exact bodyPost_ret (v := .tuple #[.agg #[.int .i64 o2, .int .i64 l2', .int .i64 m2, .slice pa9 qs.length pc9, .int .i64 base9, .int .i64 last9, .string s9', .int .i64 z9', .int .i64 c9', .int .i64 e9'], .string r]) (by simp [results, Tryz.results12, go_sem, ↓IntWalk.iteOmega]) rfl ⟨o2, l2', m2, pa9, pc9, qs, base9, last9, s9', z9', c9', e9', r, rfl, hq9, hsz9, by omega, rd_patch HR9.out _ _ (fun X hX => by have := hblk9 X hX; omega), hblk9, below_more (below_patch H9.out.bel (Nat.le_refl _) _)⟩
  · have q7 : ((v7 : Int) == 0) = false := by simp; omega
    clear hv9 hv7
    go_wp2_with fail
    refine calls_nm (fun Y => KE (.cells #[.int .i64 0, .int .i64 0, .int .i64 0, .slice none 0 0, .int .i64 0, .int .i64 0, .string ⟨#[]⟩, .int .i64 0, .int .i64 0, .int .i64 0] 28 (0, 0)) (.cells #[.int .i64 o, .int .i64 l, .int .i64 m, .slice pa ps.length pc, .int .i64 b, .int .i64 last, .string s, .int .i64 z, .int .i64 c, .int .i64 e1] 28 (0, 0)) w Y D B 400 pa pc ps) ((H7.out.more (by repeat (first | exact More.refl _ | (with_reducible apply more_seq) | (with_reducible apply more_draw) | apply More.plus | apply More.alloc | apply More.drew))).mono (by omega)) ?_
    intro Y hY
    have HY := Lib.hid hY
    clear hY
    refine (l3BadReader_d B _ o l m pa pc ps b last s z c e1 _ HY.out.src (by omega) hs HY.out.rd (fun X hX => (HY.out.off X hX).1) (by omega) (by omega) HY.out.fit).mono ?_
    rintro e w9 ⟨o2, l2', m2, pa9, pc9, qs, base9, last9, s9', z9', c9', e9', rfl, hq9, hsz9, hrd9, hoff9, hdn⟩
    have H9 := Lib.hid (HY.out.draw hdn)
    have HR9 := Lib.hid (show Rd encP _ pa9 pc9 qs from hrd9)
    have hz9 := HY.out.lt.1
    have hblk9 : ∀ X, pa9 = some X → w.heap.size < X.block := fun X hX => by
      rcases hoff9 X hX with h | h
      · exact (HY.out.off X h).2
      · omega
    clear hrd9 hoff9 hdn
    have r9 := cell_of H9.out.res
    have f9 := free_of H9.out.res
    have s9 := fun i v => setCell_patch H9.out.res i v
    have z9 := H9.out.lt.1
    go_wp2_with fail
    exact bodyPost_ret (v := .tuple #[.agg #[.int .i64 o2, .int .i64 l2', .int .i64 m2, .slice pa9 qs.length pc9, .int .i64 base9, .int .i64 last9, .string s9', .int .i64 z9', .int .i64 c9', .int .i64 e9'], .string u]) (by simp [results, Tryz.results12, go_sem, ↓IntWalk.iteOmega]) rfl ⟨o2, l2', m2, pa9, pc9, qs, base9, last9, s9', z9', c9', e9', u, rfl, hq9, hsz9, by omega, rd_patch HR9.out _ _ (fun X hX => by have := hblk9 X hX; omega), hblk9, below_more (below_patch H9.out.bel (Nat.le_refl _) _)⟩

end Go.Proofs.YtmddcbebaijjkaaGreatDoor
