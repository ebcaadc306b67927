/- The law of KnownWords walked: valid, with pairs. -/
import Derived.Test.YtbedikodiboofaaL4w
import Derived.Test.YtbedikodiboofaaHst
import Derived.Test.YtbedikodiboofaaNwr
import Derived.Test.YtbedikodiboofaaLex
import Derived.Test.YtbedikodiboofaaFin
import Derived.Test.YtbedikodiboofaaMks
namespace Go.Proofs.Ytbedikodiboofaa
open Go.RowKit
set_option linter.unusedVariables false
set_option linter.unusedSimpArgs false

set_option maxRecDepth 100000 in
set_option maxHeartbeats 4000000 in
theorem lawKw_yes_pos (o l m : Int) (a : Option Addr) (cap : Nat) (ps : List Pr) (base last : Int) (w : World) (hr : RdP w a cap ps) (hn : ps.length ≤ 1048576) (hk : kvb o l m ps base last = true) (hpos : 0 < ps.length) :
    Calls Try.prog 5 #[.agg #[.int .i64 o, .int .i64 l, .int .i64 m, .slice a ps.length cap, .int .i64 base, .int .i64 last]] w fun e w' => e = .returned (.bool true) ∧ Below w.heap.size w w' := by
  have hal := rd_lt hr
  have hn2 : (ps).length ≤ 2000000 := by omega
  have q1 : decide ((1048576 : Int) - (ps.length : Int) < 0) = false := by simp; omega
  have c1 : (ps.length : Int) ≤ 1048576 := by omega
  have hwl := wordsL_len l ps
  obtain ⟨ws, hws⟩ : ∃ ws, wordsL l ps = ws := ⟨_, rfl⟩
  rw [hws] at hwl
  have HWS := Lib.hid hws
  have hwp : 0 < ws.length := by omega
  have hw2 : ws.length ≤ 1048576 := by omega
  clear hws hwl
  go_enter Try.func5, Try.ntmps5
  go_wp2_with fail
  refine (szKnown_yes _ _ _ _ _ ps.length _ _ _ _ c1 (by omega)).mono ?_
  rintro e w' ⟨rfl, x1, rfl⟩
  go_wp2_with fail
  refine (toKnown_any _ _ _ _ _ ps _ _ _ (by repeat (first | exact hr | apply rd_seq | apply Rd.plus | apply Rd.alloc | apply Rd.drew | apply Rd.drewN | refine rd_patch1 ?_ _ _ (by omega) | refine rd_patch2 ?_ _ _ hal (by omega))) hn2).mono ?_
  rintro e w' ⟨aA, cA, rfl, hA, xA, rfl⟩
  try simp only [plus_plus] at hA
  have HA := Lib.hid hA
  have HAr := Lib.hid hA.rd
  clear hA
  go_wp2_with fail
  refine (specKnownWords_yes _ _ _ _ _ ps _ _ _ (by repeat (first | exact HAr.out | apply rd_seq | apply Rd.plus | apply Rd.alloc | apply Rd.drew | apply Rd.drewN | refine rd_patch1 ?_ _ _ (by omega) | refine rd_patch2 ?_ _ _ hal (by omega))) hk).mono ?_
  rintro e w' ⟨aW, cW, rfl, hW, xW, rfl⟩
  rw [HWS.out] at hW ⊢
  try simp only [plus_plus] at hW
  have HW := Lib.hid hW
  have HWr := Lib.hid hW.rd
  clear hW
  go_wp2_with fail
  refine (toKnown_any _ _ _ _ _ ps _ _ _ (by repeat (first | exact hr | apply rd_seq | apply Rd.plus | apply Rd.alloc | apply Rd.drew | apply Rd.drewN | refine rd_patch1 ?_ _ _ (by omega) | refine rd_patch2 ?_ _ _ hal (by omega))) hn2).mono ?_
  rintro e w' ⟨aX, cX, rfl, hX, xX, rfl⟩
  try simp only [plus_plus] at hX
  have HX := Lib.hid hX
  have HXr := Lib.hid hX.rd
  clear hX
  go_wp2_with fail
  refine (implKnownWords_yes _ _ _ _ _ ps _ _ _ (by repeat (first | exact HXr.out | apply rd_seq | apply Rd.plus | apply Rd.alloc | apply Rd.drew | apply Rd.drewN | refine rd_patch1 ?_ _ _ (by omega) | refine rd_patch2 ?_ _ _ hal (by omega))) hk).mono ?_
  rintro e w' ⟨aG, cG, rfl, hG, xG, rfl⟩
  rw [HWS.out] at hG ⊢
  try simp only [plus_plus] at hG
  have HG := Lib.hid hG
  have HGr := Lib.hid hG.rd
  clear hG
  go_wp2_with fail
  refine (eqStringS_yes _ _ _ _ ws _ (by repeat (first | exact HGr.out | apply rd_seq | apply Rd.plus | apply Rd.alloc | apply Rd.drew | apply Rd.drewN | refine rd_patch1 ?_ _ _ (by omega) | refine rd_patch2 ?_ _ _ hal (by omega))) (by repeat (first | exact HWr.out | apply rd_seq | apply Rd.plus | apply Rd.alloc | apply Rd.drew | apply Rd.drewN | refine rd_patch1 ?_ _ _ (by omega) | refine rd_patch2 ?_ _ _ hal (by omega))) (by omega)).mono ?_
  rintro e w' ⟨rfl, xE, rfl⟩
  go_wp2_with fail
  refine wp_region_lex [true, true, false, false, false] (by kernel_rfl) (by kernel_rfl) ?_
  refine wpLex_load (.agg #[.int .i64 o, .int .i64 l, .int .i64 m, .slice aX ps.length cX, .int .i64 base, .int .i64 last]) rfl ?_ ?_
  · rintro w' ⟨x, rfl⟩
    simp [go_sem, ↓IntWalk.iteOmega]
  refine wpLex_load (.agg #[.int .i64 o, .int .i64 l, .int .i64 m, .slice a ps.length cap, .int .i64 base, .int .i64 last]) rfl ?_ ?_
  · rintro w' ⟨x, rfl⟩
    simp [go_sem, ↓IntWalk.iteOmega]
  refine wpLex_one rfl rfl (fun K hK => ?_)
  go_simp
  refine (toKnown_any _ _ _ _ _ ps _ _ _ (by repeat (first | exact hr | apply rd_seq | apply Rd.plus | apply Rd.alloc | apply Rd.drew | apply Rd.drewN | refine rd_patch1 ?_ _ _ (by omega) | refine rd_patch2 ?_ _ _ hal (by omega))) hn2).mono ?_
  rintro e w' ⟨aY, cY, rfl, hY, xY, rfl⟩
  try simp only [plus_plus] at hY
  have HY := Lib.hid hY
  have HYr := Lib.hid hY.rd
  clear hY
  refine hK _ _ ⟨xY, by simp only [plus_plus]; rfl⟩ ?_
  clear hK K
  refine wpLex_one rfl rfl (fun K hK => ?_)
  go_simp
  refine (eqKnown_any _ _ _ _ _ ps _ _ _ _ _ _ _ ps _ _ _ (by repeat (first | exact HXr.out | apply rd_seq | apply Rd.plus | apply Rd.alloc | apply Rd.drew | apply Rd.drewN | refine rd_patch1 ?_ _ _ (by omega) | refine rd_patch2 ?_ _ _ hal (by omega))) (by repeat (first | exact HYr.out | apply rd_seq | apply Rd.plus | apply Rd.alloc | apply Rd.drew | apply Rd.drewN | refine rd_patch1 ?_ _ _ (by omega) | refine rd_patch2 ?_ _ _ hal (by omega)))).mono ?_
  rintro e w' ⟨rfl, xF, rfl⟩
  refine hK _ _ ⟨xY.seq xF, by simp only [plus_plus, ← Ext.seq_seq]; rfl⟩ ?_
  clear hK K
  refine wpLex_one rfl rfl (fun K hK => ?_)
  go_simp
  refine hK _ _ ⟨xY.seq xF, by simp only [plus_plus, ← Ext.seq_seq]; rfl⟩ ?_
  clear hK K
  refine NoPanic.normal ?_
  have zG : xG.n ≤ ((((xG.seq xE).draw 1).seq xY).seq xF).n := by simp only [seq_n, draw_n]; omega
  have zW : ((x1.seq xA).seq xW).n ≤ (((x1.seq xA).seq xW).seq xX).n := by simp only [seq_n, draw_n]; omega
  obtain ⟨bX, uX, rfl, oX1, oX2, oX3, oX4, oX5, oX6, oX7⟩ := own_some HX.out hpos
  simp at oX1 oX2
  have JX := Lib.hid oX3
  clear oX3 HX
  obtain ⟨bG, uG, rfl, oG1, oG2, oG3, oG4, oG5, oG6, oG7⟩ := own_some HG.out hwp
  simp at oG1 oG2
  have JG := Lib.hid oG3
  clear oG3 HG
  obtain ⟨bW, uW, rfl, oW1, oW2, oW3, oW4, oW5, oW6, oW7⟩ := own_some HW.out hwp
  simp at oW1 oW2
  have JW := Lib.hid oW3
  clear oW3 HW
  go_wp2_with fail
  refine (markKnown_some _ _ _ bX cX ps.length _ _ uX 1 _ (by repeat (first | (with_reducible exact JX.out) | (with_reducible apply blk_seq) | (with_reducible apply blk_draw) | (with_reducible apply blk_plus) | (with_reducible apply blk_alloc) | (with_reducible apply blk_drew) | (with_reducible refine blk_patch ?_ (by omega)) | exact JX.out)) oX4 oX6 hn2 (by omega) (by omega)).mono ?_
  rintro e w' ⟨rfl, cM, xM, rfl, hM1, hM2⟩
  have e1 : decide ((1 : Int) + 2 * (ps.length : Int) < 0) = false := by simp; omega
  go_wp2_with fail
  refine (eqStringS_yes _ _ _ _ ws _ (by repeat (first | exact HGr.out | apply rd_seq | apply Rd.plus | apply Rd.alloc | apply Rd.drew | apply Rd.drewN | refine rd_patch1 ?_ _ _ (by omega) | refine rd_patch2 ?_ _ _ hal (by omega))) (by repeat (first | exact HWr.out | apply rd_seq | apply Rd.plus | apply Rd.alloc | apply Rd.drew | apply Rd.drewN | refine rd_patch1 ?_ _ _ (by omega) | refine rd_patch2 ?_ _ _ hal (by omega))) (by omega)).mono ?_
  rintro e w' ⟨rfl, xE2, rfl⟩
  go_wp2_with fail
  refine (markStringS_some bG cG ws.length uG 1 _ (by repeat (first | (with_reducible exact JG.out) | (with_reducible apply blk_seq) | (with_reducible apply blk_draw) | (with_reducible apply blk_plus) | (with_reducible apply blk_alloc) | (with_reducible apply blk_drew) | (with_reducible refine blk_patch ?_ (by omega)) | exact JG.out)) (by rw [oG4]; exact Nat.mul_one _) oG6 (by omega) (by omega) (by omega)).mono ?_
  rintro e w' ⟨rfl, cN, xN, hw9, hN1, hN2⟩
  have HNR := Lib.hid (show RdS w' (some ⟨bG, 0, none⟩) cG (smarks 1 ws.length) by rw [hw9]; exact Rd.plus (rd_patched (by simp <;> omega) hN2 (by rw [smarks_len]; omega) oG7) _)
  subst hw9
  go_wp2_with fail
  refine (heldStringS_yes _ _ ws.length 1 _ (by repeat (first | exact HNR.out | apply rd_seq | apply Rd.plus | apply Rd.alloc | apply Rd.drew | apply Rd.drewN | refine rd_patch1 ?_ _ _ (by omega) | refine rd_patch2 ?_ _ _ hal (by omega))) (by omega) (by omega) (by omega)).mono ?_
  rintro e w' ⟨rfl, xH, rfl⟩
  have e2 : (((1 + ws.length : Nat) : Int) != 1 + (ws.length : Int)) = false := by simp
  have e3 : decide (((1 + ws.length : Nat) : Int) < 0) = false := by simp; omega
  go_wp2_with fail
  refine (toKnown_any _ _ _ _ _ ps _ _ _ (by repeat (first | exact hr | apply rd_seq | apply Rd.plus | apply Rd.alloc | apply Rd.drew | apply Rd.drewN | refine rd_patch1 ?_ _ _ (by omega) | refine rd_patch2 ?_ _ _ hal (by omega))) hn2).mono ?_
  rintro e w' ⟨aZ, cZ, rfl, hZ, xZ, rfl⟩
  try simp only [plus_plus] at hZ
  have HZ := Lib.hid hZ
  have HZr := Lib.hid hZ.rd
  clear hZ
  go_wp2_with fail
  refine (implKnownWords_yes _ _ _ _ _ ps _ _ _ (by repeat (first | exact HZr.out | apply rd_seq | apply Rd.plus | apply Rd.alloc | apply Rd.drew | apply Rd.drewN | refine rd_patch1 ?_ _ _ (by omega) | refine rd_patch2 ?_ _ _ hal (by omega))) hk).mono ?_
  rintro e w' ⟨aV, cV, rfl, hV, xV, rfl⟩
  rw [HWS.out] at hV ⊢
  try simp only [plus_plus] at hV
  have HV := Lib.hid hV
  have HVr := Lib.hid hV.rd
  clear hV
  go_wp2_with fail
  refine (eqStringS_yes _ _ _ _ ws _ (by repeat (first | exact HVr.out | apply rd_seq | apply Rd.plus | apply Rd.alloc | apply Rd.drew | apply Rd.drewN | refine rd_patch1 ?_ _ _ (by omega) | refine rd_patch2 ?_ _ _ hal (by omega))) (by repeat (first | exact HWr.out | apply rd_seq | apply Rd.plus | apply Rd.alloc | apply Rd.drew | apply Rd.drewN | refine rd_patch1 ?_ _ _ (by omega) | refine rd_patch2 ?_ _ _ hal (by omega))) (by omega)).mono ?_
  rintro e w' ⟨rfl, xE3, rfl⟩
  trace_state
  go_wp2_with fail
  refine (heldStringS_yes _ _ ws.length 1 _ (by repeat (first | exact HNR.out | apply rd_seq | apply Rd.plus | apply Rd.alloc | apply Rd.drew | apply Rd.drewN | refine rd_patch1 ?_ _ _ (by omega) | refine rd_patch2 ?_ _ _ hal (by omega))) (by omega) (by omega) (by omega)).mono ?_
  rintro e w' ⟨rfl, xH2, rfl⟩
  go_wp2_with fail
  go_ret
  exact ⟨rfl, (by repeat (first | exact Below.refl _ _ | refine below_plus ?_ (by first | omega | (simp <;> omega)) _ | refine Below.alloc ?_ (by first | omega | (simp <;> omega)) _ | refine below_patch ?_ (by omega) _ | refine Below.drew ?_))⟩

end Go.Proofs.Ytbedikodiboofaa
