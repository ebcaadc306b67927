/- The law of KnownWords walked: valid, without pairs. -/
import Derived.Test.YtbedikodiboofaaL4w
import Derived.Test.YtbedikodiboofaaHst
import Derived.Test.YtbedikodiboofaaNwr
import Derived.Test.YtbedikodiboofaaLex
import Derived.Test.YtbedikodiboofaaFin
import Derived.Test.YtbedikodiboofaaMks
namespace Go.Proofs.Ytbedikodiboofaa
open Go.RowKit
set_option linter.unusedVariables false
set_option linter.unusedSimpArgs false

set_option maxRecDepth 100000 in
set_option maxHeartbeats 4000000 in
theorem lawKw_yes_nil (o l m : Int) (a : Option Addr) (cap : Nat) (base last : Int) (w : World) (hr : RdP w a cap []) (hk : kvb o l m [] base last = true) :
    Calls Try.prog 5 #[.agg #[.int .i64 o, .int .i64 l, .int .i64 m, .slice a 0 cap, .int .i64 base, .int .i64 last]] w fun e w' => e = .returned (.bool true) ∧ Below w.heap.size w w' := by
  have hal := rd_lt hr
  have hn2 : (([] : List Pr)).length ≤ 2000000 := by simp
  go_enter Try.func5, Try.ntmps5
  go_wp2_with fail
  refine (szKnown_yes _ _ _ _ _ 0 _ _ _ _ (by decide) (by omega)).mono ?_
  rintro e w' ⟨rfl, x1, rfl⟩
  go_wp2_with fail
  refine (toKnown_any _ _ _ _ _ ([] : List Pr) _ _ _ (by repeat (first | exact hr | apply rd_seq | apply Rd.plus | apply Rd.alloc | apply Rd.drew | apply Rd.drewN | refine rd_patch1 ?_ _ _ (by omega) | refine rd_patch2 ?_ _ _ hal (by omega))) hn2).mono ?_
  rintro e w' ⟨aA, cA, rfl, hA, xA, rfl⟩
  try simp only [plus_plus] at hA
  have HA := Lib.hid hA
  have HAr := Lib.hid hA.rd
  clear hA
  go_wp2_with fail
  refine (specKnownWords_yes _ _ _ _ _ ([] : List Pr) _ _ _ (by repeat (first | exact HAr.out | apply rd_seq | apply Rd.plus | apply Rd.alloc | apply Rd.drew | apply Rd.drewN | refine rd_patch1 ?_ _ _ (by omega) | refine rd_patch2 ?_ _ _ hal (by omega))) hk).mono ?_
  rintro e w' ⟨aW, cW, rfl, hW, xW, rfl⟩
  rw [show wordsL l ([] : List Pr) = [] from rfl] at hW ⊢
  try simp only [plus_plus] at hW
  have HW := Lib.hid hW
  have HWr := Lib.hid hW.rd
  clear hW
  go_wp2_with fail
  refine (toKnown_any _ _ _ _ _ ([] : List Pr) _ _ _ (by repeat (first | exact hr | apply rd_seq | apply Rd.plus | apply Rd.alloc | apply Rd.drew | apply Rd.drewN | refine rd_patch1 ?_ _ _ (by omega) | refine rd_patch2 ?_ _ _ hal (by omega))) hn2).mono ?_
  rintro e w' ⟨aX, cX, rfl, hX, xX, rfl⟩
  try simp only [plus_plus] at hX
  have HX := Lib.hid hX
  have HXr := Lib.hid hX.rd
  clear hX
  go_wp2_with fail
  refine (implKnownWords_yes _ _ _ _ _ ([] : List Pr) _ _ _ (by repeat (first | exact HXr.out | apply rd_seq | apply Rd.plus | apply Rd.alloc | apply Rd.drew | apply Rd.drewN | refine rd_patch1 ?_ _ _ (by omega) | refine rd_patch2 ?_ _ _ hal (by omega))) hk).mono ?_
  rintro e w' ⟨aG, cG, rfl, hG, xG, rfl⟩
  rw [show wordsL l ([] : List Pr) = [] from rfl] at hG ⊢
  try simp only [plus_plus] at hG
  have HG := Lib.hid hG
  have HGr := Lib.hid hG.rd
  clear hG
  go_wp2_with fail
  refine (eqStringS_yes _ _ _ _ ([] : List ByteArray) _ (by repeat (first | exact HGr.out | apply rd_seq | apply Rd.plus | apply Rd.alloc | apply Rd.drew | apply Rd.drewN | refine rd_patch1 ?_ _ _ (by omega) | refine rd_patch2 ?_ _ _ hal (by omega))) (by repeat (first | exact HWr.out | apply rd_seq | apply Rd.plus | apply Rd.alloc | apply Rd.drew | apply Rd.drewN | refine rd_patch1 ?_ _ _ (by omega) | refine rd_patch2 ?_ _ _ hal (by omega))) (by simp)).mono ?_
  rintro e w' ⟨rfl, xE, rfl⟩
  go_wp2_with fail
  refine wp_region_lex [true, true, false, false, false] (by kernel_rfl) (by kernel_rfl) ?_
  refine wpLex_load (.agg #[.int .i64 o, .int .i64 l, .int .i64 m, .slice aX 0 cX, .int .i64 base, .int .i64 last]) rfl ?_ ?_
  · rintro w' ⟨x, rfl⟩
    simp [go_sem, ↓IntWalk.iteOmega]
  refine wpLex_load (.agg #[.int .i64 o, .int .i64 l, .int .i64 m, .slice a 0 cap, .int .i64 base, .int .i64 last]) rfl ?_ ?_
  · rintro w' ⟨x, rfl⟩
    simp [go_sem, ↓IntWalk.iteOmega]
  refine wpLex_one rfl rfl (fun K hK => ?_)
  go_simp
  refine (toKnown_any _ _ _ _ _ ([] : List Pr) _ _ _ (by repeat (first | exact hr | apply rd_seq | apply Rd.plus | apply Rd.alloc | apply Rd.drew | apply Rd.drewN | refine rd_patch1 ?_ _ _ (by omega) | refine rd_patch2 ?_ _ _ hal (by omega))) hn2).mono ?_
  rintro e w' ⟨aY, cY, rfl, hY, xY, rfl⟩
  try simp only [plus_plus] at hY
  have HY := Lib.hid hY
  have HYr := Lib.hid hY.rd
  clear hY
  refine hK _ _ ⟨xY, by simp only [plus_plus]; rfl⟩ ?_
  clear hK K
  refine wpLex_one rfl rfl (fun K hK => ?_)
  go_simp
  refine (eqKnown_any _ _ _ _ _ ([] : List Pr) _ _ _ _ _ _ _ ([] : List Pr) _ _ _ (by repeat (first | exact HXr.out | apply rd_seq | apply Rd.plus | apply Rd.alloc | apply Rd.drew | apply Rd.drewN | refine rd_patch1 ?_ _ _ (by omega) | refine rd_patch2 ?_ _ _ hal (by omega))) (by repeat (first | exact HYr.out | apply rd_seq | apply Rd.plus | apply Rd.alloc | apply Rd.drew | apply Rd.drewN | refine rd_patch1 ?_ _ _ (by omega) | refine rd_patch2 ?_ _ _ hal (by omega)))).mono ?_
  rintro e w' ⟨rfl, xF, rfl⟩
  refine hK _ _ ⟨xY.seq xF, by simp only [plus_plus, ← Ext.seq_seq]; rfl⟩ ?_
  clear hK K
  refine wpLex_one rfl rfl (fun K hK => ?_)
  go_simp
  refine hK _ _ ⟨xY.seq xF, by simp only [plus_plus, ← Ext.seq_seq]; rfl⟩ ?_
  clear hK K
  refine NoPanic.normal ?_
  go_wp2_with fail
  refine (markKnown_nil _ _ _ _ _ _ _ 1 _).mono ?_
  rintro e w' ⟨rfl, xM, rfl⟩
  go_wp2_with fail
  refine (eqStringS_yes _ _ _ _ ([] : List ByteArray) _ (by repeat (first | exact HGr.out | apply rd_seq | apply Rd.plus | apply Rd.alloc | apply Rd.drew | apply Rd.drewN | refine rd_patch1 ?_ _ _ (by omega) | refine rd_patch2 ?_ _ _ hal (by omega))) (by repeat (first | exact HWr.out | apply rd_seq | apply Rd.plus | apply Rd.alloc | apply Rd.drew | apply Rd.drewN | refine rd_patch1 ?_ _ _ (by omega) | refine rd_patch2 ?_ _ _ hal (by omega))) (by simp)).mono ?_
  rintro e w' ⟨rfl, xE2, rfl⟩
  go_wp2_with fail
  refine (markStringS_nil _ _ 1 _).mono ?_
  rintro e w' ⟨rfl, xN, rfl⟩
  go_wp2_with fail
  refine (heldStringS_yes _ _ 0 1 _ (by repeat (first | exact HGr.out | apply rd_seq | apply Rd.plus | apply Rd.alloc | apply Rd.drew | apply Rd.drewN | refine rd_patch1 ?_ _ _ (by omega) | refine rd_patch2 ?_ _ _ hal (by omega))) (by omega) (by omega) (by omega)).mono ?_
  rintro e w' ⟨rfl, xH, rfl⟩
  go_wp2_with fail
  refine (toKnown_any _ _ _ _ _ ([] : List Pr) _ _ _ (by repeat (first | exact hr | apply rd_seq | apply Rd.plus | apply Rd.alloc | apply Rd.drew | apply Rd.drewN | refine rd_patch1 ?_ _ _ (by omega) | refine rd_patch2 ?_ _ _ hal (by omega))) hn2).mono ?_
  rintro e w' ⟨aZ, cZ, rfl, hZ, xZ, rfl⟩
  try simp only [plus_plus] at hZ
  have HZ := Lib.hid hZ
  have HZr := Lib.hid hZ.rd
  clear hZ
  go_wp2_with fail
  refine (implKnownWords_yes _ _ _ _ _ ([] : List Pr) _ _ _ (by repeat (first | exact HZr.out | apply rd_seq | apply Rd.plus | apply Rd.alloc | apply Rd.drew | apply Rd.drewN | refine rd_patch1 ?_ _ _ (by omega) | refine rd_patch2 ?_ _ _ hal (by omega))) hk).mono ?_
  rintro e w' ⟨aV, cV, rfl, hV, xV, rfl⟩
  rw [show wordsL l ([] : List Pr) = [] from rfl] at hV ⊢
  try simp only [plus_plus] at hV
  have HV := Lib.hid hV
  have HVr := Lib.hid hV.rd
  clear hV
  go_wp2_with fail
  refine (eqStringS_yes _ _ _ _ ([] : List ByteArray) _ (by repeat (first | exact HVr.out | apply rd_seq | apply Rd.plus | apply Rd.alloc | apply Rd.drew | apply Rd.drewN | refine rd_patch1 ?_ _ _ (by omega) | refine rd_patch2 ?_ _ _ hal (by omega))) (by repeat (first | exact HWr.out | apply rd_seq | apply Rd.plus | apply Rd.alloc | apply Rd.drew | apply Rd.drewN | refine rd_patch1 ?_ _ _ (by omega) | refine rd_patch2 ?_ _ _ hal (by omega))) (by simp)).mono ?_
  rintro e w' ⟨rfl, xE3, rfl⟩
  go_wp2_with fail
  refine (heldStringS_yes _ _ 0 1 _ (by repeat (first | exact HGr.out | apply rd_seq | apply Rd.plus | apply Rd.alloc | apply Rd.drew | apply Rd.drewN | refine rd_patch1 ?_ _ _ (by omega) | refine rd_patch2 ?_ _ _ hal (by omega))) (by omega) (by omega) (by omega)).mono ?_
  rintro e w' ⟨rfl, xH2, rfl⟩
  go_wp2_with fail
  go_ret
  exact ⟨rfl, (by repeat (first | exact Below.refl _ _ | refine below_plus ?_ (by first | omega | (simp <;> omega)) _ | refine Below.alloc ?_ (by first | omega | (simp <;> omega)) _ | refine below_patch ?_ (by omega) _ | refine Below.drew ?_))⟩

end Go.Proofs.Ytbedikodiboofaa
