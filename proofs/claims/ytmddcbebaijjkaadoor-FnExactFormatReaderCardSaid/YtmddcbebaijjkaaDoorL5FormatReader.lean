/- The law of FormatReader walked. -/
import Derived.Test.YtmddcbebaijjkaaDoorRng
import Derived.Test.YtmddcbebaijjkaaDoorGa
import Derived.Test.YtmddcbebaijjkaaDoorGr
import Derived.Test.YtmddcbebaijjkaaDoorFki
namespace Go.Proofs.YtmddcbebaijjkaaDoor
open Go.RowKit
set_option linter.unusedVariables false
set_option linter.unusedSimpArgs false

set_option maxRecDepth 100000 in
set_option maxHeartbeats 8000000 in
theorem lawFormatReader_fit (o l m : Int) (a : Option Addr) (cap : Nat) (ps : List Pr) (base last : Int) (sb : ByteArray) (z c e : Int) (w : World) (r1 : ByteArray) (hr : RdP w a cap ps) (hn : (ps.length : Int) + sb.size ≤ 1048576) (htb : Tb w) (hS : ∀ (W : World) (a : Option Addr) (cap : Nat), RdP W a cap ps → Calls Tryd.prog 16 #[.agg #[.int .i64 o, .int .i64 l, .int .i64 m, .slice a ps.length cap, .int .i64 base, .int .i64 last, .string sb, .int .i64 z, .int .i64 c, .int .i64 e]] W (Ret W (.string r1))) (hI : ∀ (W : World) (a : Option Addr) (cap : Nat), RdP W a cap ps → Tb W → Calls Tryd.prog 18 #[.agg #[.int .i64 o, .int .i64 l, .int .i64 m, .slice a ps.length cap, .int .i64 base, .int .i64 last, .string sb, .int .i64 z, .int .i64 c, .int .i64 e]] W (Ret W (.string r1))) :
    Calls Tryd.prog 5 #[.agg #[.int .i64 o, .int .i64 l, .int .i64 m, .slice a ps.length cap, .int .i64 base, .int .i64 last, .string sb, .int .i64 z, .int .i64 c, .int .i64 e]] w fun E w' => E = .returned (.bool true) ∧ Below w.heap.size w w' := by
  have HS := Lib.hid hS
  have HTB := Lib.hid htb
  have HI := Lib.hid hI
  clear hS hI htb
  have hal := rd_lt hr
  have hn2 : ps.length ≤ 2000000 := by omega
  have q1 : decide ((1048576 : Int) - (ps.length : Int) - (sb.size : Int) < 0) = false := by simp; omega
  have c1 : (ps.length : Int) + sb.size ≤ 1048576 := by omega
  have e1 : (r1.toList != r1.toList) = false := by simp
  go_enter Tryd.func5, Tryd.ntmps5
  go_wp2_with fail
  refine (szReader_yes _ _ _ _ _ _ _ _ _ _ _ _ _ _ c1 (by omega)).mono ?_
  rintro E w' ⟨rfl, x1, rfl⟩
  go_wp2_with fail
  refine (toReader_any _ _ _ _ _ ps _ _ _ _ _ _ _ (by repeat (first | exact hr | apply rd_seq | apply Rd.plus | apply Rd.alloc | apply Rd.drew | apply Rd.drewN | refine rd_patch1 ?_ _ _ (by omega) | refine rd_patch2 ?_ _ _ hal (by omega))) hn2).mono ?_
  rintro E w' ⟨aA, cA, rfl, hA, xA, rfl⟩
  try simp only [plus_plus] at hA
  have HA := Lib.hid hA
  have HAr := Lib.hid hA.rd
  obtain ⟨loA, hiA, loAe, hiAe, spA⟩ := own_span hA
  simp only [plus_size, seq_sz, drw_sz, World.size_alloc] at loAe hiAe
  clear hA
  go_wp2_with fail
  refine (HS.out _ _ _ (by repeat (first | exact HAr.out | apply rd_seq | apply Rd.plus | apply Rd.alloc | apply Rd.drew | apply Rd.drewN | refine rd_patch1 ?_ _ _ (by omega) | refine rd_patch2 ?_ _ _ hal (by omega)))).mono ?_
  rintro E w' ⟨rfl, xW, rfl⟩
  go_wp2_with fail
  refine (toReader_any _ _ _ _ _ ps _ _ _ _ _ _ _ (by repeat (first | exact hr | apply rd_seq | apply Rd.plus | apply Rd.alloc | apply Rd.drew | apply Rd.drewN | refine rd_patch1 ?_ _ _ (by omega) | refine rd_patch2 ?_ _ _ hal (by omega))) hn2).mono ?_
  rintro E w' ⟨aX, cX, rfl, hX, xX, rfl⟩
  try simp only [plus_plus] at hX
  have HX := Lib.hid hX
  have HXr := Lib.hid hX.rd
  obtain ⟨loX, hiX, loXe, hiXe, spX⟩ := own_span hX
  simp only [plus_size, seq_sz, drw_sz, World.size_alloc] at loXe hiXe
  clear hX
  go_wp2_with fail
  refine (HI.out _ _ _ (by repeat (first | exact HXr.out | apply rd_seq | apply Rd.plus | apply Rd.alloc | apply Rd.drew | apply Rd.drewN | refine rd_patch1 ?_ _ _ (by omega) | refine rd_patch2 ?_ _ _ hal (by omega))) (by repeat (first | (with_reducible exact HTB.out) | (with_reducible apply tbq_seq) | (with_reducible apply Tb.plus) | (with_reducible apply Tb.alloc) | (with_reducible apply Tb.drew)))).mono ?_
  rintro E w' ⟨rfl, xG, rfl⟩
  go_wp2_with fail
  refine wp_region_lex [true, true, false, false, false] (by kernel_rfl) (by kernel_rfl) ?_
  refine wpLex_load (.agg #[.int .i64 o, .int .i64 l, .int .i64 m, .slice aX ps.length cX, .int .i64 base, .int .i64 last, .string sb, .int .i64 z, .int .i64 c, .int .i64 e]) rfl ?_ ?_
  · rintro w' ⟨x, rfl⟩
    simp [go_sem, ↓IntWalk.iteOmega]
  refine wpLex_load (.agg #[.int .i64 o, .int .i64 l, .int .i64 m, .slice a ps.length cap, .int .i64 base, .int .i64 last, .string sb, .int .i64 z, .int .i64 c, .int .i64 e]) rfl ?_ ?_
  · rintro w' ⟨x, rfl⟩
    simp [go_sem, ↓IntWalk.iteOmega]
  refine wpLex_one rfl rfl (fun K hK => ?_)
  go_simp
  refine (toReader_any _ _ _ _ _ ps _ _ _ _ _ _ _ (by repeat (first | exact hr | apply rd_seq | apply Rd.plus | apply Rd.alloc | apply Rd.drew | apply Rd.drewN | refine rd_patch1 ?_ _ _ (by omega) | refine rd_patch2 ?_ _ _ hal (by omega))) hn2).mono ?_
  rintro E w' ⟨aY, cY, rfl, hY, xY, rfl⟩
  try simp only [plus_plus] at hY
  have HYr := Lib.hid hY.rd
  clear hY
  refine hK _ _ ⟨xY, by simp only [plus_plus]; rfl⟩ ?_
  clear hK K
  refine wpLex_one rfl rfl (fun K hK => ?_)
  go_simp
  refine (eqReader_yes _ _ _ _ _ ps _ _ _ _ _ _ _ _ _ (by repeat (first | exact HXr.out | apply rd_seq | apply Rd.plus | apply Rd.alloc | apply Rd.drew | apply Rd.drewN | refine rd_patch1 ?_ _ _ (by omega) | refine rd_patch2 ?_ _ _ hal (by omega))) (by repeat (first | exact HYr.out | apply rd_seq | apply Rd.plus | apply Rd.alloc | apply Rd.drew | apply Rd.drewN | refine rd_patch1 ?_ _ _ (by omega) | refine rd_patch2 ?_ _ _ hal (by omega)))).mono ?_
  rintro E w' ⟨rfl, xF, rfl⟩
  refine hK _ _ ⟨xY.seq xF, by simp only [plus_plus, ← Ext.seq_seq]; rfl⟩ ?_
  clear hK K
  refine wpLex_one rfl rfl (fun K hK => ?_)
  go_simp
  refine hK _ _ ⟨xY.seq xF, by simp only [plus_plus, ← Ext.seq_seq]; rfl⟩ ?_
  clear hK K
  refine NoPanic.normal ?_
  go_wp2_with fail
  go_ret
  exact ⟨rfl, (by repeat (first | exact Below.refl _ _ | refine below_plus ?_ (by first | omega | (simp <;> omega)) _ | refine Below.alloc ?_ (by first | omega | (simp <;> omega)) _ | refine below_patch ?_ (by omega) _ | refine Below.drew ?_))⟩

theorem lawFormatReader_big (o l m : Int) (a : Option Addr) (cap : Nat) (ps : List Pr) (base last : Int) (sb : ByteArray) (z c e : Int) (w : World) (hr : RdP w a cap ps) (hb : 1048576 < (ps.length : Int) + sb.size) (hsz : sb.size ≤ maxLen) :
    Calls Tryd.prog 5 #[.agg #[.int .i64 o, .int .i64 l, .int .i64 m, .slice a ps.length cap, .int .i64 base, .int .i64 last, .string sb, .int .i64 z, .int .i64 c, .int .i64 e]] w fun E w' => E = .returned (.bool true) ∧ Below w.heap.size w w' := by
  have h1 := hr.1
  have h2 := hr.2.1
  have c1 : (1048576 : Int) < (ps.length : Int) + sb.size := by omega
  unfold maxLen at hsz
  go_enter Tryd.func5, Tryd.ntmps5
  go_wp2_with (go_at_call 15; refine (szReader_no _ _ _ _ _ _ _ _ _ _ _ _ _ _ c1 (by omega) (by omega) (by omega) (by omega)).mono ?_; rintro e w' ⟨rfl, xc, rfl⟩)
  go_ret
  exact ⟨rfl, (by repeat (first | exact Below.refl _ _ | refine below_plus ?_ (by first | omega | (simp <;> omega)) _ | refine Below.alloc ?_ (by first | omega | (simp <;> omega)) _ | refine below_patch ?_ (by omega) _ | refine Below.drew ?_))⟩

theorem lawFormatReader_sizes (o l m : Int) (a : Option Addr) (cap : Nat) (ps : List Pr) (base last : Int) (sb : ByteArray) (z c e : Int) (w : World) (r1 : ByteArray) (hr : RdP w a cap ps) (hsz : sb.size ≤ maxLen) (htb : Tb w) (hS : ∀ (W : World) (a : Option Addr) (cap : Nat), RdP W a cap ps → Calls Tryd.prog 16 #[.agg #[.int .i64 o, .int .i64 l, .int .i64 m, .slice a ps.length cap, .int .i64 base, .int .i64 last, .string sb, .int .i64 z, .int .i64 c, .int .i64 e]] W (Ret W (.string r1))) (hI : ∀ (W : World) (a : Option Addr) (cap : Nat), RdP W a cap ps → Tb W → Calls Tryd.prog 18 #[.agg #[.int .i64 o, .int .i64 l, .int .i64 m, .slice a ps.length cap, .int .i64 base, .int .i64 last, .string sb, .int .i64 z, .int .i64 c, .int .i64 e]] W (Ret W (.string r1))) :
    Calls Tryd.prog 5 #[.agg #[.int .i64 o, .int .i64 l, .int .i64 m, .slice a ps.length cap, .int .i64 base, .int .i64 last, .string sb, .int .i64 z, .int .i64 c, .int .i64 e]] w fun E w' => E = .returned (.bool true) ∧ Below w.heap.size w w' := by
  by_cases bk : (ps.length : Int) + sb.size ≤ 1048576
  case neg => exact lawFormatReader_big o l m a cap ps base last sb z c e w hr (by omega) hsz
  exact lawFormatReader_fit o l m a cap ps base last sb z c e w r1 hr bk htb hS hI

end Go.Proofs.YtmddcbebaijjkaaDoor
