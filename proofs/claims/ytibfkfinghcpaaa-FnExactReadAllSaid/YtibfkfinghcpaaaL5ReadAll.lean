/- The law of ReadAll walked. -/
import Derived.Test.YtibfkfinghcpaaaRng
import Derived.Test.YtibfkfinghcpaaaGa
import Derived.Test.YtibfkfinghcpaaaTss
import Derived.Test.YtibfkfinghcpaaaGb
namespace Go.Proofs.Ytibfkfinghcpaaa
open Go.RowKit
set_option linter.unusedVariables false
set_option linter.unusedSimpArgs false

set_option maxRecDepth 100000 in
set_option maxHeartbeats 8000000 in
theorem lawReadAll_fit (o l m : Int) (a : Option Addr) (cap : Nat) (ps : List Pr) (base last : Int) (sa : Option Addr) (scap : Nat) (us : List ByteArray) (w : World) (r1 : ByteArray) (r2 : Int) (r3 : Int) (hr : RdP w a cap ps) (hs : RdS w sa scap us) (hz : ∀ s ∈ us, s.size ≤ maxLen) (hn : (ps.length : Int) + us.length + sumZ us ≤ 1048576)
    (hS : ∀ (W : World) (a : Option Addr) (cap : Nat) (sa : Option Addr) (scap : Nat), RdP W a cap ps → RdS W sa scap us → Calls Try.prog 43 #[.agg #[.int .i64 o, .int .i64 l, .int .i64 m, .slice a ps.length cap, .int .i64 base, .int .i64 last], .slice sa us.length scap] W (Ret W (.tuple #[.string r1, .int .i64 r2, .int .i64 r3])))
    (hI : ∀ (W : World) (a : Option Addr) (cap : Nat) (sa : Option Addr) (scap : Nat), RdP W a cap ps → RdS W sa scap us → Calls Try.prog 42 #[.agg #[.int .i64 o, .int .i64 l, .int .i64 m, .slice a ps.length cap, .int .i64 base, .int .i64 last], .slice sa us.length scap] W (Ret W (.tuple #[.string r1, .int .i64 r2, .int .i64 r3]))) :
    Calls Try.prog 12 #[.agg #[.int .i64 o, .int .i64 l, .int .i64 m, .slice a ps.length cap, .int .i64 base, .int .i64 last], .slice sa us.length scap] w fun e w' => e = .returned (.bool true) ∧ Below w.heap.size w w' := by
  have HS := Lib.hid hS
  have HI := Lib.hid hI
  have HZ := Lib.hid hz
  have HR := Lib.hid (show Rd encP w a cap ps from hr)
  have HU := Lib.hid (show Rd encS w sa scap us from hs)
  have hml : us.length ≤ maxLen := by have := hs.1; have := hs.2.1; unfold maxLen; omega
  have hsz : szT us (1048576 - (ps.length : Int)) = 1048576 - (ps.length : Int) - us.length - sumZ us := by unfold szT; rw [if_pos (by omega)]
  have HSZ := Lib.hid hsz
  have HML := Lib.hid hml
  clear hS hI hz hr hs hsz hml
  have hn2 : ps.length ≤ 2000000 := by omega
  have hu2 : us.length ≤ 2000000 := by omega
  have q1 : decide ((1048576 : Int) - (ps.length : Int) < 0) = false := by simp; omega
  have q2 : decide ((1048576 : Int) - (ps.length : Int) - (us.length : Int) - (sumZ us : Int) < 0) = false := by simp; omega
  have c1 : (ps.length : Int) ≤ 1048576 := by omega
  have e1 : (r1.toList != r1.toList) = false := by simp
  have e2 : (r2 != r2) = false := by simp
  have e3 : (r3 != r3) = false := by simp
  go_enter Try.func12, Try.ntmps12
  go_wp2_with fail
  refine (szKnown_yes _ _ _ _ _ ps.length _ _ _ _ c1 (by omega)).mono ?_
  rintro e w' ⟨rfl, x1, rfl⟩
  go_wp2_with fail
  refine (szStringS_any sa scap us (1048576 - (ps.length : Int)) _ (by unfold RdS; exact (by (try unfold RdP); repeat (first | (with_reducible exact HU.out) | (with_reducible apply rd_seq) | (with_reducible apply Rd.plus) | (with_reducible apply Rd.alloc) | (with_reducible apply Rd.drew) | (with_reducible apply Rd.drewN)))) HZ.out HML.out (by omega) (by omega)).mono ?_
  rintro e w' ⟨rfl, x2, rfl⟩
  rw [HSZ.out]
  go_wp2_with fail
  refine (toKnown_any _ _ _ _ _ ps _ _ _ (by (try unfold RdP); repeat (first | (with_reducible exact HR.out) | (with_reducible apply rd_seq) | (with_reducible apply Rd.plus) | (with_reducible apply Rd.alloc) | (with_reducible apply Rd.drew) | (with_reducible apply Rd.drewN))) hn2).mono ?_
  rintro e w' ⟨aA, cA, rfl, hA, xA, rfl⟩
  try simp only [plus_plus] at hA
  have HAr := Lib.hid (show Rd encP _ aA cA ps from hA.rd)
  clear hA
  go_wp2_with fail
  refine (toStringS_any sa scap us _ (by unfold RdS; exact (by (try unfold RdP); repeat (first | (with_reducible exact HU.out) | (with_reducible apply rd_seq) | (with_reducible apply Rd.plus) | (with_reducible apply Rd.alloc) | (with_reducible apply Rd.drew) | (with_reducible apply Rd.drewN)))) hu2).mono ?_
  rintro e w' ⟨aB, cB, rfl, hB, xB, rfl⟩
  try simp only [plus_plus] at hB
  have HBr := Lib.hid (show Rd encS _ aB cB us from hB.rd)
  clear hB
  go_wp2_with fail
  refine (HS.out _ _ _ _ _ (by (try unfold RdP); repeat (first | (with_reducible exact HAr.out) | (with_reducible apply rd_seq) | (with_reducible apply Rd.plus) | (with_reducible apply Rd.alloc) | (with_reducible apply Rd.drew) | (with_reducible apply Rd.drewN))) (by unfold RdS; exact (by (try unfold RdP); repeat (first | (with_reducible exact HBr.out) | (with_reducible apply rd_seq) | (with_reducible apply Rd.plus) | (with_reducible apply Rd.alloc) | (with_reducible apply Rd.drew) | (with_reducible apply Rd.drewN))))).mono ?_
  rintro e w' ⟨rfl, xW, rfl⟩
  go_wp2_with fail
  refine (toKnown_any _ _ _ _ _ ps _ _ _ (by (try unfold RdP); repeat (first | (with_reducible exact HR.out) | (with_reducible apply rd_seq) | (with_reducible apply Rd.plus) | (with_reducible apply Rd.alloc) | (with_reducible apply Rd.drew) | (with_reducible apply Rd.drewN))) hn2).mono ?_
  rintro e w' ⟨aX, cX, rfl, hX, xX, rfl⟩
  try simp only [plus_plus] at hX
  have HXr := Lib.hid (show Rd encP _ aX cX ps from hX.rd)
  clear hX
  go_wp2_with fail
  refine (toStringS_any sa scap us _ (by unfold RdS; exact (by (try unfold RdP); repeat (first | (with_reducible exact HU.out) | (with_reducible apply rd_seq) | (with_reducible apply Rd.plus) | (with_reducible apply Rd.alloc) | (with_reducible apply Rd.drew) | (with_reducible apply Rd.drewN)))) hu2).mono ?_
  rintro e w' ⟨aC, cC, rfl, hC, xC, rfl⟩
  try simp only [plus_plus] at hC
  have HCr := Lib.hid (show Rd encS _ aC cC us from hC.rd)
  clear hC
  go_wp2_with fail
  refine (HI.out _ _ _ _ _ (by (try unfold RdP); repeat (first | (with_reducible exact HXr.out) | (with_reducible apply rd_seq) | (with_reducible apply Rd.plus) | (with_reducible apply Rd.alloc) | (with_reducible apply Rd.drew) | (with_reducible apply Rd.drewN))) (by unfold RdS; exact (by (try unfold RdP); repeat (first | (with_reducible exact HCr.out) | (with_reducible apply rd_seq) | (with_reducible apply Rd.plus) | (with_reducible apply Rd.alloc) | (with_reducible apply Rd.drew) | (with_reducible apply Rd.drewN))))).mono ?_
  rintro e w' ⟨rfl, xG, rfl⟩
  go_wp2_with fail
  refine wp_region_lex [true, true, false, false, false] (by kernel_rfl) (by kernel_rfl) ?_
  refine wpLex_load (.agg #[.int .i64 o, .int .i64 l, .int .i64 m, .slice aX ps.length cX, .int .i64 base, .int .i64 last]) rfl ?_ ?_
  · rintro w' ⟨x, rfl⟩
    simp [go_sem, ↓IntWalk.iteOmega]
  refine wpLex_load (.agg #[.int .i64 o, .int .i64 l, .int .i64 m, .slice a ps.length cap, .int .i64 base, .int .i64 last]) rfl ?_ ?_
  · rintro w' ⟨x, rfl⟩
    simp [go_sem, ↓IntWalk.iteOmega]
  refine wpLex_one rfl rfl (fun K hK => ?_)
  go_simp
  refine (toKnown_any _ _ _ _ _ ps _ _ _ (by (try unfold RdP); repeat (first | (with_reducible exact HR.out) | (with_reducible apply rd_seq) | (with_reducible apply Rd.plus) | (with_reducible apply Rd.alloc) | (with_reducible apply Rd.drew) | (with_reducible apply Rd.drewN))) hn2).mono ?_
  rintro e w' ⟨aY, cY, rfl, hY, xY, rfl⟩
  try simp only [plus_plus] at hY
  have HYr := Lib.hid (show Rd encP _ aY cY ps from hY.rd)
  clear hY
  refine hK _ _ ⟨xY, by simp only [plus_plus]; rfl⟩ ?_
  clear hK K
  refine wpLex_one rfl rfl (fun K hK => ?_)
  go_simp
  refine (eqKnown_yes _ _ _ _ _ ps _ _ _ _ _ (by (try unfold RdP); repeat (first | (with_reducible exact HXr.out) | (with_reducible apply rd_seq) | (with_reducible apply Rd.plus) | (with_reducible apply Rd.alloc) | (with_reducible apply Rd.drew) | (with_reducible apply Rd.drewN))) (by (try unfold RdP); repeat (first | (with_reducible exact HYr.out) | (with_reducible apply rd_seq) | (with_reducible apply Rd.plus) | (with_reducible apply Rd.alloc) | (with_reducible apply Rd.drew) | (with_reducible apply Rd.drewN)))).mono ?_
  rintro e w' ⟨rfl, xF, rfl⟩
  refine hK _ _ ⟨xY.seq xF, by simp only [plus_plus, ← Ext.seq_seq]; rfl⟩ ?_
  clear hK K
  refine wpLex_one rfl rfl (fun K hK => ?_)
  go_simp
  refine hK _ _ ⟨xY.seq xF, by simp only [plus_plus, ← Ext.seq_seq]; rfl⟩ ?_
  clear hK K
  refine NoPanic.normal ?_
  go_wp2_with fail
  refine (toStringS_any sa scap us _ (by unfold RdS; exact (by (try unfold RdP); repeat (first | (with_reducible exact HU.out) | (with_reducible apply rd_seq) | (with_reducible apply Rd.plus) | (with_reducible apply Rd.alloc) | (with_reducible apply Rd.drew) | (with_reducible apply Rd.drewN)))) hu2).mono ?_
  rintro e w' ⟨aD, cD, rfl, hD, xD, rfl⟩
  try simp only [plus_plus] at hD
  have HDr := Lib.hid (show Rd encS _ aD cD us from hD.rd)
  clear hD
  go_wp2_with fail
  refine (eqStringS_yes aC aD cC cD us _ (by unfold RdS; repeat (first | (with_reducible exact HCr.out) | (with_reducible apply rd_draw) | (with_reducible apply rd_seq) | (with_reducible apply Rd.plus))) (by unfold RdS; exact (by (try unfold RdP); repeat (first | (with_reducible exact HDr.out) | (with_reducible apply rd_seq) | (with_reducible apply Rd.plus) | (with_reducible apply Rd.alloc) | (with_reducible apply Rd.drew) | (with_reducible apply Rd.drewN)))) hu2).mono ?_
  rintro e w' ⟨rfl, xH, rfl⟩
  go_wp2_with fail
  go_ret
  exact ⟨rfl, (by repeat (first | exact Below.refl _ _ | refine below_plus ?_ (by first | omega | (simp <;> omega)) _ | refine Below.alloc ?_ (by first | omega | (simp <;> omega)) _ | refine below_patch ?_ (by omega) _ | refine Below.drew ?_))⟩

set_option maxRecDepth 100000 in
set_option maxHeartbeats 2000000 in
theorem lawReadAll_much (o l m : Int) (a : Option Addr) (cap : Nat) (ps : List Pr) (base last : Int) (sa : Option Addr) (scap : Nat) (us : List ByteArray) (w : World) (hs : RdS w sa scap us) (hz : ∀ s ∈ us, s.size ≤ maxLen) (hp : (ps.length : Int) ≤ 1048576) (hn : 1048576 < (ps.length : Int) + us.length + sumZ us) :
    Calls Try.prog 12 #[.agg #[.int .i64 o, .int .i64 l, .int .i64 m, .slice a ps.length cap, .int .i64 base, .int .i64 last], .slice sa us.length scap] w fun e w' => e = .returned (.bool true) ∧ Below w.heap.size w w' := by
  have HU := Lib.hid (show Rd encS w sa scap us from hs)
  have HZ := Lib.hid hz
  have HML := Lib.hid (show us.length ≤ maxLen by have := hs.1; have := hs.2.1; unfold maxLen; omega)
  have HSZ := Lib.hid (show szT us (1048576 - (ps.length : Int)) = -1 by unfold szT; rw [if_neg (by omega)])
  have q1 : decide ((1048576 : Int) - (ps.length : Int) < 0) = false := by simp; omega
  clear hz hs
  go_enter Try.func12, Try.ntmps12
  go_wp2_with fail
  refine (szKnown_yes _ _ _ _ _ ps.length _ _ _ _ hp (by omega)).mono ?_
  rintro e w' ⟨rfl, x1, rfl⟩
  go_wp2_with fail
  refine (szStringS_any sa scap us (1048576 - (ps.length : Int)) _ (by unfold RdS; exact (by (try unfold RdP); repeat (first | (with_reducible exact HU.out) | (with_reducible apply rd_seq) | (with_reducible apply Rd.plus) | (with_reducible apply Rd.alloc) | (with_reducible apply Rd.drew) | (with_reducible apply Rd.drewN)))) HZ.out HML.out (by omega) (by omega)).mono ?_
  rintro e w' ⟨rfl, x2, rfl⟩
  rw [HSZ.out]
  go_wp2_with fail
  go_ret
  exact ⟨rfl, (by repeat (first | exact Below.refl _ _ | refine below_plus ?_ (by first | omega | (simp <;> omega)) _ | refine Below.alloc ?_ (by first | omega | (simp <;> omega)) _ | refine below_patch ?_ (by omega) _ | refine Below.drew ?_))⟩

theorem lawReadAll_big (o l m : Int) (a : Option Addr) (cap : Nat) (ps : List Pr) (base last : Int) (sa : Option Addr) (scap : Nat) (us : List ByteArray) (w : World) (hr : RdP w a cap ps) (hb : 1048576 < (ps.length : Int)) :
    Calls Try.prog 12 #[.agg #[.int .i64 o, .int .i64 l, .int .i64 m, .slice a ps.length cap, .int .i64 base, .int .i64 last], .slice sa us.length scap] w fun e w' => e = .returned (.bool true) ∧ Below w.heap.size w w' := by
  have h1 := hr.1
  have h2 := hr.2.1
  have c1 : (1048576 : Int) < (ps.length : Int) := by omega
  go_enter Try.func12, Try.ntmps12
  go_wp2_with (go_at_call 45; refine (szKnown_no _ _ _ _ _ _ _ _ _ _ c1 (by omega) (by omega)).mono ?_; rintro e w' ⟨rfl, xc, rfl⟩)
  go_ret
  exact ⟨rfl, (by repeat (first | exact Below.refl _ _ | refine below_plus ?_ (by first | omega | (simp <;> omega)) _ | refine Below.alloc ?_ (by first | omega | (simp <;> omega)) _ | refine below_patch ?_ (by omega) _ | refine Below.drew ?_))⟩

end Go.Proofs.Ytibfkfinghcpaaa
