/- The law of ParseKnown walked. -/
import Derived.Test.YtmddcbebaijjkaaDoorRng
import Derived.Test.YtmddcbebaijjkaaDoorGa
import Derived.Test.YtmddcbebaijjkaaDoorGm
namespace Go.Proofs.YtmddcbebaijjkaaDoor
open Go.RowKit
set_option linter.unusedVariables false
set_option linter.unusedSimpArgs false

set_option maxRecDepth 100000 in
set_option maxHeartbeats 8000000 in
theorem lawParseKnown_fit (s1 : ByteArray) (w : World) (o1 l1 m1 : Int) (qs : List Pr) (b1 la1 : Int) (r2 : Bool) (hs1 : s1.size ≤ 1048576) (hq : qs.length ≤ 1000000) (hlw : Lw w) (hS : ∀ (W : World), Calls Tryd.prog 11 #[.string s1] W (RetO W (fun a0 c0 => .tuple #[.agg #[.int .i64 o1, .int .i64 l1, .int .i64 m1, .slice a0 qs.length c0, .int .i64 b1, .int .i64 la1], .bool r2]) qs)) (hI : ∀ (W : World), Lw W → Calls Tryd.prog 12 #[.string s1] W (RetO W (fun a0 c0 => .tuple #[.agg #[.int .i64 o1, .int .i64 l1, .int .i64 m1, .slice a0 qs.length c0, .int .i64 b1, .int .i64 la1], .bool r2]) qs)) :
    Calls Tryd.prog 4 #[.string s1] w fun e w' => e = .returned (.bool true) ∧ Below w.heap.size w w' := by
  have HS := Lib.hid hS
  have HLW := Lib.hid hlw
  have HI := Lib.hid hI
  clear hS hI hlw
  have e2 : (r2 != r2) = false := by simp
  go_enter Tryd.func4, Tryd.ntmps4
  go_wp2_with fail
  refine (HS.out _).mono ?_
  rintro e w' ⟨aW, cW, rfl, hW, xW, rfl⟩
  try simp only [plus_plus] at hW
  have HW := Lib.hid hW
  have HWr := Lib.hid hW.rd
  obtain ⟨loW, hiW, loWe, hiWe, spW⟩ := own_span hW
  simp only [plus_size, seq_sz, drw_sz, World.size_alloc] at loWe hiWe
  clear hW
  go_wp2_with fail
  refine (HI.out _ (HLW.out.below (by repeat (first | exact Below.refl _ _ | refine below_plus ?_ (by first | omega | (simp <;> omega)) _ | refine Below.alloc ?_ (by first | omega | (simp <;> omega)) _ | refine below_patch ?_ (by omega) _ | refine Below.drew ?_)))).mono ?_
  rintro e w' ⟨aG, cG, rfl, hG, xG, rfl⟩
  try simp only [plus_plus] at hG
  have HG := Lib.hid hG
  have HGr := Lib.hid hG.rd
  obtain ⟨loG, hiG, loGe, hiGe, spG⟩ := own_span hG
  simp only [plus_size, seq_sz, drw_sz, World.size_alloc] at loGe hiGe
  clear hG
  go_wp2_with fail
  refine (eqKnown_yes _ _ _ _ _ qs _ _ _ _ _ (by repeat (first | exact HGr.out | apply rd_seq | apply Rd.plus | apply Rd.alloc | apply Rd.drew | apply Rd.drewN | refine rd_patch1 ?_ _ _ (by omega) | refine rd_patch2 ?_ _ _ hal (by omega))) (by repeat (first | exact HWr.out | apply rd_seq | apply Rd.plus | apply Rd.alloc | apply Rd.drew | apply Rd.drewN | refine rd_patch1 ?_ _ _ (by omega) | refine rd_patch2 ?_ _ _ hal (by omega)))).mono ?_
  rintro e w' ⟨rfl, xE, rfl⟩
  go_wp2_with fail
  refine (markKnown_own _ _ _ _ _ qs _ _ 1 _ (by repeat (first | (with_reducible exact HG.out) | (with_reducible apply own_seq) | (with_reducible apply own_draw) | (with_reducible apply Own.plus) | (with_reducible apply Own.alloc) | (with_reducible apply Own.drew) | (with_reducible apply Own.drewN))) spG (by omega) (by omega) (by omega)).mono ?_
  rintro e w3 ⟨rfl, hN, hR3⟩
  have z3 := hR3.size
  simp only [plus_size, seq_sz, drw_sz, World.size_alloc] at z3
  have HN := Lib.hid hN
  have HW3 := Lib.hid (rd_rng (E := encP) (a := aW) (cap := cW) (xs := qs) (by repeat (first | exact HWr.out | apply rd_seq | apply Rd.plus | apply Rd.alloc | apply Rd.drew | apply Rd.drewN | refine rd_patch1 ?_ _ _ (by omega) | refine rd_patch2 ?_ _ _ hal (by omega))) hR3 (fun A hA _ => .inl (by have := spW A hA; omega)))
  have HB3 := Lib.hid ((show Below w.heap.size w _ from (by repeat (first | exact Below.refl _ _ | refine below_plus ?_ (by first | omega | (simp <;> omega)) _ | refine Below.alloc ?_ (by first | omega | (simp <;> omega)) _ | refine below_patch ?_ (by omega) _ | refine Below.drew ?_))).trans (hR3.below (by omega) (by simp only [plus_size, seq_sz, drw_sz, World.size_alloc]; omega)))
  have rk3 := fun n i => rng_cell hR3 n i
  clear hR3 hN
  have e9 : decide ((1 : Int) + 2 * (qs.length : Int) < 0) = false := by simp; omega
  have e8 : ((1 : Int) + 2 * (qs.length : Int) != 1 + 2 * (qs.length : Int)) = false := by simp
  go_wp2_with fail
  refine (heldKnown_yes _ _ _ _ _ qs.length _ _ 1 _ (by repeat (first | exact HN.out | apply rd_seq | apply Rd.plus | apply Rd.alloc | apply Rd.drew | apply Rd.drewN | refine rd_patch1 ?_ _ _ (by omega) | refine rd_patch2 ?_ _ _ hal (by omega))) (by omega) (by omega) (by omega)).mono ?_
  rintro e w' ⟨rfl, xH, rfl⟩
  go_wp2_with fail
  refine (HI.out _ (HLW.out.below (by repeat (first | (with_reducible exact HB3.out) | refine below_plus ?_ (by first | omega | (simp <;> omega)) _ | refine Below.alloc ?_ (by first | omega | (simp <;> omega)) _ | refine below_patch ?_ (by omega) _ | refine Below.drew ?_)))).mono ?_
  rintro e w' ⟨aV, cV, rfl, hV, xV, rfl⟩
  try simp only [plus_plus] at hV
  have HV := Lib.hid hV
  have HVr := Lib.hid hV.rd
  obtain ⟨loV, hiV, loVe, hiVe, spV⟩ := own_span hV
  simp only [plus_size, seq_sz, drw_sz, World.size_alloc] at loVe hiVe
  clear hV
  go_wp2_with fail
  refine (eqKnown_yes _ _ _ _ _ qs _ _ _ _ _ (by repeat (first | exact HVr.out | apply rd_seq | apply Rd.plus | apply Rd.alloc | apply Rd.drew | apply Rd.drewN | refine rd_patch1 ?_ _ _ (by omega) | refine rd_patch2 ?_ _ _ hal (by omega))) (by repeat (first | exact HW3.out | apply rd_seq | apply Rd.plus | apply Rd.alloc | apply Rd.drew | apply Rd.drewN | refine rd_patch1 ?_ _ _ (by omega) | refine rd_patch2 ?_ _ _ hal (by omega)))).mono ?_
  rintro e w' ⟨rfl, xE3, rfl⟩
  go_wp2_with fail
  refine (heldKnown_yes _ _ _ _ _ qs.length _ _ 1 _ (by repeat (first | exact HN.out | apply rd_seq | apply Rd.plus | apply Rd.alloc | apply Rd.drew | apply Rd.drewN | refine rd_patch1 ?_ _ _ (by omega) | refine rd_patch2 ?_ _ _ hal (by omega))) (by omega) (by omega) (by omega)).mono ?_
  rintro e w' ⟨rfl, xH2, rfl⟩
  go_wp2_with fail
  go_ret
  exact ⟨rfl, (by repeat (first | (with_reducible exact HB3.out) | refine below_plus ?_ (by first | omega | (simp <;> omega)) _ | refine Below.alloc ?_ (by first | omega | (simp <;> omega)) _ | refine below_patch ?_ (by omega) _ | refine Below.drew ?_))⟩

theorem lawParseKnown_long1 (s1 : ByteArray) (w : World) (hb : 1048576 < s1.size) (hm : ∀ x, x ∈ [s1] → x.size ≤ maxLen) :
    Calls Tryd.prog 4 #[.string s1] w fun e w' => e = .returned (.bool true) ∧ Below w.heap.size w w' := by
  have hm1 := hm s1 (by simp)
  unfold maxLen at hm1
  all_goals
    go_enter Tryd.func4, Tryd.ntmps4
    go_wp2
    go_ret
    exact ⟨rfl, (by repeat (first | exact Below.refl _ _ | refine below_plus ?_ (by first | omega | (simp <;> omega)) _ | refine Below.alloc ?_ (by first | omega | (simp <;> omega)) _ | refine below_patch ?_ (by omega) _ | refine Below.drew ?_))⟩

theorem lawParseKnown_sizes (s1 : ByteArray) (w : World) (o1 l1 m1 : Int) (qs : List Pr) (b1 la1 : Int) (r2 : Bool) (hm1 : s1.size ≤ maxLen) (hq : qs.length ≤ 1000000) (hlw : Lw w) (hS : ∀ (W : World), Calls Tryd.prog 11 #[.string s1] W (RetO W (fun a0 c0 => .tuple #[.agg #[.int .i64 o1, .int .i64 l1, .int .i64 m1, .slice a0 qs.length c0, .int .i64 b1, .int .i64 la1], .bool r2]) qs)) (hI : ∀ (W : World), Lw W → Calls Tryd.prog 12 #[.string s1] W (RetO W (fun a0 c0 => .tuple #[.agg #[.int .i64 o1, .int .i64 l1, .int .i64 m1, .slice a0 qs.length c0, .int .i64 b1, .int .i64 la1], .bool r2]) qs)) :
    Calls Tryd.prog 4 #[.string s1] w fun e w' => e = .returned (.bool true) ∧ Below w.heap.size w w' := by
  have hm : ∀ x, x ∈ [s1] → x.size ≤ maxLen := by intro x hx; simp at hx; rw [hx]; exact hm1
  by_cases bs1 : s1.size ≤ 1048576
  case neg => exact lawParseKnown_long1 s1 w (by omega) hm
  exact lawParseKnown_fit s1 w o1 l1 m1 qs b1 la1 r2 bs1 hq hlw hS hI

end Go.Proofs.YtmddcbebaijjkaaDoor
