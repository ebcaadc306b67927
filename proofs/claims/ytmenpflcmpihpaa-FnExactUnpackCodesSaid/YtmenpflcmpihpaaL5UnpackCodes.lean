/- The law of UnpackCodes walked. -/
import Derived.Test.YtmenpflcmpihpaaWri
import Derived.Test.YtmenpflcmpihpaaRng
import Derived.Test.YtmenpflcmpihpaaGa
namespace Go.Proofs.Ytmenpflcmpihpaa
open Go.RowKit
set_option linter.unusedVariables false
set_option linter.unusedSimpArgs false

set_option maxRecDepth 100000 in
set_option maxHeartbeats 8000000 in
theorem lawUnpackCodes_fit (o l m : Int) (a : Option Addr) (cap : Nat) (ps : List Pr) (base last : Int) (s1 : ByteArray) (w : World) (qs : List Int) (r2 : Int) (r3 : Int) (hr : RdP w a cap ps) (hn : (ps.length : Int) ≤ 1048576) (hs1 : s1.size ≤ 1048576) (hq : qs.length ≤ 1000000) (hS : ∀ (W : World) (a : Option Addr) (cap : Nat), RdP W a cap ps → Calls Try.prog 29 #[.agg #[.int .i64 o, .int .i64 l, .int .i64 m, .slice a ps.length cap, .int .i64 base, .int .i64 last], .string s1] W (RetI W (fun a0 c0 => .tuple #[.slice a0 qs.length c0, .int .i64 r2, .int .i64 r3]) qs)) (hI : ∀ (W : World) (a : Option Addr) (cap : Nat), RdP W a cap ps → Calls Try.prog 30 #[.agg #[.int .i64 o, .int .i64 l, .int .i64 m, .slice a ps.length cap, .int .i64 base, .int .i64 last], .string s1] W (RetI W (fun a0 c0 => .tuple #[.slice a0 qs.length c0, .int .i64 r2, .int .i64 r3]) qs)) :
    Calls Try.prog 6 #[.agg #[.int .i64 o, .int .i64 l, .int .i64 m, .slice a ps.length cap, .int .i64 base, .int .i64 last], .string s1] w fun e w' => e = .returned (.bool true) ∧ Below w.heap.size w w' := by
  have HS := Lib.hid hS
  have HI := Lib.hid hI
  clear hS hI
  have hal := rd_lt hr
  have hn2 : ps.length ≤ 2000000 := by omega
  have q1 : decide ((1048576 : Int) - (ps.length : Int) < 0) = false := by simp; omega
  have c1 : (ps.length : Int) ≤ 1048576 := by omega
  have e2 : (r2 != r2) = false := by simp
  have e3 : (r3 != r3) = false := by simp
  go_enter Try.func6, Try.ntmps6
  go_wp2_with fail
  refine (szKnown_yes _ _ _ _ _ ps.length _ _ _ _ c1 (by omega)).mono ?_
  rintro e w' ⟨rfl, x1, rfl⟩
  go_wp2_with fail
  refine (toKnown_any _ _ _ _ _ ps _ _ _ (by repeat (first | exact hr | apply rd_seq | apply Rd.plus | apply Rd.alloc | apply Rd.drew | apply Rd.drewN | refine rd_patch1 ?_ _ _ (by omega) | refine rd_patch2 ?_ _ _ hal (by omega))) hn2).mono ?_
  rintro e w' ⟨aA, cA, rfl, hA, xA, rfl⟩
  try simp only [plus_plus] at hA
  have HA := Lib.hid hA
  have HAr := Lib.hid hA.rd
  obtain ⟨loA, hiA, loAe, hiAe, spA⟩ := own_span hA
  simp only [plus_size, seq_sz, drw_sz, World.size_alloc] at loAe hiAe
  clear hA
  go_wp2_with fail
  refine (HS.out _ _ _ (by repeat (first | exact HAr.out | apply rd_seq | apply Rd.plus | apply Rd.alloc | apply Rd.drew | apply Rd.drewN | refine rd_patch1 ?_ _ _ (by omega) | refine rd_patch2 ?_ _ _ hal (by omega)))).mono ?_
  rintro e w' ⟨aW, cW, rfl, hW, xW, rfl⟩
  try simp only [plus_plus] at hW
  have HW := Lib.hid hW
  have HWr := Lib.hid hW.rd
  obtain ⟨loW, hiW, loWe, hiWe, spW⟩ := wrt_span hW
  simp only [plus_size, seq_sz, drw_sz, World.size_alloc] at loWe hiWe
  clear hW
  go_wp2_with fail
  refine (toKnown_any _ _ _ _ _ ps _ _ _ (by repeat (first | exact hr | apply rd_seq | apply Rd.plus | apply Rd.alloc | apply Rd.drew | apply Rd.drewN | refine rd_patch1 ?_ _ _ (by omega) | refine rd_patch2 ?_ _ _ hal (by omega))) hn2).mono ?_
  rintro e w' ⟨aX, cX, rfl, hX, xX, rfl⟩
  try simp only [plus_plus] at hX
  have HX := Lib.hid hX
  have HXr := Lib.hid hX.rd
  obtain ⟨loX, hiX, loXe, hiXe, spX⟩ := own_span hX
  simp only [plus_size, seq_sz, drw_sz, World.size_alloc] at loXe hiXe
  clear hX
  go_wp2_with fail
  refine (HI.out _ _ _ (by repeat (first | exact HXr.out | apply rd_seq | apply Rd.plus | apply Rd.alloc | apply Rd.drew | apply Rd.drewN | refine rd_patch1 ?_ _ _ (by omega) | refine rd_patch2 ?_ _ _ hal (by omega)))).mono ?_
  rintro e w' ⟨aG, cG, rfl, hG, xG, rfl⟩
  try simp only [plus_plus] at hG
  have HG := Lib.hid hG
  have HGr := Lib.hid hG.rd
  obtain ⟨loG, hiG, loGe, hiGe, spG⟩ := wrt_span hG
  simp only [plus_size, seq_sz, drw_sz, World.size_alloc] at loGe hiGe
  clear hG
  go_wp2_with fail
  refine (eqIntS_yes _ _ _ _ qs _ (by repeat (first | exact HGr.out | apply rd_seq | apply Rd.plus | apply Rd.alloc | apply Rd.drew | apply Rd.drewN | refine rd_patch1 ?_ _ _ (by omega) | refine rd_patch2 ?_ _ _ hal (by omega))) (by repeat (first | exact HWr.out | apply rd_seq | apply Rd.plus | apply Rd.alloc | apply Rd.drew | apply Rd.drewN | refine rd_patch1 ?_ _ _ (by omega) | refine rd_patch2 ?_ _ _ hal (by omega)))).mono ?_
  rintro e w' ⟨rfl, xE, rfl⟩
  go_wp2_with fail
  refine wp_region_lex [true, true, false, false, false] (by kernel_rfl) (by kernel_rfl) ?_
  refine wpLex_load (.agg #[.int .i64 o, .int .i64 l, .int .i64 m, .slice aX ps.length cX, .int .i64 base, .int .i64 last]) rfl ?_ ?_
  · rintro w' ⟨x, rfl⟩
    simp [go_sem, ↓IntWalk.iteOmega]
  refine wpLex_load (.agg #[.int .i64 o, .int .i64 l, .int .i64 m, .slice a ps.length cap, .int .i64 base, .int .i64 last]) rfl ?_ ?_
  · rintro w' ⟨x, rfl⟩
    simp [go_sem, ↓IntWalk.iteOmega]
  refine wpLex_one rfl rfl (fun K hK => ?_)
  go_simp
  refine (toKnown_any _ _ _ _ _ ps _ _ _ (by repeat (first | exact hr | apply rd_seq | apply Rd.plus | apply Rd.alloc | apply Rd.drew | apply Rd.drewN | refine rd_patch1 ?_ _ _ (by omega) | refine rd_patch2 ?_ _ _ hal (by omega))) hn2).mono ?_
  rintro e w' ⟨aY, cY, rfl, hY, xY, rfl⟩
  try simp only [plus_plus] at hY
  have HYr := Lib.hid hY.rd
  clear hY
  refine hK _ _ ⟨xY, by simp only [plus_plus]; rfl⟩ ?_
  clear hK K
  refine wpLex_one rfl rfl (fun K hK => ?_)
  go_simp
  refine (eqKnown_yes _ _ _ _ _ ps _ _ _ _ _ (by repeat (first | exact HXr.out | apply rd_seq | apply Rd.plus | apply Rd.alloc | apply Rd.drew | apply Rd.drewN | refine rd_patch1 ?_ _ _ (by omega) | refine rd_patch2 ?_ _ _ hal (by omega))) (by repeat (first | exact HYr.out | apply rd_seq | apply Rd.plus | apply Rd.alloc | apply Rd.drew | apply Rd.drewN | refine rd_patch1 ?_ _ _ (by omega) | refine rd_patch2 ?_ _ _ hal (by omega)))).mono ?_
  rintro e w' ⟨rfl, xF, rfl⟩
  refine hK _ _ ⟨xY.seq xF, by simp only [plus_plus, ← Ext.seq_seq]; rfl⟩ ?_
  clear hK K
  refine wpLex_one rfl rfl (fun K hK => ?_)
  go_simp
  refine hK _ _ ⟨xY.seq xF, by simp only [plus_plus, ← Ext.seq_seq]; rfl⟩ ?_
  clear hK K
  refine NoPanic.normal ?_
  go_wp2_with fail
  refine (markKnown_own _ _ _ _ _ ps _ _ 1 _ (by repeat (first | (with_reducible exact HX.out) | (with_reducible apply own_seq) | (with_reducible apply own_draw) | (with_reducible apply Own.plus) | (with_reducible apply Own.alloc) | (with_reducible apply Own.drew) | (with_reducible apply Own.drewN))) spX hn2 (by omega) (by omega)).mono ?_
  rintro e w2 ⟨rfl, hM, hR2⟩
  have z2 := hR2.size
  simp only [plus_size, seq_sz, drw_sz, World.size_alloc] at z2
  have HW2 := Lib.hid (rd_rng (E := encI) (a := aW) (cap := cW) (xs := qs) (by repeat (first | exact HWr.out | apply rd_seq | apply Rd.plus | apply Rd.alloc | apply Rd.drew | apply Rd.drewN | refine rd_patch1 ?_ _ _ (by omega) | refine rd_patch2 ?_ _ _ hal (by omega))) hR2 (fun A hA _ => .inl (by have := spW A hA; omega)))
  have HG2 := Lib.hid (wrt_rng (xs := qs) (by repeat (first | (with_reducible exact HG.out) | (with_reducible apply wrt_seq) | (with_reducible apply wrt_draw) | (with_reducible apply Wrt.plus) | (with_reducible apply Wrt.alloc) | (with_reducible apply Wrt.drew))) hR2 (fun A hA => .inr (by have := spG A hA; omega)))
  have HG2r := Lib.hid HG2.out.rd
  have hr2 := rd_rng (E := encP) (a := a) (cap := cap) (xs := ps) (by repeat (first | exact hr | apply rd_seq | apply Rd.plus | apply Rd.alloc | apply Rd.drew | apply Rd.drewN | refine rd_patch1 ?_ _ _ (by omega) | refine rd_patch2 ?_ _ _ hal (by omega))) hR2 (fun A hA hc => .inl (by have := hal A hA hc; omega))
  have e0 : decide ((1 : Int) + 2 * (ps.length : Int) < 0) = false := by simp; omega
  have HB2 := Lib.hid ((show Below w.heap.size w _ from (by repeat (first | exact Below.refl _ _ | refine below_plus ?_ (by first | omega | (simp <;> omega)) _ | refine Below.alloc ?_ (by first | omega | (simp <;> omega)) _ | refine below_patch ?_ (by omega) _ | refine Below.drew ?_))).trans (hR2.below (by omega) (by simp only [plus_size, seq_sz, drw_sz, World.size_alloc]; omega)))
  have rk2 := fun n i => rng_cell hR2 n i
  clear hR2 hM
  go_wp2_with fail
  refine (eqIntS_yes _ _ _ _ qs _ (by repeat (first | exact HG2r.out | apply rd_seq | apply Rd.plus | apply Rd.alloc | apply Rd.drew | apply Rd.drewN | refine rd_patch1 ?_ _ _ (by omega) | refine rd_patch2 ?_ _ _ hal (by omega))) (by repeat (first | exact HW2.out | apply rd_seq | apply Rd.plus | apply Rd.alloc | apply Rd.drew | apply Rd.drewN | refine rd_patch1 ?_ _ _ (by omega) | refine rd_patch2 ?_ _ _ hal (by omega)))).mono ?_
  rintro e w' ⟨rfl, xE2, rfl⟩
  go_wp2_with fail
  refine (markIntS_own _ _ qs 1 _ (by repeat (first | (with_reducible exact HG2.out) | (with_reducible apply wrt_seq) | (with_reducible apply wrt_draw) | (with_reducible apply Wrt.plus) | (with_reducible apply Wrt.alloc) | (with_reducible apply Wrt.drew))) spG (by omega) (by omega) (by omega)).mono ?_
  rintro e w3 ⟨rfl, hN, hR3⟩
  have z3 := hR3.size
  simp only [plus_size, seq_sz, drw_sz, World.size_alloc] at z3
  have HN := Lib.hid hN
  have HW3 := Lib.hid (rd_rng (E := encI) (a := aW) (cap := cW) (xs := qs) (by repeat (first | exact HW2.out | apply rd_seq | apply Rd.plus | apply Rd.alloc | apply Rd.drew | apply Rd.drewN | refine rd_patch1 ?_ _ _ (by omega) | refine rd_patch2 ?_ _ _ hal (by omega))) hR3 (fun A hA _ => .inl (by have := spW A hA; omega)))
  have hr3 := rd_rng (E := encP) (a := a) (cap := cap) (xs := ps) (by repeat (first | exact hr2 | apply rd_seq | apply Rd.plus | apply Rd.alloc | apply Rd.drew | apply Rd.drewN | refine rd_patch1 ?_ _ _ (by omega) | refine rd_patch2 ?_ _ _ hal (by omega))) hR3 (fun A hA hc => .inl (by have := hal A hA hc; omega))
  have HB3 := Lib.hid ((show Below w.heap.size w _ from (by repeat (first | (with_reducible exact HB2.out) | refine below_plus ?_ (by first | omega | (simp <;> omega)) _ | refine Below.alloc ?_ (by first | omega | (simp <;> omega)) _ | refine below_patch ?_ (by omega) _ | refine Below.drew ?_))).trans (hR3.below (by omega) (by simp only [plus_size, seq_sz, drw_sz, World.size_alloc]; omega)))
  have rk3 := fun n i => rng_cell hR3 n i
  clear hR3 hN
  have e9 : decide ((1 : Int) + (qs.length : Int) < 0) = false := by simp; omega
  have e8 : ((1 : Int) + (qs.length : Int) != 1 + (qs.length : Int)) = false := by simp
  go_wp2_with fail
  refine (heldIntS_yes _ _ qs.length 1 _ (by repeat (first | exact HN.out | apply rd_seq | apply Rd.plus | apply Rd.alloc | apply Rd.drew | apply Rd.drewN | refine rd_patch1 ?_ _ _ (by omega) | refine rd_patch2 ?_ _ _ hal (by omega))) (by omega) (by omega) (by omega)).mono ?_
  rintro e w' ⟨rfl, xH, rfl⟩
  go_wp2_with fail
  refine (toKnown_any _ _ _ _ _ ps _ _ _ (by repeat (first | exact hr3 | apply rd_seq | apply Rd.plus | apply Rd.alloc | apply Rd.drew | apply Rd.drewN | refine rd_patch1 ?_ _ _ (by omega) | refine rd_patch2 ?_ _ _ hal (by omega))) hn2).mono ?_
  rintro e w' ⟨aZ, cZ, rfl, hZ, xZ, rfl⟩
  try simp only [plus_plus] at hZ
  have HZ := Lib.hid hZ
  have HZr := Lib.hid hZ.rd
  obtain ⟨loZ, hiZ, loZe, hiZe, spZ⟩ := own_span hZ
  simp only [plus_size, seq_sz, drw_sz, World.size_alloc] at loZe hiZe
  clear hZ
  go_wp2_with fail
  refine (HI.out _ _ _ (by repeat (first | exact HZr.out | apply rd_seq | apply Rd.plus | apply Rd.alloc | apply Rd.drew | apply Rd.drewN | refine rd_patch1 ?_ _ _ (by omega) | refine rd_patch2 ?_ _ _ hal (by omega)))).mono ?_
  rintro e w' ⟨aV, cV, rfl, hV, xV, rfl⟩
  try simp only [plus_plus] at hV
  have HV := Lib.hid hV
  have HVr := Lib.hid hV.rd
  obtain ⟨loV, hiV, loVe, hiVe, spV⟩ := wrt_span hV
  simp only [plus_size, seq_sz, drw_sz, World.size_alloc] at loVe hiVe
  clear hV
  go_wp2_with fail
  refine (eqIntS_yes _ _ _ _ qs _ (by repeat (first | exact HVr.out | apply rd_seq | apply Rd.plus | apply Rd.alloc | apply Rd.drew | apply Rd.drewN | refine rd_patch1 ?_ _ _ (by omega) | refine rd_patch2 ?_ _ _ hal (by omega))) (by repeat (first | exact HW3.out | apply rd_seq | apply Rd.plus | apply Rd.alloc | apply Rd.drew | apply Rd.drewN | refine rd_patch1 ?_ _ _ (by omega) | refine rd_patch2 ?_ _ _ hal (by omega)))).mono ?_
  rintro e w' ⟨rfl, xE3, rfl⟩
  go_wp2_with fail
  refine (heldIntS_yes _ _ qs.length 1 _ (by repeat (first | exact HN.out | apply rd_seq | apply Rd.plus | apply Rd.alloc | apply Rd.drew | apply Rd.drewN | refine rd_patch1 ?_ _ _ (by omega) | refine rd_patch2 ?_ _ _ hal (by omega))) (by omega) (by omega) (by omega)).mono ?_
  rintro e w' ⟨rfl, xH2, rfl⟩
  go_wp2_with fail
  go_ret
  exact ⟨rfl, (by repeat (first | (with_reducible exact HB3.out) | refine below_plus ?_ (by first | omega | (simp <;> omega)) _ | refine Below.alloc ?_ (by first | omega | (simp <;> omega)) _ | refine below_patch ?_ (by omega) _ | refine Below.drew ?_))⟩

theorem lawUnpackCodes_long1 (o l m : Int) (a : Option Addr) (cap : Nat) (ps : List Pr) (base last : Int) (s1 : ByteArray) (w : World) (hb : 1048576 < s1.size) (hm : ∀ x, x ∈ [s1] → x.size ≤ maxLen) :
    Calls Try.prog 6 #[.agg #[.int .i64 o, .int .i64 l, .int .i64 m, .slice a ps.length cap, .int .i64 base, .int .i64 last], .string s1] w fun e w' => e = .returned (.bool true) ∧ Below w.heap.size w w' := by
  have hm1 := hm s1 (by simp)
  unfold maxLen at hm1
  all_goals
    go_enter Try.func6, Try.ntmps6
    go_wp2
    go_ret
    exact ⟨rfl, (by repeat (first | exact Below.refl _ _ | refine below_plus ?_ (by first | omega | (simp <;> omega)) _ | refine Below.alloc ?_ (by first | omega | (simp <;> omega)) _ | refine below_patch ?_ (by omega) _ | refine Below.drew ?_))⟩

theorem lawUnpackCodes_big (o l m : Int) (a : Option Addr) (cap : Nat) (ps : List Pr) (base last : Int) (s1 : ByteArray) (w : World) (hr : RdP w a cap ps) (hb : 1048576 < (ps.length : Int)) (hs1 : s1.size ≤ 1048576) :
    Calls Try.prog 6 #[.agg #[.int .i64 o, .int .i64 l, .int .i64 m, .slice a ps.length cap, .int .i64 base, .int .i64 last], .string s1] w fun e w' => e = .returned (.bool true) ∧ Below w.heap.size w w' := by
  have h1 := hr.1
  have h2 := hr.2.1
  have c1 : (1048576 : Int) < (ps.length : Int) := by omega
  go_enter Try.func6, Try.ntmps6
  go_wp2_with (go_at_call 15; refine (szKnown_no _ _ _ _ _ _ _ _ _ _ c1 (by omega) (by omega)).mono ?_; rintro e w' ⟨rfl, xc, rfl⟩)
  go_ret
  exact ⟨rfl, (by repeat (first | exact Below.refl _ _ | refine below_plus ?_ (by first | omega | (simp <;> omega)) _ | refine Below.alloc ?_ (by first | omega | (simp <;> omega)) _ | refine below_patch ?_ (by omega) _ | refine Below.drew ?_))⟩

theorem lawUnpackCodes_sizes (o l m : Int) (a : Option Addr) (cap : Nat) (ps : List Pr) (base last : Int) (s1 : ByteArray) (w : World) (qs : List Int) (r2 : Int) (r3 : Int) (hr : RdP w a cap ps) (hm1 : s1.size ≤ maxLen) (hq : qs.length ≤ 1000000) (hS : ∀ (W : World) (a : Option Addr) (cap : Nat), RdP W a cap ps → Calls Try.prog 29 #[.agg #[.int .i64 o, .int .i64 l, .int .i64 m, .slice a ps.length cap, .int .i64 base, .int .i64 last], .string s1] W (RetI W (fun a0 c0 => .tuple #[.slice a0 qs.length c0, .int .i64 r2, .int .i64 r3]) qs)) (hI : ∀ (W : World) (a : Option Addr) (cap : Nat), RdP W a cap ps → Calls Try.prog 30 #[.agg #[.int .i64 o, .int .i64 l, .int .i64 m, .slice a ps.length cap, .int .i64 base, .int .i64 last], .string s1] W (RetI W (fun a0 c0 => .tuple #[.slice a0 qs.length c0, .int .i64 r2, .int .i64 r3]) qs)) :
    Calls Try.prog 6 #[.agg #[.int .i64 o, .int .i64 l, .int .i64 m, .slice a ps.length cap, .int .i64 base, .int .i64 last], .string s1] w fun e w' => e = .returned (.bool true) ∧ Below w.heap.size w w' := by
  have hm : ∀ x, x ∈ [s1] → x.size ≤ maxLen := by intro x hx; simp at hx; rw [hx]; exact hm1
  by_cases bs1 : s1.size ≤ 1048576
  case neg => exact lawUnpackCodes_long1 o l m a cap ps base last s1 w (by omega) hm
  by_cases bk : (ps.length : Int) ≤ 1048576
  case neg => exact lawUnpackCodes_big o l m a cap ps base last s1 w hr (by omega) bs1
  exact lawUnpackCodes_fit o l m a cap ps base last s1 w qs r2 r3 hr bk bs1 hq hS hI

end Go.Proofs.Ytmenpflcmpihpaa
