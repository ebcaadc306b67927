/- The law of ReadStream walked. -/
import Derived.Test.YtmenpflcmpihpaaRng
import Derived.Test.YtmenpflcmpihpaaGa
import Derived.Test.YtmenpflcmpihpaaRnd
namespace Go.Proofs.Ytmenpflcmpihpaa
open Go.RowKit
set_option linter.unusedVariables false
set_option linter.unusedSimpArgs false

set_option maxRecDepth 100000 in
set_option maxHeartbeats 8000000 in
theorem lawReadStream_fit (o l m : Int) (a : Option Addr) (cap : Nat) (ps : List Pr) (base last : Int) (sb : ByteArray) (z c e : Int) (s1 : ByteArray) (w : World) (o1 l1 m1 : Int) (qs : List Pr) (b1 la1 : Int) (sb1 : ByteArray) (z1 cc1 e1 : Int) (r2 : ByteArray) (r3 : Int) (r4 : Bool) (hr : RdP w a cap ps) (hn : (ps.length : Int) + sb.size ≤ 1048576) (hs1 : s1.size ≤ 1048576) (hq : qs.length ≤ 1000000) (hS : ∀ (W : World) (a : Option Addr) (cap : Nat), RdP W a cap ps → Calls Try.prog 50 #[.agg #[.int .i64 o, .int .i64 l, .int .i64 m, .slice a ps.length cap, .int .i64 base, .int .i64 last, .string sb, .int .i64 z, .int .i64 c, .int .i64 e], .string s1] W (RetO W (fun a0 c0 => .tuple #[.agg #[.int .i64 o1, .int .i64 l1, .int .i64 m1, .slice a0 qs.length c0, .int .i64 b1, .int .i64 la1, .string sb1, .int .i64 z1, .int .i64 cc1, .int .i64 e1], .string r2, .int .i64 r3, .bool r4]) qs)) (hI : ∀ (W : World) (a : Option Addr) (cap : Nat), RdP W a cap ps → Calls Try.prog 52 #[.agg #[.int .i64 o, .int .i64 l, .int .i64 m, .slice a ps.length cap, .int .i64 base, .int .i64 last, .string sb, .int .i64 z, .int .i64 c, .int .i64 e], .string s1] W (RetO W (fun a0 c0 => .tuple #[.agg #[.int .i64 o1, .int .i64 l1, .int .i64 m1, .slice a0 qs.length c0, .int .i64 b1, .int .i64 la1, .string sb1, .int .i64 z1, .int .i64 cc1, .int .i64 e1], .string r2, .int .i64 r3, .bool r4]) qs)) :
    Calls Try.prog 14 #[.agg #[.int .i64 o, .int .i64 l, .int .i64 m, .slice a ps.length cap, .int .i64 base, .int .i64 last, .string sb, .int .i64 z, .int .i64 c, .int .i64 e], .string s1] w fun E w' => E = .returned (.bool true) ∧ Below w.heap.size w w' := by
  have HS := Lib.hid hS
  have HI := Lib.hid hI
  clear hS hI
  have hal := rd_lt hr
  have hn2 : ps.length ≤ 2000000 := by omega
  have q1 : decide ((1048576 : Int) - (ps.length : Int) - (sb.size : Int) < 0) = false := by simp; omega
  have c1 : (ps.length : Int) + sb.size ≤ 1048576 := by omega
  have e2 : (r2.toList != r2.toList) = false := by simp
  have e3 : (r3 != r3) = false := by simp
  have e4 : (r4 != r4) = false := by simp
  go_enter Try.func14, Try.ntmps14
  go_wp2_with fail
  refine (szReader_yes _ _ _ _ _ _ _ _ _ _ _ _ _ _ c1 (by omega)).mono ?_
  rintro E w' ⟨rfl, x1, rfl⟩
  go_wp2_with fail
  refine (toReader_any _ _ _ _ _ ps _ _ _ _ _ _ _ (by repeat (first | exact hr | apply rd_seq | apply Rd.plus | apply Rd.alloc | apply Rd.drew | apply Rd.drewN | refine rd_patch1 ?_ _ _ (by omega) | refine rd_patch2 ?_ _ _ hal (by omega))) hn2).mono ?_
  rintro E w' ⟨aA, cA, rfl, hA, xA, rfl⟩
  try simp only [plus_plus] at hA
  have HA := Lib.hid hA
  have HAr := Lib.hid hA.rd
  obtain ⟨loA, hiA, loAe, hiAe, spA⟩ := own_span hA
  simp only [plus_size, seq_sz, drw_sz, World.size_alloc] at loAe hiAe
  clear hA
  go_wp2_with fail
  refine (HS.out _ _ _ (by repeat (first | exact HAr.out | apply rd_seq | apply Rd.plus | apply Rd.alloc | apply Rd.drew | apply Rd.drewN | refine rd_patch1 ?_ _ _ (by omega) | refine rd_patch2 ?_ _ _ hal (by omega)))).mono ?_
  rintro E w' ⟨aW, cW, rfl, hW, xW, rfl⟩
  try simp only [plus_plus] at hW
  have HW := Lib.hid hW
  have HWr := Lib.hid hW.rd
  obtain ⟨loW, hiW, loWe, hiWe, spW⟩ := own_span hW
  simp only [plus_size, seq_sz, drw_sz, World.size_alloc] at loWe hiWe
  clear hW
  go_wp2_with fail
  refine (toReader_any _ _ _ _ _ ps _ _ _ _ _ _ _ (by repeat (first | exact hr | apply rd_seq | apply Rd.plus | apply Rd.alloc | apply Rd.drew | apply Rd.drewN | refine rd_patch1 ?_ _ _ (by omega) | refine rd_patch2 ?_ _ _ hal (by omega))) hn2).mono ?_
  rintro E w' ⟨aX, cX, rfl, hX, xX, rfl⟩
  try simp only [plus_plus] at hX
  have HX := Lib.hid hX
  have HXr := Lib.hid hX.rd
  obtain ⟨loX, hiX, loXe, hiXe, spX⟩ := own_span hX
  simp only [plus_size, seq_sz, drw_sz, World.size_alloc] at loXe hiXe
  clear hX
  go_wp2_with fail
  refine (HI.out _ _ _ (by repeat (first | exact HXr.out | apply rd_seq | apply Rd.plus | apply Rd.alloc | apply Rd.drew | apply Rd.drewN | refine rd_patch1 ?_ _ _ (by omega) | refine rd_patch2 ?_ _ _ hal (by omega)))).mono ?_
  rintro E w' ⟨aG, cG, rfl, hG, xG, rfl⟩
  try simp only [plus_plus] at hG
  have HG := Lib.hid hG
  have HGr := Lib.hid hG.rd
  obtain ⟨loG, hiG, loGe, hiGe, spG⟩ := own_span hG
  simp only [plus_size, seq_sz, drw_sz, World.size_alloc] at loGe hiGe
  clear hG
  go_wp2_with fail
  refine (eqReader_yes _ _ _ _ _ qs _ _ _ _ _ _ _ _ _ (by repeat (first | exact HGr.out | apply rd_seq | apply Rd.plus | apply Rd.alloc | apply Rd.drew | apply Rd.drewN | refine rd_patch1 ?_ _ _ (by omega) | refine rd_patch2 ?_ _ _ hal (by omega))) (by repeat (first | exact HWr.out | apply rd_seq | apply Rd.plus | apply Rd.alloc | apply Rd.drew | apply Rd.drewN | refine rd_patch1 ?_ _ _ (by omega) | refine rd_patch2 ?_ _ _ hal (by omega)))).mono ?_
  rintro E w' ⟨rfl, xE, rfl⟩
  go_wp2_with fail
  refine wp_region_lex [true, true, false, false, false] (by kernel_rfl) (by kernel_rfl) ?_
  refine wpLex_load (.agg #[.int .i64 o, .int .i64 l, .int .i64 m, .slice aX ps.length cX, .int .i64 base, .int .i64 last, .string sb, .int .i64 z, .int .i64 c, .int .i64 e]) rfl ?_ ?_
  · rintro w' ⟨x, rfl⟩
    simp [go_sem, ↓IntWalk.iteOmega]
  refine wpLex_load (.agg #[.int .i64 o, .int .i64 l, .int .i64 m, .slice a ps.length cap, .int .i64 base, .int .i64 last, .string sb, .int .i64 z, .int .i64 c, .int .i64 e]) rfl ?_ ?_
  · rintro w' ⟨x, rfl⟩
    simp [go_sem, ↓IntWalk.iteOmega]
  refine wpLex_one rfl rfl (fun K hK => ?_)
  go_simp
  refine (toReader_any _ _ _ _ _ ps _ _ _ _ _ _ _ (by repeat (first | exact hr | apply rd_seq | apply Rd.plus | apply Rd.alloc | apply Rd.drew | apply Rd.drewN | refine rd_patch1 ?_ _ _ (by omega) | refine rd_patch2 ?_ _ _ hal (by omega))) hn2).mono ?_
  rintro E w' ⟨aY, cY, rfl, hY, xY, rfl⟩
  try simp only [plus_plus] at hY
  have HYr := Lib.hid hY.rd
  clear hY
  refine hK _ _ ⟨xY, by simp only [plus_plus]; rfl⟩ ?_
  clear hK K
  refine wpLex_one rfl rfl (fun K hK => ?_)
  go_simp
  refine (eqReader_yes _ _ _ _ _ ps _ _ _ _ _ _ _ _ _ (by repeat (first | exact HXr.out | apply rd_seq | apply Rd.plus | apply Rd.alloc | apply Rd.drew | apply Rd.drewN | refine rd_patch1 ?_ _ _ (by omega) | refine rd_patch2 ?_ _ _ hal (by omega))) (by repeat (first | exact HYr.out | apply rd_seq | apply Rd.plus | apply Rd.alloc | apply Rd.drew | apply Rd.drewN | refine rd_patch1 ?_ _ _ (by omega) | refine rd_patch2 ?_ _ _ hal (by omega)))).mono ?_
  rintro E w' ⟨rfl, xF, rfl⟩
  refine hK _ _ ⟨xY.seq xF, by simp only [plus_plus, ← Ext.seq_seq]; rfl⟩ ?_
  clear hK K
  refine wpLex_one rfl rfl (fun K hK => ?_)
  go_simp
  refine hK _ _ ⟨xY.seq xF, by simp only [plus_plus, ← Ext.seq_seq]; rfl⟩ ?_
  clear hK K
  refine NoPanic.normal ?_
  go_wp2_with fail
  refine (markReader_own _ _ _ _ _ ps _ _ _ _ _ _ 1 _ (by repeat (first | (with_reducible exact HX.out) | (with_reducible apply own_seq) | (with_reducible apply own_draw) | (with_reducible apply Own.plus) | (with_reducible apply Own.alloc) | (with_reducible apply Own.drew) | (with_reducible apply Own.drewN))) spX hn2 (by omega) (by omega)).mono ?_
  rintro E w2 ⟨rfl, hM, hR2⟩
  have z2 := hR2.size
  simp only [plus_size, seq_sz, drw_sz, World.size_alloc] at z2
  have HW2 := Lib.hid (rd_rng (E := encP) (a := aW) (cap := cW) (xs := qs) (by repeat (first | exact HWr.out | apply rd_seq | apply Rd.plus | apply Rd.alloc | apply Rd.drew | apply Rd.drewN | refine rd_patch1 ?_ _ _ (by omega) | refine rd_patch2 ?_ _ _ hal (by omega))) hR2 (fun A hA _ => .inl (by have := spW A hA; omega)))
  have HG2 := Lib.hid (own_rng (xs := qs) (by repeat (first | (with_reducible exact HG.out) | (with_reducible apply own_seq) | (with_reducible apply own_draw) | (with_reducible apply Own.plus) | (with_reducible apply Own.alloc) | (with_reducible apply Own.drew) | (with_reducible apply Own.drewN))) hR2 (fun A hA => .inr (by have := spG A hA; omega)))
  have HG2r := Lib.hid HG2.out.rd
  have hr2 := rd_rng (E := encP) (a := a) (cap := cap) (xs := ps) (by repeat (first | exact hr | apply rd_seq | apply Rd.plus | apply Rd.alloc | apply Rd.drew | apply Rd.drewN | refine rd_patch1 ?_ _ _ (by omega) | refine rd_patch2 ?_ _ _ hal (by omega))) hR2 (fun A hA hc => .inl (by have := hal A hA hc; omega))
  have e0 : decide ((1 : Int) + 2 * (ps.length : Int) < 0) = false := by simp; omega
  have HB2 := Lib.hid ((show Below w.heap.size w _ from (by repeat (first | exact Below.refl _ _ | refine below_plus ?_ (by first | omega | (simp <;> omega)) _ | refine Below.alloc ?_ (by first | omega | (simp <;> omega)) _ | refine below_patch ?_ (by omega) _ | refine Below.drew ?_))).trans (hR2.below (by omega) (by simp only [plus_size, seq_sz, drw_sz, World.size_alloc]; omega)))
  have rk2 := fun n i => rng_cell hR2 n i
  clear hR2 hM
  go_wp2_with fail
  refine (eqReader_yes _ _ _ _ _ qs _ _ _ _ _ _ _ _ _ (by repeat (first | exact HG2r.out | apply rd_seq | apply Rd.plus | apply Rd.alloc | apply Rd.drew | apply Rd.drewN | refine rd_patch1 ?_ _ _ (by omega) | refine rd_patch2 ?_ _ _ hal (by omega))) (by repeat (first | exact HW2.out | apply rd_seq | apply Rd.plus | apply Rd.alloc | apply Rd.drew | apply Rd.drewN | refine rd_patch1 ?_ _ _ (by omega) | refine rd_patch2 ?_ _ _ hal (by omega)))).mono ?_
  rintro E w' ⟨rfl, xE2, rfl⟩
  go_wp2_with fail
  refine (markReader_own _ _ _ _ _ qs _ _ _ _ _ _ 1 _ (by repeat (first | (with_reducible exact HG2.out) | (with_reducible apply own_seq) | (with_reducible apply own_draw) | (with_reducible apply Own.plus) | (with_reducible apply Own.alloc) | (with_reducible apply Own.drew) | (with_reducible apply Own.drewN))) spG (by omega) (by omega) (by omega)).mono ?_
  rintro E w3 ⟨rfl, hN, hR3⟩
  have z3 := hR3.size
  simp only [plus_size, seq_sz, drw_sz, World.size_alloc] at z3
  have HN := Lib.hid hN
  have HW3 := Lib.hid (rd_rng (E := encP) (a := aW) (cap := cW) (xs := qs) (by repeat (first | exact HW2.out | apply rd_seq | apply Rd.plus | apply Rd.alloc | apply Rd.drew | apply Rd.drewN | refine rd_patch1 ?_ _ _ (by omega) | refine rd_patch2 ?_ _ _ hal (by omega))) hR3 (fun A hA _ => .inl (by have := spW A hA; omega)))
  have hr3 := rd_rng (E := encP) (a := a) (cap := cap) (xs := ps) (by repeat (first | exact hr2 | apply rd_seq | apply Rd.plus | apply Rd.alloc | apply Rd.drew | apply Rd.drewN | refine rd_patch1 ?_ _ _ (by omega) | refine rd_patch2 ?_ _ _ hal (by omega))) hR3 (fun A hA hc => .inl (by have := hal A hA hc; omega))
  have HB3 := Lib.hid ((show Below w.heap.size w _ from (by repeat (first | (with_reducible exact HB2.out) | refine below_plus ?_ (by first | omega | (simp <;> omega)) _ | refine Below.alloc ?_ (by first | omega | (simp <;> omega)) _ | refine below_patch ?_ (by omega) _ | refine Below.drew ?_))).trans (hR3.below (by omega) (by simp only [plus_size, seq_sz, drw_sz, World.size_alloc]; omega)))
  have rk3 := fun n i => rng_cell hR3 n i
  clear hR3 hN
  have e9 : decide ((1 : Int) + 2 * (qs.length : Int) < 0) = false := by simp; omega
  have e8 : ((1 : Int) + 2 * (qs.length : Int) != 1 + 2 * (qs.length : Int)) = false := by simp
  go_wp2_with fail
  refine (heldReader_yes _ _ _ _ _ qs.length _ _ _ _ _ _ 1 _ (by repeat (first | exact HN.out | apply rd_seq | apply Rd.plus | apply Rd.alloc | apply Rd.drew | apply Rd.drewN | refine rd_patch1 ?_ _ _ (by omega) | refine rd_patch2 ?_ _ _ hal (by omega))) (by omega) (by omega) (by omega)).mono ?_
  rintro E w' ⟨rfl, xH, rfl⟩
  go_wp2_with fail
  refine (toReader_any _ _ _ _ _ ps _ _ _ _ _ _ _ (by repeat (first | exact hr3 | apply rd_seq | apply Rd.plus | apply Rd.alloc | apply Rd.drew | apply Rd.drewN | refine rd_patch1 ?_ _ _ (by omega) | refine rd_patch2 ?_ _ _ hal (by omega))) hn2).mono ?_
  rintro E w' ⟨aZ, cZ, rfl, hZ, xZ, rfl⟩
  try simp only [plus_plus] at hZ
  have HZ := Lib.hid hZ
  have HZr := Lib.hid hZ.rd
  obtain ⟨loZ, hiZ, loZe, hiZe, spZ⟩ := own_span hZ
  simp only [plus_size, seq_sz, drw_sz, World.size_alloc] at loZe hiZe
  clear hZ
  go_wp2_with fail
  refine (HI.out _ _ _ (by repeat (first | exact HZr.out | apply rd_seq | apply Rd.plus | apply Rd.alloc | apply Rd.drew | apply Rd.drewN | refine rd_patch1 ?_ _ _ (by omega) | refine rd_patch2 ?_ _ _ hal (by omega)))).mono ?_
  rintro E w' ⟨aV, cV, rfl, hV, xV, rfl⟩
  try simp only [plus_plus] at hV
  have HV := Lib.hid hV
  have HVr := Lib.hid hV.rd
  obtain ⟨loV, hiV, loVe, hiVe, spV⟩ := own_span hV
  simp only [plus_size, seq_sz, drw_sz, World.size_alloc] at loVe hiVe
  clear hV
  go_wp2_with fail
  refine (eqReader_yes _ _ _ _ _ qs _ _ _ _ _ _ _ _ _ (by repeat (first | exact HVr.out | apply rd_seq | apply Rd.plus | apply Rd.alloc | apply Rd.drew | apply Rd.drewN | refine rd_patch1 ?_ _ _ (by omega) | refine rd_patch2 ?_ _ _ hal (by omega))) (by repeat (first | exact HW3.out | apply rd_seq | apply Rd.plus | apply Rd.alloc | apply Rd.drew | apply Rd.drewN | refine rd_patch1 ?_ _ _ (by omega) | refine rd_patch2 ?_ _ _ hal (by omega)))).mono ?_
  rintro E w' ⟨rfl, xE3, rfl⟩
  go_wp2_with fail
  refine (heldReader_yes _ _ _ _ _ qs.length _ _ _ _ _ _ 1 _ (by repeat (first | exact HN.out | apply rd_seq | apply Rd.plus | apply Rd.alloc | apply Rd.drew | apply Rd.drewN | refine rd_patch1 ?_ _ _ (by omega) | refine rd_patch2 ?_ _ _ hal (by omega))) (by omega) (by omega) (by omega)).mono ?_
  rintro E w' ⟨rfl, xH2, rfl⟩
  go_wp2_with fail
  go_ret
  exact ⟨rfl, (by repeat (first | (with_reducible exact HB3.out) | refine below_plus ?_ (by first | omega | (simp <;> omega)) _ | refine Below.alloc ?_ (by first | omega | (simp <;> omega)) _ | refine below_patch ?_ (by omega) _ | refine Below.drew ?_))⟩

theorem lawReadStream_long1 (o l m : Int) (a : Option Addr) (cap : Nat) (ps : List Pr) (base last : Int) (sb : ByteArray) (z c e : Int) (s1 : ByteArray) (w : World) (hb : 1048576 < s1.size) (hm : ∀ x, x ∈ [s1] → x.size ≤ maxLen) :
    Calls Try.prog 14 #[.agg #[.int .i64 o, .int .i64 l, .int .i64 m, .slice a ps.length cap, .int .i64 base, .int .i64 last, .string sb, .int .i64 z, .int .i64 c, .int .i64 e], .string s1] w fun E w' => E = .returned (.bool true) ∧ Below w.heap.size w w' := by
  have hm1 := hm s1 (by simp)
  unfold maxLen at hm1
  all_goals
    go_enter Try.func14, Try.ntmps14
    go_wp2
    go_ret
    exact ⟨rfl, (by repeat (first | exact Below.refl _ _ | refine below_plus ?_ (by first | omega | (simp <;> omega)) _ | refine Below.alloc ?_ (by first | omega | (simp <;> omega)) _ | refine below_patch ?_ (by omega) _ | refine Below.drew ?_))⟩

theorem lawReadStream_big (o l m : Int) (a : Option Addr) (cap : Nat) (ps : List Pr) (base last : Int) (sb : ByteArray) (z c e : Int) (s1 : ByteArray) (w : World) (hr : RdP w a cap ps) (hb : 1048576 < (ps.length : Int) + sb.size) (hs1 : s1.size ≤ 1048576) (hsz : sb.size ≤ maxLen) :
    Calls Try.prog 14 #[.agg #[.int .i64 o, .int .i64 l, .int .i64 m, .slice a ps.length cap, .int .i64 base, .int .i64 last, .string sb, .int .i64 z, .int .i64 c, .int .i64 e], .string s1] w fun E w' => E = .returned (.bool true) ∧ Below w.heap.size w w' := by
  have h1 := hr.1
  have h2 := hr.2.1
  have c1 : (1048576 : Int) < (ps.length : Int) + sb.size := by omega
  unfold maxLen at hsz
  go_enter Try.func14, Try.ntmps14
  go_wp2_with (go_at_call 49; refine (szReader_no _ _ _ _ _ _ _ _ _ _ _ _ _ _ c1 (by omega) (by omega) (by omega) (by omega)).mono ?_; rintro e w' ⟨rfl, xc, rfl⟩)
  go_ret
  exact ⟨rfl, (by repeat (first | exact Below.refl _ _ | refine below_plus ?_ (by first | omega | (simp <;> omega)) _ | refine Below.alloc ?_ (by first | omega | (simp <;> omega)) _ | refine below_patch ?_ (by omega) _ | refine Below.drew ?_))⟩

theorem lawReadStream_sizes (o l m : Int) (a : Option Addr) (cap : Nat) (ps : List Pr) (base last : Int) (sb : ByteArray) (z c e : Int) (s1 : ByteArray) (w : World) (o1 l1 m1 : Int) (qs : List Pr) (b1 la1 : Int) (sb1 : ByteArray) (z1 cc1 e1 : Int) (r2 : ByteArray) (r3 : Int) (r4 : Bool) (hr : RdP w a cap ps) (hsz : sb.size ≤ maxLen) (hm1 : s1.size ≤ maxLen) (hq : qs.length ≤ 1000000) (hS : ∀ (W : World) (a : Option Addr) (cap : Nat), RdP W a cap ps → Calls Try.prog 50 #[.agg #[.int .i64 o, .int .i64 l, .int .i64 m, .slice a ps.length cap, .int .i64 base, .int .i64 last, .string sb, .int .i64 z, .int .i64 c, .int .i64 e], .string s1] W (RetO W (fun a0 c0 => .tuple #[.agg #[.int .i64 o1, .int .i64 l1, .int .i64 m1, .slice a0 qs.length c0, .int .i64 b1, .int .i64 la1, .string sb1, .int .i64 z1, .int .i64 cc1, .int .i64 e1], .string r2, .int .i64 r3, .bool r4]) qs)) (hI : ∀ (W : World) (a : Option Addr) (cap : Nat), RdP W a cap ps → Calls Try.prog 52 #[.agg #[.int .i64 o, .int .i64 l, .int .i64 m, .slice a ps.length cap, .int .i64 base, .int .i64 last, .string sb, .int .i64 z, .int .i64 c, .int .i64 e], .string s1] W (RetO W (fun a0 c0 => .tuple #[.agg #[.int .i64 o1, .int .i64 l1, .int .i64 m1, .slice a0 qs.length c0, .int .i64 b1, .int .i64 la1, .string sb1, .int .i64 z1, .int .i64 cc1, .int .i64 e1], .string r2, .int .i64 r3, .bool r4]) qs)) :
    Calls Try.prog 14 #[.agg #[.int .i64 o, .int .i64 l, .int .i64 m, .slice a ps.length cap, .int .i64 base, .int .i64 last, .string sb, .int .i64 z, .int .i64 c, .int .i64 e], .string s1] w fun E w' => E = .returned (.bool true) ∧ Below w.heap.size w w' := by
  have hm : ∀ x, x ∈ [s1] → x.size ≤ maxLen := by intro x hx; simp at hx; rw [hx]; exact hm1
  by_cases bs1 : s1.size ≤ 1048576
  case neg => exact lawReadStream_long1 o l m a cap ps base last sb z c e s1 w (by omega) hm
  by_cases bk : (ps.length : Int) + sb.size ≤ 1048576
  case neg => exact lawReadStream_big o l m a cap ps base last sb z c e s1 w hr (by omega) bs1 hsz
  exact lawReadStream_fit o l m a cap ps base last sb z c e s1 w o1 l1 m1 qs b1 la1 sb1 z1 cc1 e1 r2 r3 r4 hr bk bs1 hq hS hI

end Go.Proofs.Ytmenpflcmpihpaa
