/- The law Shared: the walk. -/
import Derived.Test.YtkpmaifdeeecjaaLsw
namespace Go.Proofs.Ytkpmaifdeeecjaa
open Go.RowKit
set_option linter.unusedVariables false
set_option linter.unusedSimpArgs false

set_option maxRecDepth 100000 in
set_option maxHeartbeats 4000000 in
theorem lawShared_of (hdraw : ∀ (a : Option Addr) (cap : Nat) (bs : List UInt8) (w : World), Rd encB w a cap bs → Calls Try.prog 4 #[.slice a bs.length cap] w (RetKK w)) (a : Option Addr) (cap : Nat) (bs : List UInt8) (w : World) (hr : Rd encB w a cap bs) :
    Calls Try.prog 3 #[.slice a bs.length cap] w (fun e w' => e = .returned (.bool true) ∧ Below w.heap.size w w') := by
  have g1 := hr.1
  have g2 := hr.2.1
  have HDW := Lib.hid hdraw
  clear hdraw
  by_cases h1 : bs.length ≤ 1048576
  case neg =>
    go_enter Try.func3, Try.ntmps3
    go_wp2
    go_ret
    exact ⟨rfl, (by repeat (first | exact Below.refl _ _ | refine below_plus ?_ (by first | omega | (simp <;> omega)) _ | refine Below.alloc ?_ (by first | omega | (simp <;> omega)) _ | refine below_patch ?_ (by omega) _ | refine Below.drew ?_))⟩
  go_enter Try.func3, Try.ntmps3
  go_wp2_with fail
  refine (HDW.out a cap bs _ (by repeat (first | exact hr | apply rd_seq | apply Rd.plus | apply Rd.alloc | apply Rd.drew | apply Rd.drewN | refine rd_patch ?_ _ _ (by intro A hA; first | (cases hA; show _ ≠ _; omega) | (have := hal A hA; omega))))).mono ?_
  rintro e w' ⟨o, l, m, pa, pc, ps, base, last, o2, l2, m2, pa2, pc2, qs, base2, last2, rfl, hp, hq, hrd, hrd2, x1, rfl⟩
  have HR1 := Lib.hid (show Rd encP _ pa pc ps from hrd)
  have HR2 := Lib.hid (show Rd encP _ pa2 pc2 qs from hrd2)
  clear hrd hrd2 hr HDW
  by_cases hbad : kvb o l m ps base last = false ∨ kvb o2 l2 m2 qs base2 last2 = false
  · have HI := Lib.hid (fun (W : World) (a : Option Addr) (cap : Nat) (a2 : Option Addr) (cap2 : Nat) (h : RdP W a cap ps) (h2 : RdP W a2 cap2 qs) => implSharedWords_no o l m a cap ps base last o2 l2 m2 a2 cap2 qs base2 last2 W h h2 hbad)
    have HS := Lib.hid (fun (W : World) (a : Option Addr) (cap : Nat) (a2 : Option Addr) (cap2 : Nat) (h : RdP W a cap ps) (h2 : RdP W a2 cap2 qs) => specSharedWords_no o l m a cap ps base last o2 l2 m2 a2 cap2 qs base2 last2 W h h2 hbad)
    have hRz : ([] : List ByteArray).length ≤ 2000000 := by simp
    go_wp2_with fail
    refine (HI.out _ pa pc pa2 pc2 (by (try unfold RdP); repeat (first | (with_reducible exact HR1.out) | (with_reducible apply rd_seq) | (with_reducible apply Rd.plus) | (with_reducible apply Rd.alloc) | (with_reducible apply Rd.drew) | (with_reducible apply Rd.drewN))) (by (try unfold RdP); repeat (first | (with_reducible exact HR2.out) | (with_reducible apply rd_seq) | (with_reducible apply Rd.plus) | (with_reducible apply Rd.alloc) | (with_reducible apply Rd.drew) | (with_reducible apply Rd.drewN)))).mono ?_
    rintro e w' ⟨la, lc, rfl, hown, y1, rfl⟩
    (try simp only [plus_plus] at hown)
    have HL := Lib.hid (show Rd encS _ la lc ([] : List ByteArray) from hown.rd)
    clear hown
    go_wp2_with fail
    refine (HS.out _ pa pc pa2 pc2 (by (try unfold RdP); repeat (first | (with_reducible exact HR1.out) | (with_reducible apply rd_seq) | (with_reducible apply Rd.plus) | (with_reducible apply Rd.alloc) | (with_reducible apply Rd.drew) | (with_reducible apply Rd.drewN))) (by (try unfold RdP); repeat (first | (with_reducible exact HR2.out) | (with_reducible apply rd_seq) | (with_reducible apply Rd.plus) | (with_reducible apply Rd.alloc) | (with_reducible apply Rd.drew) | (with_reducible apply Rd.drewN)))).mono ?_
    rintro e w' ⟨ma, mc, rfl, hown, y2, rfl⟩
    (try simp only [plus_plus] at hown)
    have HM := Lib.hid (show Rd encS _ ma mc ([] : List ByteArray) from hown.rd)
    clear hown
    go_wp2_with fail
    refine (soTexts_yes la ma lc mc ([] : List ByteArray) _ (by unfold RdS; exact (by (try unfold RdP); repeat (first | (with_reducible exact HL.out) | (with_reducible apply rd_seq) | (with_reducible apply Rd.plus) | (with_reducible apply Rd.alloc) | (with_reducible apply Rd.drew) | (with_reducible apply Rd.drewN)))) (by unfold RdS; exact (by (try unfold RdP); repeat (first | (with_reducible exact HM.out) | (with_reducible apply rd_seq) | (with_reducible apply Rd.plus) | (with_reducible apply Rd.alloc) | (with_reducible apply Rd.drew) | (with_reducible apply Rd.drewN)))) hRz).mono ?_
    rintro e w' ⟨rfl, y3, rfl⟩
    go_wp2_with fail
    refine (KnownValid_any o l m pa pc ps base last _ (by (try unfold RdP); repeat (first | (with_reducible exact HR1.out) | (with_reducible apply rd_seq) | (with_reducible apply Rd.plus) | (with_reducible apply Rd.alloc) | (with_reducible apply Rd.drew) | (with_reducible apply Rd.drewN)))).mono ?_
    rintro e w' ⟨rfl, y4, rfl⟩
    cases hk : kvb o l m ps base last
    · clear hbad hk
      go_wp2_with fail
      refine (HS.out _ pa pc pa2 pc2 (by (try unfold RdP); repeat (first | (with_reducible exact HR1.out) | (with_reducible apply rd_seq) | (with_reducible apply Rd.plus) | (with_reducible apply Rd.alloc) | (with_reducible apply Rd.drew) | (with_reducible apply Rd.drewN))) (by (try unfold RdP); repeat (first | (with_reducible exact HR2.out) | (with_reducible apply rd_seq) | (with_reducible apply Rd.plus) | (with_reducible apply Rd.alloc) | (with_reducible apply Rd.drew) | (with_reducible apply Rd.drewN)))).mono ?_
      rintro e w' ⟨na, nc, rfl, hown, y6, rfl⟩
      (try simp only [plus_plus] at hown)
      have HN := Lib.hid (show Rd encS _ na nc ([] : List ByteArray) from hown.rd)
      clear hown
      go_wp2_with fail
      refine (soTexts_yes la na lc nc [] _ (by unfold RdS; exact (by (try unfold RdP); repeat (first | (with_reducible exact HL.out) | (with_reducible apply rd_seq) | (with_reducible apply Rd.plus) | (with_reducible apply Rd.alloc) | (with_reducible apply Rd.drew) | (with_reducible apply Rd.drewN)))) (by unfold RdS; exact (by (try unfold RdP); repeat (first | (with_reducible exact HN.out) | (with_reducible apply rd_seq) | (with_reducible apply Rd.plus) | (with_reducible apply Rd.alloc) | (with_reducible apply Rd.drew) | (with_reducible apply Rd.drewN)))) hRz).mono ?_
      rintro e w' ⟨rfl, y7, rfl⟩
      go_wp2_with fail
      go_ret
      exact ⟨rfl, (by repeat (first | exact Below.refl _ _ | refine below_plus ?_ (by first | omega | (simp <;> omega)) _ | refine Below.alloc ?_ (by first | omega | (simp <;> omega)) _ | refine below_patch ?_ (by omega) _ | refine Below.drew ?_))⟩
    · have hk2 : kvb o2 l2 m2 qs base2 last2 = false := by
        rcases hbad with h | h
        · rw [hk] at h; cases h
        · exact h
      clear hbad hk
      go_wp2_with fail
      refine (KnownValid_any o2 l2 m2 pa2 pc2 qs base2 last2 _ (by (try unfold RdP); repeat (first | (with_reducible exact HR2.out) | (with_reducible apply rd_seq) | (with_reducible apply Rd.plus) | (with_reducible apply Rd.alloc) | (with_reducible apply Rd.drew) | (with_reducible apply Rd.drewN)))).mono ?_
      rintro e w' ⟨rfl, y5, rfl⟩
      rw [hk2]
      clear hk2
      go_wp2_with fail
      refine (HS.out _ pa pc pa2 pc2 (by (try unfold RdP); repeat (first | (with_reducible exact HR1.out) | (with_reducible apply rd_seq) | (with_reducible apply Rd.plus) | (with_reducible apply Rd.alloc) | (with_reducible apply Rd.drew) | (with_reducible apply Rd.drewN))) (by (try unfold RdP); repeat (first | (with_reducible exact HR2.out) | (with_reducible apply rd_seq) | (with_reducible apply Rd.plus) | (with_reducible apply Rd.alloc) | (with_reducible apply Rd.drew) | (with_reducible apply Rd.drewN)))).mono ?_
      rintro e w' ⟨na, nc, rfl, hown, y6, rfl⟩
      (try simp only [plus_plus] at hown)
      have HN := Lib.hid (show Rd encS _ na nc ([] : List ByteArray) from hown.rd)
      clear hown
      go_wp2_with fail
      refine (soTexts_yes la na lc nc [] _ (by unfold RdS; exact (by (try unfold RdP); repeat (first | (with_reducible exact HL.out) | (with_reducible apply rd_seq) | (with_reducible apply Rd.plus) | (with_reducible apply Rd.alloc) | (with_reducible apply Rd.drew) | (with_reducible apply Rd.drewN)))) (by unfold RdS; exact (by (try unfold RdP); repeat (first | (with_reducible exact HN.out) | (with_reducible apply rd_seq) | (with_reducible apply Rd.plus) | (with_reducible apply Rd.alloc) | (with_reducible apply Rd.drew) | (with_reducible apply Rd.drewN)))) hRz).mono ?_
      rintro e w' ⟨rfl, y7, rfl⟩
      go_wp2_with fail
      go_ret
      exact ⟨rfl, (by repeat (first | exact Below.refl _ _ | refine below_plus ?_ (by first | omega | (simp <;> omega)) _ | refine Below.alloc ?_ (by first | omega | (simp <;> omega)) _ | refine below_patch ?_ (by omega) _ | refine Below.drew ?_))⟩
  have hk : kvb o l m ps base last = true := by
    cases h : kvb o l m ps base last
    · exact absurd (.inl h) hbad
    · rfl
  have hk2 : kvb o2 l2 m2 qs base2 last2 = true := by
    cases h : kvb o2 l2 m2 qs base2 last2
    · exact absurd (.inr h) hbad
    · rfl
  obtain ⟨xs, hxs⟩ : ∃ xs, wordsL l ps = xs := ⟨_, rfl⟩
  obtain ⟨ys, hys⟩ : ∃ ys, wordsL l2 qs = ys := ⟨_, rfl⟩
  obtain ⟨R, hR⟩ : ∃ R, shrL ys xs [] = R := ⟨_, rfl⟩
  have HI := Lib.hid (fun (W : World) (a : Option Addr) (cap : Nat) (a2 : Option Addr) (cap2 : Nat) (h : RdP W a cap ps) (h2 : RdP W a2 cap2 qs) => implSharedWords_yes o l m a cap ps base last o2 l2 m2 a2 cap2 qs base2 last2 W h h2 hk hk2 R (by rw [hxs, hys]; exact hR))
  have HS := Lib.hid (fun (W : World) (a : Option Addr) (cap : Nat) (a2 : Option Addr) (cap2 : Nat) (h : RdP W a cap ps) (h2 : RdP W a2 cap2 qs) => specSharedWords_yes o l m a cap ps base last o2 l2 m2 a2 cap2 qs base2 last2 W h h2 hk hk2 R (by rw [hxs, hys]; exact hR))
  have HO := Lib.hid (fun (W : World) (a : Option Addr) (cap : Nat) (a2 : Option Addr) (cap2 : Nat) (h : RdP W a cap ps) (h2 : RdP W a2 cap2 qs) => implSharedWords_yes o2 l2 m2 a2 cap2 qs base2 last2 o l m a cap ps base last W h2 h hk2 hk (shrL xs ys []) (by rw [hxs, hys]))
  have HA := Lib.hid (fun (W : World) (a : Option Addr) (cap : Nat) (h : RdP W a cap ps) => implSharedWords_yes o l m a cap ps base last o l m a cap ps base last W h h hk hk (shrL xs xs []) (by rw [hxs]))
  have HK1 := Lib.hid (fun (W : World) (a : Option Addr) (cap : Nat) (h : RdP W a cap ps) => implKnownWords_yes o l m a cap ps base last W h hk)
  have HK2 := Lib.hid (fun (W : World) (a : Option Addr) (cap : Nat) (h : RdP W a cap qs) => implKnownWords_yes o2 l2 m2 a cap qs base2 last2 W h hk2)
  rw [hxs] at HK1
  rw [hys] at HK2
  have hxl : xs.length = ps.length := by rw [← hxs]; exact wordsL_len _ _
  have hyl : ys.length = qs.length := by rw [← hys]; exact wordsL_len _ _
  have hRl := shr_len ys xs []
  rw [hR] at hRl
  have hRz : R.length ≤ 2000000 := by simp at hRl; omega
  have hmem : ∀ x ∈ xs, hasB R x = hasB ys x := fun x hx => by rw [← hR]; exact shr_has1 hx
  have hmx : ∀ x ∈ R, hasB xs x = true ∧ hasB (shrL xs ys []) x = true := fun x hx => by rw [← hR] at hx; exact shr_has2 hx
  have hsy : (shrL xs ys []).length = R.length := by rw [← hR]; exact shr_sym xs ys
  have haa := shr_len xs xs []
  obtain ⟨R2, hR2⟩ : ∃ R2, shrL xs ys [] = R2 := ⟨_, rfl⟩
  obtain ⟨R3, hR3⟩ : ∃ R2, shrL xs xs [] = R2 := ⟨_, rfl⟩
  rw [hR2] at HO hmx hsy
  rw [hR3] at HA haa
  have HMEM := Lib.hid hmem
  have HMX := Lib.hid hmx
  have v8 : ((R2.length : Int) == (R.length : Int)) = true := by rw [hsy]; simp
  have v9 : decide (R3.length ≤ xs.length) = true := decide_eq_true (by simp at haa; omega)
  have hxb : xs.length ≤ 3000 := by omega
  have hRb : R.length ≤ 3000 := by simp at hRl; omega
  have HKA := Lib.hid hk
  have HKB := Lib.hid hk2
  clear hbad hxs hys hR hR2 hR3 hmem hmx hRl haa hsy hk hk2 hxl hyl
  go_wp2_with fail
  refine (HI.out _ pa pc pa2 pc2 (by (try unfold RdP); repeat (first | (with_reducible exact HR1.out) | (with_reducible apply rd_seq) | (with_reducible apply Rd.plus) | (with_reducible apply Rd.alloc) | (with_reducible apply Rd.drew) | (with_reducible apply Rd.drewN))) (by (try unfold RdP); repeat (first | (with_reducible exact HR2.out) | (with_reducible apply rd_seq) | (with_reducible apply Rd.plus) | (with_reducible apply Rd.alloc) | (with_reducible apply Rd.drew) | (with_reducible apply Rd.drewN)))).mono ?_
  rintro e w' ⟨la, lc, rfl, hown, y1, rfl⟩
  (try simp only [plus_plus] at hown)
  have HL := Lib.hid (show Rd encS _ la lc R from hown.rd)
  clear hown
  go_wp2_with fail
  refine (HS.out _ pa pc pa2 pc2 (by (try unfold RdP); repeat (first | (with_reducible exact HR1.out) | (with_reducible apply rd_seq) | (with_reducible apply Rd.plus) | (with_reducible apply Rd.alloc) | (with_reducible apply Rd.drew) | (with_reducible apply Rd.drewN))) (by (try unfold RdP); repeat (first | (with_reducible exact HR2.out) | (with_reducible apply rd_seq) | (with_reducible apply Rd.plus) | (with_reducible apply Rd.alloc) | (with_reducible apply Rd.drew) | (with_reducible apply Rd.drewN)))).mono ?_
  rintro e w' ⟨ma, mc, rfl, hown, y2, rfl⟩
  (try simp only [plus_plus] at hown)
  have HM := Lib.hid (show Rd encS _ ma mc R from hown.rd)
  clear hown
  go_wp2_with fail
  refine (soTexts_yes la ma lc mc R _ (by unfold RdS; exact (by (try unfold RdP); repeat (first | (with_reducible exact HL.out) | (with_reducible apply rd_seq) | (with_reducible apply Rd.plus) | (with_reducible apply Rd.alloc) | (with_reducible apply Rd.drew) | (with_reducible apply Rd.drewN)))) (by unfold RdS; exact (by (try unfold RdP); repeat (first | (with_reducible exact HM.out) | (with_reducible apply rd_seq) | (with_reducible apply Rd.plus) | (with_reducible apply Rd.alloc) | (with_reducible apply Rd.drew) | (with_reducible apply Rd.drewN)))) hRz).mono ?_
  rintro e w' ⟨rfl, y3, rfl⟩
  go_wp2_with fail
  refine (KnownValid_any o l m pa pc ps base last _ (by (try unfold RdP); repeat (first | (with_reducible exact HR1.out) | (with_reducible apply rd_seq) | (with_reducible apply Rd.plus) | (with_reducible apply Rd.alloc) | (with_reducible apply Rd.drew) | (with_reducible apply Rd.drewN)))).mono ?_
  rintro e w' ⟨rfl, y4, rfl⟩
  rw [HKA.out]
  go_wp2_with fail
  refine (KnownValid_any o2 l2 m2 pa2 pc2 qs base2 last2 _ (by (try unfold RdP); repeat (first | (with_reducible exact HR2.out) | (with_reducible apply rd_seq) | (with_reducible apply Rd.plus) | (with_reducible apply Rd.alloc) | (with_reducible apply Rd.drew) | (with_reducible apply Rd.drewN)))).mono ?_
  rintro e w' ⟨rfl, y5, rfl⟩
  rw [HKB.out]
  go_wp2_with fail
  refine (HK1.out _ pa pc (by (try unfold RdP); repeat (first | (with_reducible exact HR1.out) | (with_reducible apply rd_seq) | (with_reducible apply Rd.plus) | (with_reducible apply Rd.alloc) | (with_reducible apply Rd.drew) | (with_reducible apply Rd.drewN)))).mono ?_
  rintro e w' ⟨xa, xc, rfl, hown, y6, rfl⟩
  (try simp only [plus_plus] at hown)
  have HX := Lib.hid (show Rd encS _ xa xc xs from hown.rd)
  clear hown
  go_wp2_with fail
  refine (HK2.out _ pa2 pc2 (by (try unfold RdP); repeat (first | (with_reducible exact HR2.out) | (with_reducible apply rd_seq) | (with_reducible apply Rd.plus) | (with_reducible apply Rd.alloc) | (with_reducible apply Rd.drew) | (with_reducible apply Rd.drewN)))).mono ?_
  rintro e w' ⟨ya, yc, rfl, hown, y7, rfl⟩
  (try simp only [plus_plus] at hown)
  have HY := Lib.hid (show Rd encS _ ya yc ys from hown.rd)
  clear hown
  go_wp2_with fail
  refine wp_nm (fun X => X.heap[w.heap.size + x1.n]? = some (.cells #[.int .i64 o, .int .i64 l, .int .i64 m, .slice pa ps.length pc, .int .i64 base, .int .i64 last] 27 (0, 0)) ∧ X.heap[w.heap.size + x1.n + 1]? = some (.cells #[.int .i64 o2, .int .i64 l2, .int .i64 m2, .slice pa2 qs.length pc2, .int .i64 base2, .int .i64 last2] 27 (0, 0)) ∧ Rd encP X pa pc ps ∧ Rd encP X pa2 pc2 qs ∧ Rd encS X la lc R ∧ Rd encS X xa xc xs ∧ Rd encS X ya yc ys ∧ Below w.heap.size w X ∧ w.heap.size ≤ X.heap.size) ⟨(by repeat (first | (with_reducible exact push_new _ _ _ rfl) | (with_reducible exact push_new _ _ _ (by simp)) | (with_reducible apply blk_plus) | (with_reducible apply blk_alloc) | (with_reducible apply blk_drew) | (with_reducible refine blk_patch ?_ (by omega)))), (by repeat (first | (with_reducible exact push_new _ _ _ rfl) | (with_reducible exact push_new _ _ _ (by simp)) | (with_reducible apply blk_plus) | (with_reducible apply blk_alloc) | (with_reducible apply blk_drew) | (with_reducible refine blk_patch ?_ (by omega)))), (by (try unfold RdP); repeat (first | (with_reducible exact HR1.out) | (with_reducible apply rd_seq) | (with_reducible apply Rd.plus) | (with_reducible apply Rd.alloc) | (with_reducible apply Rd.drew) | (with_reducible apply Rd.drewN))), (by (try unfold RdP); repeat (first | (with_reducible exact HR2.out) | (with_reducible apply rd_seq) | (with_reducible apply Rd.plus) | (with_reducible apply Rd.alloc) | (with_reducible apply Rd.drew) | (with_reducible apply Rd.drewN))), (by (try unfold RdP); repeat (first | (with_reducible exact HL.out) | (with_reducible apply rd_seq) | (with_reducible apply Rd.plus) | (with_reducible apply Rd.alloc) | (with_reducible apply Rd.drew) | (with_reducible apply Rd.drewN))), (by (try unfold RdP); repeat (first | (with_reducible exact HX.out) | (with_reducible apply rd_seq) | (with_reducible apply Rd.plus) | (with_reducible apply Rd.alloc) | (with_reducible apply Rd.drew) | (with_reducible apply Rd.drewN))), (by (try unfold RdP); repeat (first | (with_reducible exact HY.out) | (with_reducible apply rd_seq) | (with_reducible apply Rd.plus) | (with_reducible apply Rd.alloc) | (with_reducible apply Rd.drew) | (with_reducible apply Rd.drewN))), (by repeat (first | exact Below.refl _ _ | refine below_plus ?_ (by first | omega | (simp <;> omega)) _ | refine Below.alloc ?_ (by first | omega | (simp <;> omega)) _ | refine below_patch ?_ (by omega) _ | refine Below.drew ?_)), (by simp; omega)⟩ ?_
  generalize w.heap.size + x1.n + 1 = D4
  generalize w.heap.size + x1.n = D3
  intro X hX
  clear HR1 HR2 HL HX HY HM HI HS HK1 HK2
  have H3 := Lib.hid hX.1
  have H4 := Lib.hid hX.2.1
  have HR1 := Lib.hid hX.2.2.1
  have HR2 := Lib.hid hX.2.2.2.1
  have HL := Lib.hid hX.2.2.2.2.1
  have HX := Lib.hid hX.2.2.2.2.2.1
  have HY := Lib.hid hX.2.2.2.2.2.2.1
  have hbel := hX.2.2.2.2.2.2.2.1
  have hwX := hX.2.2.2.2.2.2.2.2
  have r3 := cell_of hX.1
  have r4 := cell_of hX.2.1
  have z3 := (Array.getElem?_eq_some_iff.1 hX.1).1
  have z4 := (Array.getElem?_eq_some_iff.1 hX.2.1).1
  clear hX
  go_loopw [8] (fun i wr => ∃ (k : Nat), k ≤ xs.length ∧ i = .int .i64 k ∧ More X wr) (fun i _ => xs.length - (intOf i).toNat)
  case atStart => exact ⟨0, Nat.zero_le _, rfl, More.refl _⟩
  case round =>
    obtain ⟨k, hk, rfl, z, rfl⟩ := hrel
    rcases dec (k < xs.length) with ⟨hlt, blt⟩ | ⟨hlt, blt⟩
    · obtain ⟨x, hx⟩ : ∃ p, xs[k]? = some p := ⟨xs[k], List.getElem?_eq_getElem hlt⟩
      obtain ⟨sb0, so0, rfl⟩ := txt_some HX.out (by omega)
      have HE := Lib.hid (HMEM.out x (List.mem_of_getElem? hx))
      have v1 : (hasB ys x != hasB ys x) = false := by simp
      have hk0 : (0 : Int) ≤ (k : Int) := by omega
      have hk3 : (k : Int) < (xs.length : Int) := by omega
      go_wp2_with fail
      refine wp_region_pu 11 (fun w' => Rd encS w' (some ⟨sb0, so0, none⟩) xc xs) (Plan.quiet 0 (Plan.quiet 1 (Plan.quiet 2 (Plan.quiet 3 (Plan.quiet 4 (Plan.quiet 6 (Plan.quiet 7 (Plan.quiet 8 (Plan.quiet 9 (Plan.quiet 10 (Plan.one 5 (Plan.one 11 (Plan.one 12 Plan.done))))))))))))) (by kernel_rfl) (by kernel_rfl) (Rd.drew (Rd.plus HX.out _)) ?_
      refine wpPt_val rfl rfl ?_
      apply Exists.intro
      refine ⟨fun w' hS => ?_, ?_⟩
      focus (have cS := txt_cell hS hx; simp [go_sem, ↓IntWalk.iteOmega, cS, hk0, hk3] <;> first | done | exact rfl | (rw [IntWalk.i64_in _ (by omega)]; exact rfl) | trace_state)
      refine wpPt_val rfl rfl ?_
      apply Exists.intro
      refine ⟨fun w' hS => ?_, ?_⟩
      focus (have cS := txt_cell hS hx; simp [go_sem, ↓IntWalk.iteOmega, cS, hk0, hk3] <;> first | done | exact rfl | (rw [IntWalk.i64_in _ (by omega)]; exact rfl) | trace_state)
      refine wpPt_val rfl rfl ?_
      apply Exists.intro
      refine ⟨fun w' hS => ?_, ?_⟩
      focus (have cS := txt_cell hS hx; simp [go_sem, ↓IntWalk.iteOmega, cS, hk0, hk3] <;> first | done | exact rfl | (rw [IntWalk.i64_in _ (by omega)]; exact rfl) | trace_state)
      refine wpPt_val rfl rfl ?_
      apply Exists.intro
      refine ⟨fun w' hS => ?_, ?_⟩
      focus (have cS := txt_cell hS hx; simp [go_sem, ↓IntWalk.iteOmega, cS, hk0, hk3] <;> first | done | exact rfl | (rw [IntWalk.i64_in _ (by omega)]; exact rfl) | trace_state)
      refine wpPt_val rfl rfl ?_
      apply Exists.intro
      refine ⟨fun w' hS => ?_, ?_⟩
      focus (have cS := txt_cell hS hx; simp [go_sem, ↓IntWalk.iteOmega, cS, hk0, hk3] <;> first | done | exact rfl | (rw [IntWalk.i64_in _ (by omega)]; exact rfl) | trace_state)
      refine wpPt_val rfl rfl ?_
      apply Exists.intro
      refine ⟨fun w' hS => ?_, ?_⟩
      focus (have cS := txt_cell hS hx; simp [go_sem, ↓IntWalk.iteOmega, cS, hk0, hk3] <;> first | done | exact rfl | (rw [IntWalk.i64_in _ (by omega)]; exact rfl) | trace_state)
      refine wpPt_val rfl rfl ?_
      apply Exists.intro
      refine ⟨fun w' hS => ?_, ?_⟩
      focus (have cS := txt_cell hS hx; simp [go_sem, ↓IntWalk.iteOmega, cS, hk0, hk3] <;> first | done | exact rfl | (rw [IntWalk.i64_in _ (by omega)]; exact rfl) | trace_state)
      refine wpPt_val rfl rfl ?_
      apply Exists.intro
      refine ⟨fun w' hS => ?_, ?_⟩
      focus (have cS := txt_cell hS hx; simp [go_sem, ↓IntWalk.iteOmega, cS, hk0, hk3] <;> first | done | exact rfl | (rw [IntWalk.i64_in _ (by omega)]; exact rfl) | trace_state)
      refine wpPt_val rfl rfl ?_
      apply Exists.intro
      refine ⟨fun w' hS => ?_, ?_⟩
      focus (have cS := txt_cell hS hx; simp [go_sem, ↓IntWalk.iteOmega, cS, hk0, hk3] <;> first | done | exact rfl | (rw [IntWalk.i64_in _ (by omega)]; exact rfl) | trace_state)
      refine wpPt_val rfl rfl ?_
      apply Exists.intro
      refine ⟨fun w' hS => ?_, ?_⟩
      focus (have cS := txt_cell hS hx; simp [go_sem, ↓IntWalk.iteOmega, cS, hk0, hk3] <;> first | done | exact rfl | (rw [IntWalk.i64_in _ (by omega)]; exact rfl) | trace_state)
      refine wpPt_one rfl rfl (fun K hK => ?_)
      go_simp
      refine (soHas_any la lc R x _ (by (try unfold RdP); repeat (first | (with_reducible exact HL.out) | (with_reducible apply rd_seq) | (with_reducible apply Rd.plus) | (with_reducible apply Rd.alloc) | (with_reducible apply Rd.drew) | (with_reducible apply Rd.drewN)))).mono ?_
      rintro e w' ⟨rfl, z1, rfl⟩
      rw [HE.out]
      refine hK _ _ (fun hkn => (by repeat (first | (with_reducible exact HX.out) | apply Rd.plus | apply Rd.drew | apply Rd.alloc))) ?_
      clear hK K
      refine wpPt_one rfl rfl (fun K hK => ?_)
      go_simp
      refine (soHas_any ya yc ys x _ (by (try unfold RdP); repeat (first | (with_reducible exact HY.out) | (with_reducible apply rd_seq) | (with_reducible apply Rd.plus) | (with_reducible apply Rd.alloc) | (with_reducible apply Rd.drew) | (with_reducible apply Rd.drewN)))).mono ?_
      rintro e w' ⟨rfl, z2, rfl⟩
      refine hK _ _ (fun hkn => absurd hkn (by decide)) ?_
      clear hK K
      refine wpPt_one rfl rfl (fun K hK => ?_)
      go_simp
      refine hK _ _ (fun hkn => absurd hkn (by decide)) ?_
      clear hK K
      refine NoPanic.normal ?_
      go_wp2_with fail
      go_roundw
      case rel => exact ⟨k + 1, by omega, by go_num, (by repeat (first | exact More.refl _ | apply More.plus | apply More.alloc | apply More.drew | apply More.drewN))⟩
      case measure => simp [intOf]; omega
    · obtain rfl : k = xs.length := by omega
      go_wp2_with fail
      refine (HO.out _ pa pc pa2 pc2 (by (try unfold RdP); repeat (first | (with_reducible exact HR1.out) | (with_reducible apply rd_seq) | (with_reducible apply Rd.plus) | (with_reducible apply Rd.alloc) | (with_reducible apply Rd.drew) | (with_reducible apply Rd.drewN))) (by (try unfold RdP); repeat (first | (with_reducible exact HR2.out) | (with_reducible apply rd_seq) | (with_reducible apply Rd.plus) | (with_reducible apply Rd.alloc) | (with_reducible apply Rd.drew) | (with_reducible apply Rd.drewN)))).mono ?_
      rintro e w' ⟨oa, oc, rfl, hown, z1, rfl⟩
      (try simp only [plus_plus] at hown)
      have HP := Lib.hid (show Rd encS _ oa oc R2 from hown.rd)
      clear hown
      go_wp2_with fail
      refine wp_nm (fun W => W.heap[D3]? = some (.cells #[.int .i64 o, .int .i64 l, .int .i64 m, .slice pa ps.length pc, .int .i64 base, .int .i64 last] 27 (0, 0)) ∧ Rd encP W pa pc ps ∧ Rd encS W la lc R ∧ Rd encS W xa xc xs ∧ Rd encS W oa oc R2 ∧ Below w.heap.size w W ∧ w.heap.size ≤ W.heap.size) ⟨(by repeat (first | (with_reducible exact H3.out) | apply blk_plus)), (by (try unfold RdP); repeat (first | (with_reducible exact HR1.out) | (with_reducible apply rd_seq) | (with_reducible apply Rd.plus) | (with_reducible apply Rd.alloc) | (with_reducible apply Rd.drew) | (with_reducible apply Rd.drewN))), (by (try unfold RdP); repeat (first | (with_reducible exact HL.out) | (with_reducible apply rd_seq) | (with_reducible apply Rd.plus) | (with_reducible apply Rd.alloc) | (with_reducible apply Rd.drew) | (with_reducible apply Rd.drewN))), (by (try unfold RdP); repeat (first | (with_reducible exact HX.out) | (with_reducible apply rd_seq) | (with_reducible apply Rd.plus) | (with_reducible apply Rd.alloc) | (with_reducible apply Rd.drew) | (with_reducible apply Rd.drewN))), (by (try unfold RdP); repeat (first | (with_reducible exact HP.out) | (with_reducible apply rd_seq) | (with_reducible apply Rd.plus) | (with_reducible apply Rd.alloc) | (with_reducible apply Rd.drew) | (with_reducible apply Rd.drewN))), (by repeat (first | (with_reducible exact hbel) | refine below_plus ?_ (by first | omega | (simp <;> omega)) _ | refine Below.alloc ?_ (by first | omega | (simp <;> omega)) _ | refine below_patch ?_ (by omega) _ | refine Below.drew ?_)), (by simp; omega)⟩ ?_
      intro W hW
      clear H3 H4 HR1 HR2 HL HX HY HP hbel hwX r3 r4 z3 z4
      have HR1 := Lib.hid hW.2.1
      have HL := Lib.hid hW.2.2.1
      have HX := Lib.hid hW.2.2.2.1
      have HP := Lib.hid hW.2.2.2.2.1
      have hbel := hW.2.2.2.2.2.1
      have hwX := hW.2.2.2.2.2.2
      have r3 := cell_of hW.1
      have z3 := (Array.getElem?_eq_some_iff.1 hW.1).1
      clear hW
      go_loopw [10] (fun i wr => ∃ (k : Nat), k ≤ R.length ∧ i = .int .i64 k ∧ More W wr) (fun i _ => R.length - (intOf i).toNat)
      case atStart => exact ⟨0, Nat.zero_le _, rfl, More.refl _⟩
      case round =>
        obtain ⟨j, hj, rfl, y, rfl⟩ := hrel
        rcases dec (j < R.length) with ⟨hlt2, blt2⟩ | ⟨hlt2, blt2⟩
        · obtain ⟨x, hx⟩ : ∃ p, R[j]? = some p := ⟨R[j], List.getElem?_eq_getElem hlt2⟩
          obtain ⟨sb0, so0, rfl⟩ := txt_some HL.out (by omega)
          have HE := Lib.hid (HMX.out x (List.mem_of_getElem? hx))
          have cS := txt_cell (Rd.plus HL.out y) hx
          have hk0 : (0 : Int) ≤ (j : Int) := by omega
          have hk3 : (j : Int) < (R.length : Int) := by omega
          go_wp2_with fail
          refine (soHas_any xa xc xs x _ (by (try unfold RdP); repeat (first | (with_reducible exact HX.out) | (with_reducible apply rd_seq) | (with_reducible apply Rd.plus) | (with_reducible apply Rd.alloc) | (with_reducible apply Rd.drew) | (with_reducible apply Rd.drewN)))).mono ?_
          rintro e w' ⟨rfl, y1, rfl⟩
          rw [HE.out.1]
          have cS2 := txt_cell (Rd.plus (Rd.plus HL.out y) y1) hx
          (try simp only [plus_plus] at cS2)
          go_wp2_with fail
          refine (soHas_any oa oc R2 x _ (by (try unfold RdP); repeat (first | (with_reducible exact HP.out) | (with_reducible apply rd_seq) | (with_reducible apply Rd.plus) | (with_reducible apply Rd.alloc) | (with_reducible apply Rd.drew) | (with_reducible apply Rd.drewN)))).mono ?_
          rintro e w' ⟨rfl, y2, rfl⟩
          rw [HE.out.2]
          go_wp2_with fail
          go_roundw
          case rel => exact ⟨j + 1, by omega, by go_num, (by repeat (first | exact More.refl _ | apply More.plus | apply More.alloc | apply More.drew | apply More.drewN))⟩
          case measure => simp [intOf]; omega
        · obtain rfl : j = R.length := by omega
          go_wp2_with fail
          refine (HA.out _ pa pc (by (try unfold RdP); repeat (first | (with_reducible exact HR1.out) | (with_reducible apply rd_seq) | (with_reducible apply Rd.plus) | (with_reducible apply Rd.alloc) | (with_reducible apply Rd.drew) | (with_reducible apply Rd.drewN)))).mono ?_
          rintro e w' ⟨ca, cc, rfl, hown, y3, rfl⟩
          clear hown
          go_wp2_with fail
          go_ret
          exact ⟨rfl, (by repeat (first | (with_reducible exact hbel) | refine below_plus ?_ (by first | omega | (simp <;> omega)) _ | refine Below.alloc ?_ (by first | omega | (simp <;> omega)) _ | refine below_patch ?_ (by omega) _ | refine Below.drew ?_))⟩

end Go.Proofs.Ytkpmaifdeeecjaa
