/- The law CodeOfWord: the walk. -/
import Derived.Test.YtlihhlihcjncoaaDrk
import Derived.Test.YtlihhlihcjncoaaWof
namespace Go.Proofs.Ytlihhlihcjncoaa
open Go.RowKit
set_option linter.unusedVariables false
set_option linter.unusedSimpArgs false

set_option maxRecDepth 100000 in
set_option maxHeartbeats 4000000 in
theorem lawCodeOfWord2_any (a : Option Addr) (cap : Nat) (bs : List UInt8) (w : World) (hr : Rd encB w a cap bs) :
    Calls Try.prog 4 #[.slice a bs.length cap] w (fun e w' => e = .returned (.bool true) ∧ Below w.heap.size w w') := by
  have g1 := hr.1
  have g2 := hr.2.1
  by_cases h1 : bs.length ≤ 1048576
  case neg =>
    go_enter Try.func4, Try.ntmps4
    go_wp2
    go_ret
    exact ⟨rfl, (by repeat (first | exact Below.refl _ _ | refine below_plus ?_ (by first | omega | (simp <;> omega)) _ | refine Below.alloc ?_ (by first | omega | (simp <;> omega)) _ | refine below_patch ?_ (by omega) _ | refine Below.drew ?_))⟩
  go_enter Try.func4, Try.ntmps4
  go_wp2_with fail
  refine (DrawCodeOfWord_any a cap bs _ (by repeat (first | exact hr | apply rd_seq | apply Rd.plus | apply Rd.alloc | apply Rd.drew | apply Rd.drewN | refine rd_patch ?_ _ _ (by intro A hA; first | (cases hA; show _ ≠ _; omega) | (have := hal A hA; omega))))).mono ?_
  rintro e w' ⟨o, l, m, pa, pc, ps, base, last, s, rfl, hl3, hs5, hrd, x1, rfl⟩
  have hm : s.size ≤ maxLen := by unfold maxLen; omega
  have HR := Lib.hid (show Rd encP _ pa pc ps from hrd)
  clear hrd
  cases hk : kvb o l m ps base last
  · have HK := Lib.hid hk
    have HI := Lib.hid (fun (W : World) (h : RdP W pa pc ps) => implCodeOfWord_no o l m pa pc ps base last s W h hk)
    have HS := Lib.hid (fun (W : World) (h : RdP W pa pc ps) => specCodeOfWord_no o l m pa pc ps base last s W h hk)
    rw [codeV_no] at HI
    (try rw [codeV_no] at HS)
    clear hk
    go_wp2_with fail
    refine (HI.out _ (by (try unfold RdP); repeat (first | (with_reducible exact HR.out) | (with_reducible apply rd_seq) | (with_reducible apply Rd.plus) | (with_reducible apply Rd.alloc) | (with_reducible apply Rd.drew) | (with_reducible apply Rd.drewN)))).mono ?_
    rintro e w' ⟨rfl, y1, rfl⟩
    go_wp2_with fail
    refine (HS.out _ (by (try unfold RdP); repeat (first | (with_reducible exact HR.out) | (with_reducible apply rd_seq) | (with_reducible apply Rd.plus) | (with_reducible apply Rd.alloc) | (with_reducible apply Rd.drew) | (with_reducible apply Rd.drewN)))).mono ?_
    rintro e w' ⟨rfl, y2, rfl⟩
    go_wp2_with fail
    refine (KnownValid_any o l m pa pc ps base last _ (by (try unfold RdP); repeat (first | (with_reducible exact HR.out) | (with_reducible apply rd_seq) | (with_reducible apply Rd.plus) | (with_reducible apply Rd.alloc) | (with_reducible apply Rd.drew) | (with_reducible apply Rd.drewN)))).mono ?_
    rintro e w' ⟨rfl, y3, rfl⟩
    rw [HK.out]
    go_wp2_with fail
    go_ret
    exact ⟨rfl, (by repeat (first | exact Below.refl _ _ | refine below_plus ?_ (by first | omega | (simp <;> omega)) _ | refine Below.alloc ?_ (by first | omega | (simp <;> omega)) _ | refine below_patch ?_ (by omega) _ | refine Below.drew ?_))⟩
  have hkv := kvb_iff.1 hk
  obtain ⟨_, _, _, _, t1, t2, t4, _⟩ := hkv.lim.bds
  obtain ⟨c, hc⟩ := fnd_ex l m ps last s.data.toList t1
  have HK := Lib.hid hk
  have HC := Lib.hid hc
  have HI := Lib.hid (fun (W : World) (h : RdP W pa pc ps) => implCodeOfWord_yes o l m pa pc ps base last s W h hk hm c hc)
  have HS := Lib.hid (fun (W : World) (h : RdP W pa pc ps) => specCodeOfWord_yes o l m pa pc ps base last s W h hk hm c hc)
  have hg1 := gt_bd hkv.lim
  have hg0 : two l ≤ gt l m ps.length last := by unfold gt nw; split <;> omega
  have hc0 : Okc l m ps.length last c → 0 ≤ c := fun h => h.nonneg t1
  have hc1 : c ≤ gt l m ps.length last := by
    rcases hc with ⟨h, _⟩ | ⟨h, _⟩
    · omega
    · exact okc_le h t1
  have hcm : c = -1 ∨ 0 ≤ c := by
    rcases hc with ⟨h, _⟩ | ⟨h, _⟩
    · exact .inl h
    · exact .inr (hc0 h)
  obtain ⟨dd, hdd⟩ : ∃ f : Int → Bool, ∀ k, f k = decide (0 ≤ c ∧ c < k) := ⟨_, fun _ => rfl⟩
  have HDD := Lib.hid hdd
  clear hdd
  rcases hcm with hneg | hpos
  · have HEND := Lib.hid (fun (k : Int) (_ : gt l m ps.length last + 1 ≤ k) => show dd k = false by rw [HDD.out]; exact decide_eq_false (by omega))
    rw [hneg, codeV_no] at HI HS
    have HNO := Lib.hid (show ∀ k, Okc l m ps.length last k → anyW l ps last k ≠ s.data.toList by
      rcases hc with ⟨_, h⟩ | ⟨h, _⟩
      · exact h
      · have := hc0 h; omega)
    clear hk hkv hc
    go_wp2_with fail
    refine (HI.out _ (by (try unfold RdP); repeat (first | (with_reducible exact HR.out) | (with_reducible apply rd_seq) | (with_reducible apply Rd.plus) | (with_reducible apply Rd.alloc) | (with_reducible apply Rd.drew) | (with_reducible apply Rd.drewN)))).mono ?_
    rintro e w' ⟨rfl, y1, rfl⟩
    go_wp2_with fail
    refine (HS.out _ (by (try unfold RdP); repeat (first | (with_reducible exact HR.out) | (with_reducible apply rd_seq) | (with_reducible apply Rd.plus) | (with_reducible apply Rd.alloc) | (with_reducible apply Rd.drew) | (with_reducible apply Rd.drewN)))).mono ?_
    rintro e w' ⟨rfl, y2, rfl⟩
    go_wp2_with fail
    refine (KnownValid_any o l m pa pc ps base last _ (by (try unfold RdP); repeat (first | (with_reducible exact HR.out) | (with_reducible apply rd_seq) | (with_reducible apply Rd.plus) | (with_reducible apply Rd.alloc) | (with_reducible apply Rd.drew) | (with_reducible apply Rd.drewN)))).mono ?_
    rintro e w' ⟨rfl, y3, rfl⟩
    rw [HK.out]
    go_wp2_with fail
    go_loopw [9, 10] (fun u q wr => ∃ (k : Int) (z : Ext), 0 ≤ k ∧ k ≤ gt l m ps.length last + 1 ∧ u = .bool (dd k) ∧ q = .int .i64 k ∧ wr = plus ((plus w x1).alloc (.cells #[.int .i64 o, .int .i64 l, .int .i64 m, .slice pa ps.length pc, .int .i64 base, .int .i64 last] 27)) z) (fun _ q _ => (gt l m ps.length last + 1 - intOf q).toNat)
    case atStart => exact ⟨0, _, by omega, by omega, by rw [HDD.out, decide_eq_false (by omega)], rfl, rfl⟩
    case round =>
      obtain ⟨k, z, hk1, hk2, rfl, rfl, rfl⟩ := hrel
      rcases dec (k ≤ gt l m ps.length last) with ⟨g1, v5⟩ | ⟨g1, v5⟩
      · cases hf : folB l m ps.length last k
        · have hne : c ≠ k := fun h => by
            rcases HC.out with ⟨h1, _⟩ | ⟨h1, _⟩
            · omega
            · rw [h] at h1
              have := folB_iff.2 h1
              rw [hf] at this; cases this
          have HNX := Lib.hid (show dd k = dd (k + 1) by rw [HDD.out, HDD.out]; exact decide_eq_decide.2 (by omega))
          go_wp2_with fail
          refine (implGreatest_yes o l m pa pc ps base last _ (by (try unfold RdP); repeat (first | (with_reducible exact HR.out) | (with_reducible apply rd_seq) | (with_reducible apply Rd.plus) | (with_reducible apply Rd.alloc) | (with_reducible apply Rd.drew) | (with_reducible apply Rd.drewN))) HK.out).mono ?_
          rintro e w' ⟨rfl, y4, rfl⟩
          go_wp2_with fail
          refine (implWordOf_yes o l m pa pc ps base last k _ (by (try unfold RdP); repeat (first | (with_reducible exact HR.out) | (with_reducible apply rd_seq) | (with_reducible apply Rd.plus) | (with_reducible apply Rd.alloc) | (with_reducible apply Rd.drew) | (with_reducible apply Rd.drewN))) HK.out).mono ?_
          rintro e w' ⟨rfl, y5, rfl⟩
          rw [hf, wofV_no]
          go_wp2_with fail
          go_roundw
          case rel => exact ⟨k + 1, _, by omega, by omega, by rw [HNX.out], by go_num, rfl⟩
          case measure => simp [intOf]; omega
        · have hok := folB_iff.1 hf
          by_cases he : anyW l ps last k = s.data.toList
          · skip
            exact absurd he (HNO.out k hok)
          · have hne : c ≠ k := fun h => by
              rcases HC.out with ⟨h1, _⟩ | ⟨_, h1, _⟩
              · omega
              · rw [h] at h1; exact he h1
            have HNX := Lib.hid (show dd k = dd (k + 1) by rw [HDD.out, HDD.out]; exact decide_eq_decide.2 (by omega))
            have v6 : ((bstr (anyW l ps last k)).toList == s.toList) = false := by
              rw [ByteArray.toList_eq, ByteArray.toList_eq, bytes_bstr, beq_eq_false_iff_ne]
              exact he
            clear he hok
            go_wp2_with fail
            refine (implGreatest_yes o l m pa pc ps base last _ (by (try unfold RdP); repeat (first | (with_reducible exact HR.out) | (with_reducible apply rd_seq) | (with_reducible apply Rd.plus) | (with_reducible apply Rd.alloc) | (with_reducible apply Rd.drew) | (with_reducible apply Rd.drewN))) HK.out).mono ?_
            rintro e w' ⟨rfl, y4, rfl⟩
            go_wp2_with fail
            refine (implWordOf_yes o l m pa pc ps base last k _ (by (try unfold RdP); repeat (first | (with_reducible exact HR.out) | (with_reducible apply rd_seq) | (with_reducible apply Rd.plus) | (with_reducible apply Rd.alloc) | (with_reducible apply Rd.drew) | (with_reducible apply Rd.drewN))) HK.out).mono ?_
            rintro e w' ⟨rfl, y5, rfl⟩
            rw [hf, wofV_yes]
            go_wp2_with fail
            go_roundw
            case rel => exact ⟨k + 1, _, by omega, by omega, by rw [HNX.out], by go_num, rfl⟩
            case measure => simp [intOf]; omega
      · skip
        go_wp2_with fail
        refine (implGreatest_yes o l m pa pc ps base last _ (by (try unfold RdP); repeat (first | (with_reducible exact HR.out) | (with_reducible apply rd_seq) | (with_reducible apply Rd.plus) | (with_reducible apply Rd.alloc) | (with_reducible apply Rd.drew) | (with_reducible apply Rd.drewN))) HK.out).mono ?_
        rintro e w' ⟨rfl, y4, rfl⟩
        have v7 := HEND.out k (by omega)
        rw [v7]
        clear v7
        go_wp2_with fail
        skip
        go_ret
        exact ⟨rfl, (by repeat (first | exact Below.refl _ _ | refine below_plus ?_ (by first | omega | (simp <;> omega)) _ | refine Below.alloc ?_ (by first | omega | (simp <;> omega)) _ | refine below_patch ?_ (by omega) _ | refine Below.drew ?_))⟩
  · have HEND := Lib.hid (fun (k : Int) (_ : gt l m ps.length last + 1 ≤ k) => show dd k = true by rw [HDD.out]; exact decide_eq_true (by omega))
    have hok : Okc l m ps.length last c ∧ anyW l ps last c = s.data.toList := by
      rcases hc with ⟨h, _⟩ | ⟨h, h2, _⟩
      · omega
      · exact ⟨h, h2⟩
    have HSW := Lib.hid (fun (W : World) (h : RdP W pa pc ps) => soWord_yes o l m pa pc ps base last c W h hk hok.1)
    rw [hok.2, bstr_bytes] at HSW
    have v10 : (s.toList == s.toList) = true := by simp
    rw [codeV_yes hpos] at HI HS
    clear hk hkv hc hok
    go_wp2_with fail
    refine (HI.out _ (by (try unfold RdP); repeat (first | (with_reducible exact HR.out) | (with_reducible apply rd_seq) | (with_reducible apply Rd.plus) | (with_reducible apply Rd.alloc) | (with_reducible apply Rd.drew) | (with_reducible apply Rd.drewN)))).mono ?_
    rintro e w' ⟨rfl, y1, rfl⟩
    go_wp2_with fail
    refine (HS.out _ (by (try unfold RdP); repeat (first | (with_reducible exact HR.out) | (with_reducible apply rd_seq) | (with_reducible apply Rd.plus) | (with_reducible apply Rd.alloc) | (with_reducible apply Rd.drew) | (with_reducible apply Rd.drewN)))).mono ?_
    rintro e w' ⟨rfl, y2, rfl⟩
    go_wp2_with fail
    refine (KnownValid_any o l m pa pc ps base last _ (by (try unfold RdP); repeat (first | (with_reducible exact HR.out) | (with_reducible apply rd_seq) | (with_reducible apply Rd.plus) | (with_reducible apply Rd.alloc) | (with_reducible apply Rd.drew) | (with_reducible apply Rd.drewN)))).mono ?_
    rintro e w' ⟨rfl, y3, rfl⟩
    rw [HK.out]
    go_wp2_with fail
    go_loopw [9, 10] (fun u q wr => ∃ (k : Int) (z : Ext), 0 ≤ k ∧ k ≤ gt l m ps.length last + 1 ∧ u = .bool (dd k) ∧ q = .int .i64 k ∧ wr = plus ((plus w x1).alloc (.cells #[.int .i64 o, .int .i64 l, .int .i64 m, .slice pa ps.length pc, .int .i64 base, .int .i64 last] 27)) z) (fun _ q _ => (gt l m ps.length last + 1 - intOf q).toNat)
    case atStart => exact ⟨0, _, by omega, by omega, by rw [HDD.out, decide_eq_false (by omega)], rfl, rfl⟩
    case round =>
      obtain ⟨k, z, hk1, hk2, rfl, rfl, rfl⟩ := hrel
      rcases dec (k ≤ gt l m ps.length last) with ⟨g1, v5⟩ | ⟨g1, v5⟩
      · cases hf : folB l m ps.length last k
        · have hne : c ≠ k := fun h => by
            rcases HC.out with ⟨h1, _⟩ | ⟨h1, _⟩
            · omega
            · rw [h] at h1
              have := folB_iff.2 h1
              rw [hf] at this; cases this
          have HNX := Lib.hid (show dd k = dd (k + 1) by rw [HDD.out, HDD.out]; exact decide_eq_decide.2 (by omega))
          go_wp2_with fail
          refine (implGreatest_yes o l m pa pc ps base last _ (by (try unfold RdP); repeat (first | (with_reducible exact HR.out) | (with_reducible apply rd_seq) | (with_reducible apply Rd.plus) | (with_reducible apply Rd.alloc) | (with_reducible apply Rd.drew) | (with_reducible apply Rd.drewN))) HK.out).mono ?_
          rintro e w' ⟨rfl, y4, rfl⟩
          go_wp2_with fail
          refine (implWordOf_yes o l m pa pc ps base last k _ (by (try unfold RdP); repeat (first | (with_reducible exact HR.out) | (with_reducible apply rd_seq) | (with_reducible apply Rd.plus) | (with_reducible apply Rd.alloc) | (with_reducible apply Rd.drew) | (with_reducible apply Rd.drewN))) HK.out).mono ?_
          rintro e w' ⟨rfl, y5, rfl⟩
          rw [hf, wofV_no]
          go_wp2_with fail
          go_roundw
          case rel => exact ⟨k + 1, _, by omega, by omega, by rw [HNX.out], by go_num, rfl⟩
          case measure => simp [intOf]; omega
        · have hok := folB_iff.1 hf
          by_cases he : anyW l ps last k = s.data.toList
          · skip
            have hck : 0 ≤ c ∧ c ≤ k := by
              rcases HC.out with ⟨_, h2⟩ | ⟨h1, _, h3⟩
              · exact absurd he (h2 k hok)
              · exact ⟨hc0 h1, h3 k hok he⟩
            have v6 : ((bstr (anyW l ps last k)).toList == s.toList) = true := by rw [ByteArray.toList_eq, ByteArray.toList_eq, bytes_bstr, he]; simp
            have HNX := Lib.hid (show true = dd (k + 1) by rw [HDD.out]; exact (decide_eq_true (by omega)).symm)
            rcases Int.lt_or_le c k with hlt | hge
            · have v7 : dd k = true := by rw [HDD.out]; exact decide_eq_true (by omega)
              rw [v7]
              clear he hok v7
              go_wp2_with fail
              refine (implGreatest_yes o l m pa pc ps base last _ (by (try unfold RdP); repeat (first | (with_reducible exact HR.out) | (with_reducible apply rd_seq) | (with_reducible apply Rd.plus) | (with_reducible apply Rd.alloc) | (with_reducible apply Rd.drew) | (with_reducible apply Rd.drewN))) HK.out).mono ?_
              rintro e w' ⟨rfl, y4, rfl⟩
              go_wp2_with fail
              refine (implWordOf_yes o l m pa pc ps base last k _ (by (try unfold RdP); repeat (first | (with_reducible exact HR.out) | (with_reducible apply rd_seq) | (with_reducible apply Rd.plus) | (with_reducible apply Rd.alloc) | (with_reducible apply Rd.drew) | (with_reducible apply Rd.drewN))) HK.out).mono ?_
              rintro e w' ⟨rfl, y5, rfl⟩
              rw [hf, wofV_yes]
              go_wp2_with fail
              go_roundw
              case rel => exact ⟨k + 1, _, by omega, by omega, by rw [HNX.out], by go_num, rfl⟩
              case measure => simp [intOf]; omega
            · have v7 : dd k = false := by rw [HDD.out]; exact decide_eq_false (by omega)
              have v8 : (k == c) = true := by simp; omega
              have v9 : (k != c) = false := by simp; omega
              rw [v7]
              clear he hok v7
              go_wp2_with fail
              refine (implGreatest_yes o l m pa pc ps base last _ (by (try unfold RdP); repeat (first | (with_reducible exact HR.out) | (with_reducible apply rd_seq) | (with_reducible apply Rd.plus) | (with_reducible apply Rd.alloc) | (with_reducible apply Rd.drew) | (with_reducible apply Rd.drewN))) HK.out).mono ?_
              rintro e w' ⟨rfl, y4, rfl⟩
              go_wp2_with fail
              refine (implWordOf_yes o l m pa pc ps base last k _ (by (try unfold RdP); repeat (first | (with_reducible exact HR.out) | (with_reducible apply rd_seq) | (with_reducible apply Rd.plus) | (with_reducible apply Rd.alloc) | (with_reducible apply Rd.drew) | (with_reducible apply Rd.drewN))) HK.out).mono ?_
              rintro e w' ⟨rfl, y5, rfl⟩
              rw [hf, wofV_yes]
              go_wp2_with fail
              go_roundw
              case rel => exact ⟨k + 1, _, by omega, by omega, by rw [HNX.out], by go_num, rfl⟩
              case measure => simp [intOf]; omega
          · have hne : c ≠ k := fun h => by
              rcases HC.out with ⟨h1, _⟩ | ⟨_, h1, _⟩
              · omega
              · rw [h] at h1; exact he h1
            have HNX := Lib.hid (show dd k = dd (k + 1) by rw [HDD.out, HDD.out]; exact decide_eq_decide.2 (by omega))
            have v6 : ((bstr (anyW l ps last k)).toList == s.toList) = false := by
              rw [ByteArray.toList_eq, ByteArray.toList_eq, bytes_bstr, beq_eq_false_iff_ne]
              exact he
            clear he hok
            go_wp2_with fail
            refine (implGreatest_yes o l m pa pc ps base last _ (by (try unfold RdP); repeat (first | (with_reducible exact HR.out) | (with_reducible apply rd_seq) | (with_reducible apply Rd.plus) | (with_reducible apply Rd.alloc) | (with_reducible apply Rd.drew) | (with_reducible apply Rd.drewN))) HK.out).mono ?_
            rintro e w' ⟨rfl, y4, rfl⟩
            go_wp2_with fail
            refine (implWordOf_yes o l m pa pc ps base last k _ (by (try unfold RdP); repeat (first | (with_reducible exact HR.out) | (with_reducible apply rd_seq) | (with_reducible apply Rd.plus) | (with_reducible apply Rd.alloc) | (with_reducible apply Rd.drew) | (with_reducible apply Rd.drewN))) HK.out).mono ?_
            rintro e w' ⟨rfl, y5, rfl⟩
            rw [hf, wofV_yes]
            go_wp2_with fail
            go_roundw
            case rel => exact ⟨k + 1, _, by omega, by omega, by rw [HNX.out], by go_num, rfl⟩
            case measure => simp [intOf]; omega
      · skip
        go_wp2_with fail
        refine (implGreatest_yes o l m pa pc ps base last _ (by (try unfold RdP); repeat (first | (with_reducible exact HR.out) | (with_reducible apply rd_seq) | (with_reducible apply Rd.plus) | (with_reducible apply Rd.alloc) | (with_reducible apply Rd.drew) | (with_reducible apply Rd.drewN))) HK.out).mono ?_
        rintro e w' ⟨rfl, y4, rfl⟩
        have v7 := HEND.out k (by omega)
        rw [v7]
        clear v7
        go_wp2_with fail
        refine (HSW.out _ (by (try unfold RdP); repeat (first | (with_reducible exact HR.out) | (with_reducible apply rd_seq) | (with_reducible apply Rd.plus) | (with_reducible apply Rd.alloc) | (with_reducible apply Rd.drew) | (with_reducible apply Rd.drewN)))).mono ?_; rintro e w' ⟨rfl, y6, rfl⟩; go_wp2_with fail
        go_ret
        exact ⟨rfl, (by repeat (first | exact Below.refl _ _ | refine below_plus ?_ (by first | omega | (simp <;> omega)) _ | refine Below.alloc ?_ (by first | omega | (simp <;> omega)) _ | refine below_patch ?_ (by omega) _ | refine Below.drew ?_))⟩

end Go.Proofs.Ytlihhlihcjncoaa
