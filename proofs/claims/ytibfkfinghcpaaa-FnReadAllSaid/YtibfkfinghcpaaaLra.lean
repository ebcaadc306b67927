/- The law ReadAll: the walk. -/
import Derived.Test.YtibfkfinghcpaaaGz
import Derived.Test.YtibfkfinghcpaaaGx

namespace Go.Proofs.Ytibfkfinghcpaaa
open Go.RowKit
set_option linter.unusedVariables false
set_option linter.unusedSimpArgs false

theorem sumZ_le : ∀ (us : List ByteArray), (∀ u ∈ us, u.size ≤ 1000) → sumZ us ≤ 1000 * us.length
  | [], h => by simp [sumZ]
  | u :: us, h => by
    have h1 := h u (by simp)
    have h2 := sumZ_le us (fun v hv => h v (by simp [hv]))
    simp only [sumZ, List.length_cons]
    omega

set_option maxRecDepth 100000 in
set_option maxHeartbeats 1000000 in
theorem soJoined_any (a : Option Addr) (cap : Nat) (us : List ByteArray) (w : World) (hr : Rd encS w a cap us) (hz : us.length + sumZ us ≤ 1048576) :
    Calls Try.prog 44 #[.slice a us.length cap] w (Ret w (.string (jn us))) := by
  have HR := Lib.hid hr
  have hcap := hr.1
  clear hr
  go_enter Try.func44, Try.ntmps44
  go_wp2
  go_loopw [3, 4] (fun t q wr => ∃ (k : Nat), k ≤ us.length ∧ q = .int .i64 k ∧ t = .string (jn (us.take k)) ∧ More w wr) (fun _ q _ => us.length - (intOf q).toNat)
  case atStart => exact ⟨0, Nat.zero_le _, rfl, by rw [List.take_zero]; rfl, More.refl _⟩
  case round =>
    obtain ⟨k, hk, rfl, rfl, x, rfl⟩ := hrel
    rcases dec (k < us.length) with ⟨hlt, blt⟩ | ⟨hlt, blt⟩
    · obtain ⟨u, hu⟩ : ∃ p, us[k]? = some p := ⟨us[k], List.getElem?_eq_getElem hlt⟩
      obtain ⟨sb0, so0, rfl⟩ := rdS_some HR.out (by omega)
      have cS := rdS_cell (Rd.plus HR.out x) hu
      have hst := jn_step us k u hu
      have huz := sumZ_step us k u hu
      have hum := sumZ_mono us (k + 1)
      have hjs := jn_size (us.take k)
      obtain ⟨J, hJ⟩ : ∃ J, jn (us.take k) = J := ⟨_, rfl⟩
      rw [hJ] at hst hjs ⊢
      have HST := Lib.hid hst
      have hJz : J.size ≤ 2000000 := by omega
      have huz2 : u.size ≤ 2000000 := by omega
      have hk0 : (0 : Int) ≤ (k : Int) := by omega
      have hk3 : (k : Int) < (us.length : Int) := by omega
      clear hst hJ hjs huz hum
      go_wp2
      go_roundw
      case rel => exact ⟨k + 1, by omega, by go_num, by rw [HST.out], (by repeat (first | exact More.refl _ | apply More.plus | apply More.alloc | apply More.drew | apply More.drewN))⟩
      case measure => simp [intOf]; omega
    · obtain rfl : k = us.length := by omega
      rw [List.take_length]
      go_wp2
      go_ret
      exact Ret.mk (by repeat (first | exact More.refl _ | apply More.plus | apply More.alloc | apply More.drew | apply More.drewN))

/-- what ReadAll and Decompress give of the same stream -/
theorem ra_dec (o l m : Int) (a : Option Addr) (cap : Nat) (ps : List Pr) (base last : Int) (us : List ByteArray) (hz : us.length + sumZ us ≤ 1048576) : ∃ (y : ByteArray) (e u : Int),
    (∀ (W : World) (a : Option Addr) (cap : Nat) (sa : Option Addr) (scap : Nat), RdP W a cap ps → RdS W sa scap us → Calls Try.prog 43 #[.agg #[.int .i64 o, .int .i64 l, .int .i64 m, .slice a ps.length cap, .int .i64 base, .int .i64 last], .slice sa us.length scap] W (Ret W (.tuple #[.string y, .int .i64 e, .int .i64 u]))) ∧
    (∀ (W : World) (a : Option Addr) (cap : Nat) (sa : Option Addr) (scap : Nat), RdP W a cap ps → RdS W sa scap us → Calls Try.prog 42 #[.agg #[.int .i64 o, .int .i64 l, .int .i64 m, .slice a ps.length cap, .int .i64 base, .int .i64 last], .slice sa us.length scap] W (Ret W (.tuple #[.string y, .int .i64 e, .int .i64 u]))) ∧
    ((jn us).size ≤ 4000 → ∀ (W : World) (a : Option Addr) (cap : Nat), RdP W a cap ps → Calls Try.prog 23 #[.agg #[.int .i64 o, .int .i64 l, .int .i64 m, .slice a ps.length cap, .int .i64 base, .int .i64 last], .string (jn us)] W (Ret W (.tuple #[.string y, .int .i64 e, .int .i64 u]))) := by
  cases hk : kvb o l m ps base last
  · exact ⟨⟨#[]⟩, 4, 0, fun W a cap sa scap hr hs => specReadAll_no o l m a cap ps base last sa scap us W hr (by omega) hk, fun W a cap sa scap hr hs => implReadAll_no o l m a cap ps base last sa scap us W hr hk, fun hj W a cap hr => implDecompress_no o l m a cap ps base last (jn us) W hr (by unfold maxLen; omega) (.inl hk)⟩
  · have hb0 := (kvb_iff.1 hk).b0
    obtain ⟨b, rfl⟩ : ∃ b : Nat, base = b := ⟨base.toNat, by omega⟩
    by_cases hj : (jn us).size ≤ 4000
    · have he := raL_un hk us hj
      refine ⟨_, _, _, fun W a cap sa scap hr hs => ?_, fun W a cap sa scap hr hs => ?_, fun _ W a cap hr => implDecompress_yes o l m a cap ps b last (jn us) W hr hk hj _ rfl⟩
      · have := specReadAll_yes o l m a cap ps b last sa scap us W hr hs hz hk _ rfl
        rw [he] at this
        exact this
      · have := implReadAll_yes o l m a cap ps b last sa scap us W hr hs hz hk _ rfl
        rw [he] at this
        exact this
    · exact ⟨_, _, _, fun W a cap sa scap hr hs => specReadAll_yes o l m a cap ps b last sa scap us W hr hs hz hk _ rfl, fun W a cap sa scap hr hs => implReadAll_yes o l m a cap ps b last sa scap us W hr hs hz hk _ rfl, fun h => absurd h hj⟩

set_option maxRecDepth 100000 in
set_option maxHeartbeats 2000000 in
theorem lawReadAllP_any (a : Option Addr) (cap : Nat) (bs : List UInt8) (w : World) (hr : Rd encB w a cap bs) :
    Calls Try.prog 11 #[.slice a bs.length cap] w (fun e w' => e = .returned (.bool true) ∧ Below w.heap.size w w') := by
  have g1 := hr.1
  have g2 := hr.2.1
  by_cases h1 : bs.length ≤ 1048576
  case neg =>
    go_enter Try.func11, Try.ntmps11
    go_wp2
    go_ret
    exact ⟨rfl, (by repeat (first | exact Below.refl _ _ | refine below_plus ?_ (by first | omega | (simp <;> omega)) _ | refine Below.alloc ?_ (by first | omega | (simp <;> omega)) _ | refine below_patch ?_ (by omega) _ | refine Below.drew ?_))⟩
  go_enter Try.func11, Try.ntmps11
  go_wp2_with fail
  refine (DrawReadAll_any a cap bs _ (by repeat (first | exact hr | apply rd_seq | apply Rd.plus | apply Rd.alloc | apply Rd.drew | apply Rd.drewN | refine rd_patch ?_ _ _ (by intro A hA; first | (cases hA; show _ ≠ _; omega) | (have := hal A hA; omega))))).mono ?_
  rintro e w' ⟨o, l, m, pa, pc, ps, base, last, A, c, us, rfl, hl3, hul, husz, hrd, hrs, x1, rfl⟩
  have HR := Lib.hid (show Rd encP _ pa pc ps from hrd)
  have HU := Lib.hid (show Rd encS _ A c us from hrs)
  have hsum := sumZ_le us husz
  have hz : us.length + sumZ us ≤ 1048576 := by omega
  obtain ⟨y, e, u, hS, hI, hD⟩ := ra_dec o l m pa pc ps base last us hz
  have HS := Lib.hid hS
  have HI := Lib.hid hI
  have HZ := Lib.hid hz
  have hjz := jn_size us
  obtain ⟨J, hJ⟩ : ∃ J, jn us = J := ⟨_, rfl⟩
  rw [hJ] at hD hjz
  have HJ := Lib.hid hJ
  have hempty : 4000 < J.size → 0 < us.length := fun h => by
    cases us with
    | nil =>
      have h0 : sumZ [] = 0 := rfl
      rw [h0] at hjz
      omega
    | cons v vs => simp
  have e1 : (y.toList != y.toList) = false := by simp
  have e2 : (e != e) = false := by simp
  have e3 : (u != u) = false := by simp
  have e4 : (y.toList == y.toList) = true := by simp
  have e5 : (e == e) = true := by simp
  have e6 : (u == u) = true := by simp
  clear hrd hrs hr hS hI hJ husz hz
  go_wp2_with fail
  refine (HI.out _ _ _ _ _ (by (try unfold RdP); repeat (first | (with_reducible exact HR.out) | (with_reducible apply rd_seq) | (with_reducible apply Rd.plus) | (with_reducible apply Rd.alloc) | (with_reducible apply Rd.drew) | (with_reducible apply Rd.drewN))) (by unfold RdS; exact (by (try unfold RdP); repeat (first | (with_reducible exact HU.out) | (with_reducible apply rd_seq) | (with_reducible apply Rd.plus) | (with_reducible apply Rd.alloc) | (with_reducible apply Rd.drew) | (with_reducible apply Rd.drewN))))).mono ?_
  rintro E w' ⟨rfl, y1, rfl⟩
  go_wp2_with fail
  refine (HS.out _ _ _ _ _ (by (try unfold RdP); repeat (first | (with_reducible exact HR.out) | (with_reducible apply rd_seq) | (with_reducible apply Rd.plus) | (with_reducible apply Rd.alloc) | (with_reducible apply Rd.drew) | (with_reducible apply Rd.drewN))) (by unfold RdS; exact (by (try unfold RdP); repeat (first | (with_reducible exact HU.out) | (with_reducible apply rd_seq) | (with_reducible apply Rd.plus) | (with_reducible apply Rd.alloc) | (with_reducible apply Rd.drew) | (with_reducible apply Rd.drewN))))).mono ?_
  rintro E w' ⟨rfl, y2, rfl⟩
  go_wp2_with fail
  refine (soJoined_any A c us _ (by (try unfold RdP); repeat (first | (with_reducible exact HU.out) | (with_reducible apply rd_seq) | (with_reducible apply Rd.plus) | (with_reducible apply Rd.alloc) | (with_reducible apply Rd.drew) | (with_reducible apply Rd.drewN))) HZ.out).mono ?_
  rintro E w' ⟨rfl, y3, rfl⟩
  rw [HJ.out]
  by_cases hj : J.size ≤ 4000
  · have HD := Lib.hid (hD hj)
    have v1 : decide (4000 < (J.size : Int)) = false := decide_eq_false (by omega)
    clear hD hempty
    go_wp2_with fail
    refine (HD.out _ _ _ (by (try unfold RdP); repeat (first | (with_reducible exact HR.out) | (with_reducible apply rd_seq) | (with_reducible apply Rd.plus) | (with_reducible apply Rd.alloc) | (with_reducible apply Rd.drew) | (with_reducible apply Rd.drewN)))).mono ?_
    rintro E w' ⟨rfl, y4, rfl⟩
    go_wp2_with fail
    go_ret
    exact ⟨rfl, (by repeat (first | exact Below.refl _ _ | refine below_plus ?_ (by first | omega | (simp <;> omega)) _ | refine Below.alloc ?_ (by first | omega | (simp <;> omega)) _ | refine below_patch ?_ (by omega) _ | refine Below.drew ?_))⟩
  · have v1 : decide (4000 < (J.size : Int)) = true := decide_eq_true (by omega)
    have h0 := hempty (by omega)
    have v2 : decide (0 < (us.length : Int)) = true := decide_eq_true (by omega)
    clear hD hempty
    go_wp2_with fail
    go_ret
    exact ⟨rfl, (by repeat (first | exact Below.refl _ _ | refine below_plus ?_ (by first | omega | (simp <;> omega)) _ | refine Below.alloc ?_ (by first | omega | (simp <;> omega)) _ | refine below_patch ?_ (by omega) _ | refine Below.drew ?_))⟩

end Go.Proofs.Ytibfkfinghcpaaa
