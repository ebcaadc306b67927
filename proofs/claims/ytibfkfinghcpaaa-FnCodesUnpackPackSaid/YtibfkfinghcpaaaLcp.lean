/- The law CodesUnpackPack: the walk. -/
import Derived.Test.YtibfkfinghcpaaaCup
import Derived.Test.YtibfkfinghcpaaaPks
namespace Go.Proofs.Ytibfkfinghcpaaa
open Go.RowKit
set_option linter.unusedVariables false
set_option linter.unusedSimpArgs false

set_option maxRecDepth 100000 in
set_option maxHeartbeats 1000000 in
theorem implUnpackBits_yes (o : Int) (s : ByteArray) (w : World) (ho : o = 0 ∨ o = 1) (hs : s.size ≤ 4000) :
    Calls Try.prog 79 #[.int .i64 o, .string s] w (Ret w (.tuple #[.string (bstr (unpL o s.data.toList)), .bool true])) := by
  have hv : ov o = true := by unfold ov; rcases ho with rfl | rfl <;> rfl
  have HV := Lib.hid hv
  clear hv ho
  go_enter Try.func79, Try.ntmps79
  go_wp2_with fail
  refine (orderValid_any o _).mono ?_
  rintro e w' ⟨rfl, x1, rfl⟩
  rw [HV.out]
  go_wp2_with fail
  refine (unpackBytes_any o s _ hs).mono ?_
  rintro e w' ⟨rfl, x2, rfl⟩
  go_wp2_with fail
  go_ret2
  exact Ret.mk (by repeat (first | exact More.refl _ | apply More.plus | apply More.alloc | apply More.drew | apply More.drewN))

set_option maxRecDepth 100000 in
set_option maxHeartbeats 1000000 in
theorem soBits_yes (o : Int) (s : ByteArray) (w : World) (ho : o = 0 ∨ o = 1) (hs : s.size ≤ 4000) :
    Calls Try.prog 28 #[.int .i64 o, .string s] w (Ret w (.string (bstr (unpL o s.data.toList)))) := by
  have HH := Lib.hid (fun (W : World) => implUnpackBits_yes o s W ho hs)
  clear ho
  go_enter Try.func28, Try.ntmps28
  go_wp2_with fail
  refine (HH.out _).mono ?_
  rintro e w' ⟨rfl, x1, rfl⟩
  go_wp2_with fail
  go_ret
  exact Ret.mk (by repeat (first | exact More.refl _ | apply More.plus | apply More.alloc | apply More.drew | apply More.drewN))

/-- what a call leaves that returns numbers and true -/
def RetIy (w : World) (xs : List Int) (e : Ending) (w' : World) : Prop := ∃ a c, e = .returned (.tuple #[.slice a xs.length c, .bool true]) ∧ Rd encI w' a c xs ∧ ∃ x, w' = plus w x

set_option maxRecDepth 100000 in
set_option maxHeartbeats 1000000 in
theorem implCodesWidths_yes (o l m : Int) (a : Option Addr) (cap : Nat) (ps : List Pr) (base last : Int) (ia : Option Addr) (icap : Nat) (is : List Int) (w : World) (hr : RdP w a cap ps) (hri : Rd encI w ia icap is) (hk : kvb o l m ps base last = true) (hil : is.length ≤ 3100) (b : Nat) (hb : base = b) (W : List Int) (D : List UInt8) (hR : wlk l m b is ps last [] [] = some (W, D)) :
    Calls Try.prog 27 #[.agg #[.int .i64 o, .int .i64 l, .int .i64 m, .slice a ps.length cap, .int .i64 base, .int .i64 last], .slice ia is.length icap] w (RetIy w W) := by
  subst hb
  have HW := Lib.hid (fun (V : World) (h1 : RdP V a cap ps) (h2 : Rd encI V ia icap is) => walkCodes_yes o l m a cap ps b last ia icap is V h1 h2 hk hil b rfl _ hR)
  have HR := Lib.hid (show Rd encP w a cap ps from hr)
  have HI := Lib.hid hri
  clear hr hri hk hR
  go_enter Try.func27, Try.ntmps27
  go_wp2_with fail
  refine (HW.out _ (by (try unfold RdP); repeat (first | (with_reducible exact HR.out) | (with_reducible apply rd_seq) | (with_reducible apply Rd.plus) | (with_reducible apply Rd.alloc) | (with_reducible apply Rd.drew) | (with_reducible apply Rd.drewN))) (by (try unfold RdP); repeat (first | (with_reducible exact HI.out) | (with_reducible apply rd_seq) | (with_reducible apply Rd.plus) | (with_reducible apply Rd.alloc) | (with_reducible apply Rd.drew) | (with_reducible apply Rd.drewN)))).mono ?_
  rintro e w' ⟨wa, wc, rfl, hown, x1, rfl⟩
  have HO := Lib.hid hown.rd
  clear hown
  go_wp2_with fail
  go_ret2
  exact ⟨wa, wc, rfl, (by (try unfold RdP); repeat (first | (with_reducible exact HO.out) | (with_reducible apply rd_seq) | (with_reducible apply Rd.plus) | (with_reducible apply Rd.alloc) | (with_reducible apply Rd.drew) | (with_reducible apply Rd.drewN))), (by repeat (first | exact More.refl _ | apply More.plus | apply More.alloc | apply More.drew | apply More.drewN))⟩

theorem DrawUnpackCodes_any (a : Option Addr) (cap : Nat) (bs : List UInt8) (w : World) (hr : Rd encB w a cap bs) :
    Calls Try.prog 13 #[.slice a bs.length cap] w (RetKs w) :=
  (DrawUnpackCodes_at a cap bs w hr).mono fun _ _ ⟨o, l, m, pa, pc, ps, base, last, s, h1, h2, h3, h4, h5, _⟩ => ⟨o, l, m, pa, pc, ps, base, last, s, h1, h2, h3, h4, h5⟩

theorem ext_preJ (s : ByteArray) (n : Nat) : (s.extract 0 n).data.toList = s.data.toList.take n := by
  simp

theorem take_snocJ {xs : List Int} {k : Nat} {x : Int} (h : xs[k]? = some x) : sumJ (xs.take (k + 1)) = sumJ (xs.take k) + x := by
  have : xs.take (k + 1) = xs.take k ++ [x] := by rw [List.take_add_one, h]; rfl
  rw [this, sumJ_app]
  simp [sumJ]

set_option maxRecDepth 100000 in
set_option maxHeartbeats 2000000 in
theorem lawCodesUnpackPack_any (a : Option Addr) (cap : Nat) (bs : List UInt8) (w : World) (hr : Rd encB w a cap bs) :
    Calls Try.prog 6 #[.slice a bs.length cap] w (fun e w' => e = .returned (.bool true) ∧ Below w.heap.size w w') := by
  have g1 := hr.1
  have g2 := hr.2.1
  by_cases h1 : bs.length ≤ 1048576
  case neg =>
    go_enter Try.func6, Try.ntmps6
    go_wp2
    go_ret
    exact ⟨rfl, (by repeat (first | exact Below.refl _ _ | refine below_plus ?_ (by first | omega | (simp <;> omega)) _ | refine Below.alloc ?_ (by first | omega | (simp <;> omega)) _ | refine below_patch ?_ (by omega) _ | refine Below.drew ?_))⟩
  go_enter Try.func6, Try.ntmps6
  go_wp2_with fail
  refine (DrawUnpackCodes_any a cap bs _ (by repeat (first | exact hr | apply rd_seq | apply Rd.plus | apply Rd.alloc | apply Rd.drew | apply Rd.drewN | refine rd_patch ?_ _ _ (by intro A hA; first | (cases hA; show _ ≠ _; omega) | (have := hal A hA; omega))))).mono ?_
  rintro e w' ⟨o, l, m, pa, pc, ps, base, last, s, rfl, hl3, hs5, hrd, x1, rfl⟩
  have hm : s.size ≤ maxLen := by unfold maxLen; omega
  have HR := Lib.hid (show Rd encP _ pa pc ps from hrd)
  clear hrd
  by_cases hbad : kvb o l m ps base last = false ∨ 4000 < s.size
  · have HI := Lib.hid (fun (W : World) (h : RdP W pa pc ps) => implUnpackCodes_no o l m pa pc ps base last s W h hm hbad)
    have HS := Lib.hid (fun (W : World) (h : RdP W pa pc ps) => specUnpackCodes_no o l m pa pc ps base last s W h hm hbad)
    clear hbad
    go_wp2_with fail
    refine (HI.out _ (by (try unfold RdP); repeat (first | (with_reducible exact HR.out) | (with_reducible apply rd_seq) | (with_reducible apply Rd.plus) | (with_reducible apply Rd.alloc) | (with_reducible apply Rd.drew) | (with_reducible apply Rd.drewN)))).mono ?_
    rintro e w' ⟨ia, ic, rfl, hown, y1, rfl⟩
    (try simp only [plus_plus] at hown)
    have HG := Lib.hid (show Rd encI _ ia ic _ from hown.rd)
    clear hown
    go_wp2_with fail
    refine (HS.out _ (by (try unfold RdP); repeat (first | (with_reducible exact HR.out) | (with_reducible apply rd_seq) | (with_reducible apply Rd.plus) | (with_reducible apply Rd.alloc) | (with_reducible apply Rd.drew) | (with_reducible apply Rd.drewN)))).mono ?_
    rintro e w' ⟨ja, jc, rfl, hown, y2, rfl⟩
    (try simp only [plus_plus] at hown)
    have HG2 := Lib.hid (show Rd encI _ ja jc _ from hown.rd)
    clear hown
    go_wp2_with fail
    refine (soInts_yes ia ja ic jc [] _ (by (try unfold RdP); repeat (first | (with_reducible exact HG.out) | (with_reducible apply rd_seq) | (with_reducible apply Rd.plus) | (with_reducible apply Rd.alloc) | (with_reducible apply Rd.drew) | (with_reducible apply Rd.drewN))) (by (try unfold RdP); repeat (first | (with_reducible exact HG2.out) | (with_reducible apply rd_seq) | (with_reducible apply Rd.plus) | (with_reducible apply Rd.alloc) | (with_reducible apply Rd.drew) | (with_reducible apply Rd.drewN)))).mono ?_
    rintro e w' ⟨rfl, y3, rfl⟩
    go_wp2_with fail
    refine (soInts_yes ia ja ic jc [] _ (by (try unfold RdP); repeat (first | (with_reducible exact HG.out) | (with_reducible apply rd_seq) | (with_reducible apply Rd.plus) | (with_reducible apply Rd.alloc) | (with_reducible apply Rd.drew) | (with_reducible apply Rd.drewN))) (by (try unfold RdP); repeat (first | (with_reducible exact HG2.out) | (with_reducible apply rd_seq) | (with_reducible apply Rd.plus) | (with_reducible apply Rd.alloc) | (with_reducible apply Rd.drew) | (with_reducible apply Rd.drewN)))).mono ?_
    rintro e w' ⟨rfl, y4, rfl⟩
    go_wp2_with fail
    go_ret
    exact ⟨rfl, (by repeat (first | exact Below.refl _ _ | refine below_plus ?_ (by first | omega | (simp <;> omega)) _ | refine Below.alloc ?_ (by first | omega | (simp <;> omega)) _ | refine below_patch ?_ (by omega) _ | refine Below.drew ?_))⟩
  have hk : kvb o l m ps base last = true := by
    cases hk : kvb o l m ps base last
    · exact absurd (.inl hk) hbad
    · rfl
  have hsz : s.size ≤ 4000 := by
    rcases Nat.lt_or_ge 4000 s.size with h1 | h1
    · exact absurd (.inr h1) hbad
    · exact h1
  have hso := (sv_iff.1 (kvb_iff.1 hk).s).1
  have hb0 := (kvb_iff.1 hk).b0
  obtain ⟨b, rfl⟩ : ∃ b : Nat, base = b := ⟨base.toNat, by omega⟩
  obtain ⟨_, h2, h3, h4⟩ := unR_facts (s := s) hk
  have he4 : (unR o l m b ps last s).e ≤ 3 := (rdc_e _ _ _ _ _ _).2
  obtain ⟨W, q, hW, hwl, hwb, hsum, hq1, hqt, hq2, hbv⟩ := unR_bits (s := s) hk
  obtain ⟨R, hR⟩ : ∃ R, unR o l m b ps last s = R := ⟨_, rfl⟩
  rw [hR] at hW h2 h3 h4 he4 hwl hqt hq2 hbv
  have hus : usedV s.size R ≤ (s.size : Int) := by unfold usedV; split <;> omega
  obtain ⟨K, hK⟩ : ∃ K, bstr (pckL o (cbits o R.C W)) = K := ⟨_, rfl⟩
  rw [hK] at hq2
  have hKz : K.size ≤ 4000 := by
    have := cbits_len (o := o) R.C W (fun x hx => (hwb x hx).2)
    rw [← hK, bstr_size, pckL_len]; omega
  have hKb : unpL o K.data.toList = padL (cbits o R.C W) := by rw [← hK, bytes_bstr, unp_pck hbv]
  have HBF := Lib.hid (fun (T : ByteArray) (V : World) (hT : T.size ≤ 4000) => soBits_yes o T V hso hT)
  obtain ⟨f, hf⟩ : ∃ f, (fun T : ByteArray => bstr (unpL o T.data.toList)) = f := ⟨_, rfl⟩
  have hfa : ∀ T, bstr (unpL o T.data.toList) = f T := fun T => by rw [← hf]
  obtain ⟨X, hX⟩ : ∃ X, (f s).extract 0 q = X := ⟨_, rfl⟩
  have hX1 : (f K).extract 0 q = X := by
    rw [← hX, ← bstr_bytes ((f K).extract 0 q), ← bstr_bytes ((f s).extract 0 q), ext_preJ, ext_preJ, ← hfa, ← hfa, bytes_bstr, bytes_bstr, hKb, hqt]
  have hz1 : (f K).size = 8 * K.size := by rw [← hfa, bstr_size, unpL_len, bytes_len]
  have hz2 : (f s).size = 8 * s.size := by rw [← hfa, bstr_size, unpL_len, bytes_len]
  have HI := Lib.hid (fun (W : World) (h : RdP W pa pc ps) => implUnpackCodes_yes o l m pa pc ps b last s W h hk hsz R hR)
  have HS := Lib.hid (fun (W : World) (h : RdP W pa pc ps) => specUnpackCodes_yes2 o l m pa pc ps b last s W h hk hsz R hR)
  have HP := Lib.hid (fun (V : World) (ia : Option Addr) (ic : Nat) (h1 : RdP V pa pc ps) (h2' : Rd encI V ia ic R.C) => PackCodes_yes o l m pa pc ps b last ia ic R.C V h1 h2' hk h2 b rfl W _ hW)
  have HCW := Lib.hid (fun (V : World) (ia : Option Addr) (ic : Nat) (h1 : RdP V pa pc ps) (h2' : Rd encI V ia ic R.C) => implCodesWidths_yes o l m pa pc ps b last ia ic R.C V h1 h2' hk h2 b rfl W _ hW)
  rw [hK] at HP
  simp only [hfa] at HBF
  have HSJ := Lib.hid (fun k => sumJ_bd (W.take k) (fun x hx => hwb x (List.mem_of_mem_take hx)))
  have HSUM := Lib.hid hsum
  have hwl2 : W.length ≤ 3100 := by omega
  have v1 : (R.e == 4) = false := by simp; omega
  have v2 : (R.e != R.e) = false := by simp
  have v3 : (usedV s.size R != usedV s.size R) = false := by simp
  have v8 : (X.toList == X.toList) = true := by simp
  obtain ⟨uu, huu⟩ : ∃ uu, usedV s.size R = uu := ⟨_, rfl⟩
  rw [huu] at HI HS hus v3
  have HX1 := Lib.hid hX1
  have HX2 := Lib.hid hX
  clear hbad hk hW hR hK hKb hf hfa hX hX1 hqt hbv hwl hwb hsum hso huu
  go_wp2_with fail
  refine (HI.out _ (by (try unfold RdP); repeat (first | (with_reducible exact HR.out) | (with_reducible apply rd_seq) | (with_reducible apply Rd.plus) | (with_reducible apply Rd.alloc) | (with_reducible apply Rd.drew) | (with_reducible apply Rd.drewN)))).mono ?_
  rintro e w' ⟨ia, ic, rfl, hown, y1, rfl⟩
  (try simp only [plus_plus] at hown)
  have HG := Lib.hid (show Rd encI _ ia ic _ from hown.rd)
  clear hown
  go_wp2_with fail
  refine (HS.out _ (by (try unfold RdP); repeat (first | (with_reducible exact HR.out) | (with_reducible apply rd_seq) | (with_reducible apply Rd.plus) | (with_reducible apply Rd.alloc) | (with_reducible apply Rd.drew) | (with_reducible apply Rd.drewN)))).mono ?_
  rintro e w' ⟨ja, jc, rfl, hown, y2, rfl⟩
  (try simp only [plus_plus] at hown)
  have HG2 := Lib.hid (show Rd encI _ ja jc _ from hown.rd)
  clear hown
  go_wp2_with fail
  refine (soInts_yes ia ja ic jc R.C _ (by (try unfold RdP); repeat (first | (with_reducible exact HG.out) | (with_reducible apply rd_seq) | (with_reducible apply Rd.plus) | (with_reducible apply Rd.alloc) | (with_reducible apply Rd.drew) | (with_reducible apply Rd.drewN))) (by (try unfold RdP); repeat (first | (with_reducible exact HG2.out) | (with_reducible apply rd_seq) | (with_reducible apply Rd.plus) | (with_reducible apply Rd.alloc) | (with_reducible apply Rd.drew) | (with_reducible apply Rd.drewN)))).mono ?_
  rintro e w' ⟨rfl, y3, rfl⟩
  go_wp2_with fail
  refine (HP.out _ ia ic (by (try unfold RdP); repeat (first | (with_reducible exact HR.out) | (with_reducible apply rd_seq) | (with_reducible apply Rd.plus) | (with_reducible apply Rd.alloc) | (with_reducible apply Rd.drew) | (with_reducible apply Rd.drewN))) (by (try unfold RdP); repeat (first | (with_reducible exact HG.out) | (with_reducible apply rd_seq) | (with_reducible apply Rd.plus) | (with_reducible apply Rd.alloc) | (with_reducible apply Rd.drew) | (with_reducible apply Rd.drewN)))).mono ?_
  rintro e w' ⟨rfl, y4, rfl⟩
  go_wp2_with fail
  refine (HCW.out _ ia ic (by (try unfold RdP); repeat (first | (with_reducible exact HR.out) | (with_reducible apply rd_seq) | (with_reducible apply Rd.plus) | (with_reducible apply Rd.alloc) | (with_reducible apply Rd.drew) | (with_reducible apply Rd.drewN))) (by (try unfold RdP); repeat (first | (with_reducible exact HG.out) | (with_reducible apply rd_seq) | (with_reducible apply Rd.plus) | (with_reducible apply Rd.alloc) | (with_reducible apply Rd.drew) | (with_reducible apply Rd.drewN)))).mono ?_
  rintro e w' ⟨wa, wc, rfl, hwr, y5, rfl⟩
  (try simp only [plus_plus] at hwr)
  have HWR := Lib.hid hwr
  clear hwr
  go_wp2_with fail
  refine wp_nm2 (fun Y => Y.heap[w.heap.size + x1.n]? = some (.cells #[.int .i64 o, .int .i64 l, .int .i64 m, .slice pa ps.length pc, .int .i64 b, .int .i64 last] 27 (0, 0)) ∧ Rd encI Y wa wc W ∧ Below w.heap.size w Y) ⟨?_, (by (try unfold RdP); repeat (first | (with_reducible exact HWR.out) | (with_reducible apply rd_seq) | (with_reducible apply Rd.plus) | (with_reducible apply Rd.alloc) | (with_reducible apply Rd.drew) | (with_reducible apply Rd.drewN))), (by repeat (first | exact Below.refl _ _ | refine below_plus ?_ (by first | omega | (simp <;> omega)) _ | refine Below.alloc ?_ (by first | omega | (simp <;> omega)) _ | refine below_patch ?_ (by omega) _ | refine Below.drew ?_))⟩ ?_
  · (repeat (first | exact push_new _ _ _ (by simp <;> omega) | apply blk_plus | apply blk_alloc | apply blk_drew))
  generalize w.heap.size + x1.n = bk
  clear HR HG HG2 HWR HI HS HP HCW
  rintro Y ⟨hbk, hW, hB⟩
  have zk := (Array.getElem?_eq_some_iff.1 hbk).1
  have ck := cell_of hbk
  have HB := Lib.hid hB
  have zw := hB.size
  obtain ⟨zu1, zu2, hou⟩ := rdI_open hW
  have HOU := Lib.hid hou
  clear hbk hW hB hou
  go_loopw [15, 16] (fun n i wr => ∃ (k : Nat) (z : Ext), k ≤ W.length ∧ n = .int .i64 (sumJ (W.take k)) ∧ i = .int .i64 k ∧ wr = plus Y z) (fun _ i _ => W.length - (intOf i).toNat)
  case atStart => exact ⟨0, _, Nat.zero_le _, rfl, rfl, (plus_self _).symm⟩
  case round =>
    obtain ⟨k, z, hk1, rfl, rfl, rfl⟩ := hrel
    rcases dec (k < W.length) with ⟨hlt, blt⟩ | ⟨hlt, blt⟩
    · obtain ⟨u, hu⟩ : ∃ u, W[k]? = some u := ⟨W[k], List.getElem?_eq_getElem hlt⟩
      have hp0 := HSJ.out k
      have hp1 := HSJ.out (k + 1)
      have hsn := take_snocJ hu
      rw [hsn] at hp1
      rw [List.length_take] at hp0 hp1
      have HSN := Lib.hid hsn
      rcases HOU.out with h9 | ⟨b1, off, rfl, hb, hc⟩
      · exact absurd hlt (by omega)
      have c1 := hc k u hu
      have VW := Lib.hid (show IntKind.i64.wrap (sumJ (W.take k) + u) = sumJ (W.take k) + u from IntWalk.i64_in _ (by omega))
      clear hc hu hsn
      go_wp2_with fail
      go_roundw
      case rel => exact ⟨k + 1, _, by omega, by rw [HSN.out], by go_num, rfl⟩
      case measure => simp [intOf]; omega
    · obtain rfl : k = W.length := by omega
      rw [List.take_length, HSUM.out]
      have k1 : decide ((q : Int) ≤ 8 * (K.size : Int)) = true := by simp; omega
      have k2 : decide ((q : Int) ≤ 8 * (s.size : Int)) = true := by simp; omega
      have k3 : decide (q ≤ 8 * K.size) = true := by simp; omega
      have k4 : decide (q ≤ 8 * s.size) = true := by simp; omega
      have k5 : decide (uu ≤ (s.size : Int)) = true := by simp; omega
      have hx1 := HX1.out
      have hx2 := HX2.out
      go_wp2
      (refine wp_region_calm (by kernel_rfl) (by kernel_rfl) ?_
       repeat (first | go_big_quiet_skip | (go_big_quiet_want; go_big_quiet_op; first | go_big_quiet_on | (apply Exists.intro; refine ⟨fun _ => ?_, ?_⟩; (focus ((go_at_call 28; first | refine calm_of (HBF.out _ _ (by assumption)) | refine calm_seq (HBF.out _ _ (by assumption))))); go_big_quiet_on)))
       refine wpQuiet_nil ?_
       intro _ hw'
       obtain ⟨xq, hw''⟩ := hw'
       subst hw'')
      go_wp2
      go_ret
      exact ⟨rfl, (by repeat (first | (with_reducible exact HB.out) | refine below_plus ?_ (by first | omega | (simp <;> omega)) _ | refine Below.alloc ?_ (by first | omega | (simp <;> omega)) _ | refine below_patch ?_ (by omega) _ | refine Below.drew ?_))⟩

end Go.Proofs.Ytibfkfinghcpaaa
