/- Bits packed into bytes by the reference: the walk of l1Pack; PackBits. -/
import Derived.Test.YtmddcbebaijjkaaGreatDoorGi
import Derived.Test.YtmddcbebaijjkaaGreatDoorGc
namespace Go.Proofs.YtmddcbebaijjkaaGreatDoor
open Go.RowKit
set_option linter.unusedVariables false
set_option linter.unusedSimpArgs false

/-- the bytes below k stand in cur -/
def UpB (cur : Array Value) (xs : List UInt8) (k : Nat) : Prop := ∀ i x, xs[i]? = some x → i < k → cur[i]? = some (.int .u8 (x.toNat : Int))

theorem UpB.step {cur : Array Value} {xs : List UInt8} {k : Nat} {x : UInt8} (h : UpB cur xs k) (hx : xs[k]? = some x) (hk : k < cur.size) : UpB (cur.setIfInBounds k (.int .u8 (x.toNat : Int))) xs (k + 1) := by
  intro i y hy hi
  simp only [Array.getElem?_setIfInBounds]
  by_cases hik : i = k
  · subst hik
    rw [hx] at hy; cases hy
    rw [if_pos rfl, if_pos hk]
  · rw [if_neg (fun e => hik e.symm)]
    exact h i y hy (by omega)

theorem UpB.row {cur : Array Value} {xs : List UInt8} (h : UpB cur xs xs.length) : Row encB cur xs :=
  row_of encB cur xs fun i x hx j hj => by
    obtain rfl : j = 0 := by have : j < 1 := hj; omega
    have := h i x hx (List.getElem?_eq_some_iff.1 hx).1
    show cur[i * 1 + 0]? = (encB.enc x)[0]?
    rw [show i * 1 + 0 = i by omega, this]
    rfl

theorem ext_chk (bs : List UInt8) (j : Nat) : ((bstr bs).extract (8 * j) (8 * j + 8)).data.toList = chk bs j := by
  unfold chk bstr
  simp

set_option maxRecDepth 100000 in
set_option maxHeartbeats 4000000 in
theorem l1Pack_any (o : Int) (s : ByteArray) (w : World) (ho : o = 0 ∨ o = 1) (hs : s.size ≤ 32000) (hbv : BV s.data.toList) :
    Calls Tryz.prog 80 #[.int .i64 o, .string s] w (Ret w (.string (bstr (pckL o s.data.toList)))) := by
  obtain ⟨i0, hi, hz0, hz1, hz2⟩ := info_parts infoByte
  obtain ⟨N, hN⟩ : ∃ N, (s.size + 7) / 8 = N := ⟨_, rfl⟩
  have z1 : (bstr (padL s.data.toList)).size = 8 * N := by rw [bstr_size, padL_len, bytes_len, hN]
  have hN2 : N ≤ 4000 := by omega
  have HBV := Lib.hid hbv
  have HN := Lib.hid hN
  have hmk : ∀ W : World, (Instr.makeSlice 34 (.int .i64 (N : Int)) (.int .i64 (N : Int))).run Tryz.prog W = .ok (.slice (some ⟨W.heap.size, 0, none⟩) N N) (W.alloc (.cells (madeCells (Value.int .u8 0).cells N) 5)) := by
    intro W
    have := run_make (P := Tryz.prog) (w := W) 34 5 i0 _ Tryz.underlying34 hi hz0 .i64 .i64 (N : Int) (N : Int) (by omega) (by omega) (by rw [hz2]; omega) (by omega)
    rw [hz1] at this
    simpa using this
  have e1 : (8 * (N : Int)) / 8 = N := by omega
  clear hbv hN
  go_enter Tryz.func80, Tryz.ntmps80
  go_wp2_with (go_at_call 122; refine (l1Pad_any _ _ hs).mono ?_; rintro e w' ⟨rfl, xc, rfl⟩)
  have hlen := pckL_len o s.data.toList
  rw [bytes_len, HN.out] at hlen
  have HLEN := Lib.hid hlen
  clear hlen
  go_loopw [7] (fun q wr => ∃ (j : Nat) (cur : Array Value) (y : Ext), j ≤ N ∧ q = .int .i64 j ∧ cur.size = N ∧ UpB cur (pckL o s.data.toList) j ∧ wr = plus ((plus w xc).alloc (.cells cur 5)) y) (fun q _ => N - (intOf q).toNat)
  case atStart => exact ⟨0, _, _, Nat.zero_le _, rfl, by simp [size_madeCells], fun i x _ h => absurd h (by omega), (plus_self _).symm⟩
  case round =>
    obtain ⟨j, cur, y, hj, rfl, hcs, hup, rfl⟩ := hrel
    have HC := Lib.hid hcs
    have HU := Lib.hid hup
    have hge : j < N → ∃ v, cur[j]? = some v := fun h => get_some (by omega)
    clear hcs hup
    rcases dec (j < N) with ⟨hlt, v1⟩ | ⟨hlt, v1⟩
    · obtain ⟨v9, hv9⟩ := hge hlt
      clear hge
      obtain ⟨t, ht⟩ : ∃ t, (bstr (padL s.data.toList)).extract (8 * j) (8 * j + 8) = t := ⟨_, rfl⟩
      have htb : t.data.toList = chk (padL s.data.toList) j := by rw [← ht, ext_chk]
      have htl : t.size = 8 := by rw [← bytes_len, htb, chk_len, padL_len, bytes_len, HN.out]; omega
      have htv : BV t.data.toList := by
        intro b hb
        rw [htb] at hb
        exact padL_bv HBV.out b (List.mem_of_mem_drop (List.mem_of_mem_take hb))
      have hcall := fun (W : World) => l1Number_any o t W ho (by omega) htv
      have hp8 : chk (padL s.data.toList) j = pad8 (chk s.data.toList j) := padL_chk (by rw [bytes_len, HN.out]; exact hlt)
      have hc8 : (chk s.data.toList j).length ≤ 8 := by rw [chk_len]; omega
      obtain ⟨n0, n1⟩ := pkB_bd (o := o) _ hc8
      have hpk : pkB o s.data.toList j = UInt8.ofNat (numL o t.data.toList).toNat := by unfold pkB; rw [htb, hp8]
      rw [← hp8, ← htb] at n0 n1
      have HBK := Lib.hid (show ((pkB o s.data.toList j).toNat : Int) = numL o t.data.toList by rw [hpk]; exact byte_back n0 n1)
      have HG := Lib.hid (show (pckL o s.data.toList)[j]? = some (pkB o s.data.toList j) from pckL_get (by rw [bytes_len, HN.out]; exact hlt))
      have HT := Lib.hid ht
      have HCL := Lib.hid hcall
      have hsl := fun (W : World) => run_slice_string (P := Tryz.prog) W 9 (bstr (padL s.data.toList)) .i64 .i64 (8 * (j : Int)) (8 * (j : Int) + 8) Tryz.underlying9 (by omega) (by omega) (by omega)
      simp only [show (8 * (j : Int)).toNat = 8 * j by omega, show (8 * (j : Int) + 8).toNat = 8 * j + 8 by omega, HT.out] at hsl
      clear htb htl htv hcall hp8 hc8 hpk ht
      generalize numL o t.data.toList = n at *
      have hmod : n % 256 = n := by omega
      go_wp2_with (go_at_call 123; refine (HCL.out _).mono ?_; rintro e w' ⟨rfl, xn, rfl⟩)
      go_roundw
      case rel =>
        refine ⟨j + 1, _, _, by omega, by go_num, ?_, ?_, rfl⟩
        · rw [Array.size_setIfInBounds]; exact HC.out
        · have := HU.out.step HG.out (by rw [HC.out]; exact hlt)
          rw [HBK.out] at this
          exact this
      case measure => simp [intOf]; omega
    · obtain rfl : j = N := by omega
      have hown : Own encB 5 (plus ((plus w xc).alloc (.cells cur 5)) y) (some ⟨w.heap.size + xc.n, 0, none⟩) j (pckL o s.data.toList) w.heap.size :=
        Own.plus (Own.newAt (by simp) (by omega) (by rw [HC.out]; simp [encB]) (UpB.row (by rw [HLEN.out]; exact HU.out)) (by rw [HLEN.out]; exact Nat.le_refl _) (by omega)) _
      have hcv := run_str_own (P := Tryz.prog) Tryz.underlying34 Tryz.underlying5 Tryz.underlying9 hown
      rw [HLEN.out] at hcv
      clear hown
      go_wp2
      go_ret
      exact ret_of (by simp) (by repeat (first | exact More.refl _ | apply More.plus | apply More.alloc | apply More.drew | apply More.drewN))

theorem isBit_iff (b : UInt8) : isBit b = true ↔ (b = 48 ∨ b = 49) := by
  unfold isBit
  simp only [decide_eq_true_eq]
  constructor
  · rintro (h | h)
    · exact .inl (UInt8.toNat_inj.1 (by rw [h]; rfl))
    · exact .inr (UInt8.toNat_inj.1 (by rw [h]; rfl))
  · rintro (rfl | rfl)
    · exact .inl rfl
    · exact .inr rfl

theorem bitsB_bv {s : ByteArray} : bitsB s = true ↔ (s.size ≤ 32000 ∧ BV s.data.toList) := by
  unfold bitsB allB BV
  simp only [Bool.and_eq_true, decide_eq_true_eq, List.all_eq_true, isBit_iff]

end Go.Proofs.YtmddcbebaijjkaaGreatDoor
