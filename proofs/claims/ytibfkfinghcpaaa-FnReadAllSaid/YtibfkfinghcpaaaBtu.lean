/- Bits of bytes: the walks of l1Code, unpackBytes, l1Unpack. -/
import Derived.Test.YtibfkfinghcpaaaBts
import Derived.Test.YtibfkfinghcpaaaGe
namespace Go.Proofs.Ytibfkfinghcpaaa
open Go.RowKit
set_option linter.unusedVariables false
set_option linter.unusedSimpArgs false

theorem lowL_succ (n : Int) (k : Nat) : lowL n (k + 1) = lowL n k ++ [bt n k] := by unfold lowL; rw [List.range_succ]; simp

theorem bits_low (n : Int) (k : Nat) : bitsL 0 n (k + 1) = bitsL 0 n k ++ [bt n k] := lowL_succ n k

theorem bits_high (n : Int) (k : Nat) : bitsL 1 n (k + 1) = bt n k :: bitsL 1 n k := by
  show (lowL n (k + 1)).reverse = bt n k :: (lowL n k).reverse
  rw [lowL_succ]; simp

theorem one_bstr (n : Int) : one n = bstr [UInt8.ofNat n.toNat] := rfl

set_option maxRecDepth 100000 in
set_option maxHeartbeats 2000000 in
theorem l1Code_any (o n : Int) (wn : Nat) (w : World) (ho : o = 0 ∨ o = 1) (hn0 : 0 ≤ n) (hn1 : n < 1024) (hw : wn ≤ 10) :
    Calls Try.prog 109 #[.int .i64 o, .int .i64 n, .int .i64 wn] w (Ret w (.string (bstr (bitsL o n wn)))) := by
  go_enter Try.func109, Try.ntmps109
  go_wp2
  go_loopw [7, 8] (fun s q wr => ∃ (k : Nat), k ≤ wn ∧ q = .int .i64 k ∧ s = .string (bstr (bitsL o n k)) ∧ More w wr) (fun _ q _ => wn - (intOf q).toNat)
  case atStart => exact ⟨0, Nat.zero_le _, rfl, by rcases ho with rfl | rfl <;> rfl, More.refl _⟩
  case round =>
    obtain ⟨k, hk, rfl, rfl, x, rfl⟩ := hrel
    rcases dec (k < wn) with ⟨hlt, v1⟩ | ⟨hlt, v1⟩
    · obtain ⟨p1, p2⟩ := pow_bd (k := k) (by omega)
      have hq0 : 0 ≤ n / 2 ^ k := Int.ediv_nonneg hn0 (by omega)
      have hq1 : n / 2 ^ k < 1024 := Int.lt_of_le_of_lt (Int.ediv_le_self _ hn0) hn1
      have e1 := bits_one hq0 hq1
      by_cases hb : n / 2 ^ k % 2 = 1
      · have HBT := Lib.hid (show bt n k = 49 by unfold bt; rw [if_pos hb])
        rw [hb] at e1
        clear hb
        have hcv := run_one (P := Try.prog) (W := plus w x) Try.underlying22 Try.underlying5 Try.underlying9 (w.heap.size + x.n) 49 (by omega) (by omega) (by simp)
        have z1 : (bstr (bitsL o n k)).size ≤ 10 := by rw [bstr_size, bitsL_len]; omega
        have z2 : (one 49).size ≤ 1 := Nat.le_refl _
        rcases ho with rfl | rfl
        · have HS := Lib.hid (show bstr (bitsL 0 n k) ++ one 49 = bstr (bitsL 0 n (k + 1)) by rw [bits_low, one_bstr, bstr_app, HBT.out]; rfl)
          go_wp2
          go_roundw
          case rel => exact ⟨k + 1, by omega, by go_num, by rw [← HS.out], (by repeat (first | exact More.refl _ | apply More.plus | apply More.alloc | apply More.drew | apply More.drewN))⟩
          case measure => simp [intOf]; omega
        · have HS := Lib.hid (show one 49 ++ bstr (bitsL 1 n k) = bstr (bitsL 1 n (k + 1)) by rw [bits_high, one_bstr, bstr_app, HBT.out]; rfl)
          go_wp2
          go_roundw
          case rel => exact ⟨k + 1, by omega, by go_num, by rw [← HS.out], (by repeat (first | exact More.refl _ | apply More.plus | apply More.alloc | apply More.drew | apply More.drewN))⟩
          case measure => simp [intOf]; omega
      · have HBT := Lib.hid (show bt n k = 48 by unfold bt; rw [if_neg hb])
        rw [show n / 2 ^ k % 2 = 0 by omega] at e1
        clear hb
        have hcv := run_one (P := Try.prog) (W := plus w x) Try.underlying22 Try.underlying5 Try.underlying9 (w.heap.size + x.n) 48 (by omega) (by omega) (by simp)
        have z1 : (bstr (bitsL o n k)).size ≤ 10 := by rw [bstr_size, bitsL_len]; omega
        have z2 : (one 48).size ≤ 1 := Nat.le_refl _
        rcases ho with rfl | rfl
        · have HS := Lib.hid (show bstr (bitsL 0 n k) ++ one 48 = bstr (bitsL 0 n (k + 1)) by rw [bits_low, one_bstr, bstr_app, HBT.out]; rfl)
          go_wp2
          go_roundw
          case rel => exact ⟨k + 1, by omega, by go_num, by rw [← HS.out], (by repeat (first | exact More.refl _ | apply More.plus | apply More.alloc | apply More.drew | apply More.drewN))⟩
          case measure => simp [intOf]; omega
        · have HS := Lib.hid (show one 48 ++ bstr (bitsL 1 n k) = bstr (bitsL 1 n (k + 1)) by rw [bits_high, one_bstr, bstr_app, HBT.out]; rfl)
          go_wp2
          go_roundw
          case rel => exact ⟨k + 1, by omega, by go_num, by rw [← HS.out], (by repeat (first | exact More.refl _ | apply More.plus | apply More.alloc | apply More.drew | apply More.drewN))⟩
          case measure => simp [intOf]; omega
    · obtain rfl : k = wn := by omega
      go_wp2
      go_ret
      exact Ret.mk (by repeat (first | exact More.refl _ | apply More.plus | apply More.alloc | apply More.drew | apply More.drewN))

/-- the bits of bytes -/
def unpL (o : Int) (bs : List UInt8) : List UInt8 := bs.flatMap fun b => bitsL o b.toNat 8

theorem unpL_len (o : Int) : ∀ bs : List UInt8, (unpL o bs).length = 8 * bs.length
  | [] => rfl
  | b :: bs => by
    have : unpL o (b :: bs) = bitsL o b.toNat 8 ++ unpL o bs := rfl
    rw [this, List.length_append, bitsL_len, unpL_len o bs, List.length_cons]; omega

theorem unpL_snoc (o : Int) (bs : List UInt8) (b : UInt8) : unpL o (bs ++ [b]) = unpL o bs ++ bitsL o b.toNat 8 := by simp [unpL]

theorem take_get {s : ByteArray} {k : Nat} (h : k < s.size) : s.data.toList.take (k + 1) = s.data.toList.take k ++ [s[k]] := by
  rw [List.take_add_one, List.getElem?_eq_getElem (by rw [bytes_len]; exact h), bytes_get h]; rfl

/-- a slice of bytes that lies somewhere, made a string -/
theorem run_str_some {P : Program} {W : World} {src dst e : TypeId} (hs : P.underlying src = some (.slice e)) (he : P.underlying e = some (.int .u8)) (hd : P.underlying dst = some .string)
    {a : Addr} {cap : Nat} {bs : List UInt8} (h : Rd encB W (some a) cap bs) : (convert src dst (.slice (some a) bs.length cap)).run P W = .ok (.string (bstr bs)) W := by
  rcases Nat.eq_zero_or_pos bs.length with h0 | h0
  · obtain rfl : bs = [] := List.eq_nil_of_length_eq_zero h0
    show (convert src dst (.slice (some a) 0 cap)).run P W = _
    rw [run_convert_bytes_string W src dst e (some a) 0 cap hs he hd]
    have hl : (loadCells a 0).run P W = .ok (([] : List Int).map (Value.int .u8)).toArray W := by
      have := run_loadCells_list (P := P) W a [] (fun j v hj => by simp at hj)
      simpa using this
    rw [run_bytesToString W _ _ _ _ hl]
    rfl
  · exact run_str hs he hd h h0

set_option maxRecDepth 100000 in
set_option maxHeartbeats 2000000 in
theorem unpackBytes_any (o : Int) (s : ByteArray) (w : World) (hs : s.size ≤ 4000) :
    Calls Try.prog 83 #[.int .i64 o, .string s] w (Ret w (.string (bstr (unpL o s.data.toList)))) := by
  obtain ⟨i0, hi, hz0, hz1, hz2⟩ := info_parts infoByte
  have hmk : ∀ W : World, (Instr.makeSlice 22 (.int .i64 0) (.int .i64 (8 * (s.size : Int)))).run Try.prog W = .ok (.slice (some ⟨W.heap.size, 0, none⟩) 0 (8 * s.size)) (W.alloc (.cells (madeCells (Value.int .u8 0).cells (8 * s.size)) 5)) := by
    intro W
    have := run_make (P := Try.prog) (w := W) 22 5 i0 _ Try.underlying22 hi hz0 .i64 .i64 (0 : Int) (8 * (s.size : Int)) (by omega) (by omega) (by rw [hz2]; omega) (by omega)
    rw [hz1] at this
    have e : (8 * (s.size : Int)).toNat = 8 * s.size := by omega
    rw [e] at this
    simpa using this
  go_enter Try.func83, Try.ntmps83
  go_wp2
  go_loopw [5, 13] (fun t q wr => ∃ (k : Nat) (ys : List UInt8) (A' : Addr) (c' : Nat), k ≤ s.size ∧ q = .int .i64 k ∧ t = .slice (some A') ys.length c' ∧ ys = unpL o (s.data.toList.take k) ∧ Own encB 5 wr (some A') c' ys w.heap.size ∧ Below w.heap.size w wr) (fun _ q _ => s.size - (intOf q).toNat)
  case atStart =>
    exact ⟨0, [], _, _, Nat.zero_le _, rfl, rfl, by simp [unpL], Own.newAt rfl (Nat.le_refl _) (by simp [size_madeCells, encB]) (row_of encB _ _ (fun i x h => by simp at h)) (by simp) (by omega), (by repeat (first | exact Below.refl _ _ | refine below_plus ?_ (by first | omega | (simp <;> omega)) _ | refine Below.alloc ?_ (by first | omega | (simp <;> omega)) _ | refine below_patch ?_ (by omega) _ | refine Below.drew ?_))⟩
  case round =>
    obtain ⟨k, ys, A', c', hk, rfl, rfl, hys, hown, hbl⟩ := hrel
    have HO := Lib.hid hown
    have hsz := hbl.size
    have HB := Lib.hid hbl
    have HY := Lib.hid hys
    have hyl : ys.length ≤ 32000 := by rw [hys, unpL_len, List.length_take, bytes_len]; omega
    clear hown hbl hys
    rcases dec (k < s.size) with ⟨hlt, v1⟩ | ⟨hlt, v1⟩
    · have hb := (s[k]).toNat_lt
      have HT := Lib.hid (take_get hlt)
      go_wp2_with fail
      refine (appendBits_any (some A') c' ys w.heap.size o _ 8 _ HO.out hsz (by omega) (by omega) (by omega) (by omega)).mono ?_
      rintro e w6 ⟨A6', c6, rfl, hown6, hg6, hw6⟩
      obtain ⟨b6, cur6, rfl, _⟩ := own_some hown6 (by rw [List.length_append, bitsL_len]; omega)
      obtain ⟨A6, hA6⟩ : ∃ X, (⟨b6, 0, none⟩ : Addr) = X := ⟨_, rfl⟩
      rw [hA6] at hown6 ⊢
      have HO6 := Lib.hid hown6
      have HB6 := Lib.hid (HB.out.trans (hg6.below hsz fun X hX => (own_lt HO.out X hX).1))
      clear hown6 hg6 hw6 hA6
      go_wp2_with fail
      go_roundw
      case rel =>
        exact ⟨k + 1, ys ++ bitsL o (s[k].toNat : Int) 8, A6, c6, by omega, by go_num, by simp, by rw [HT.out, unpL_snoc, HY.out], HO6.out, HB6.out⟩
      case measure => simp [intOf]; omega
    · obtain rfl : k = s.size := by omega
      have hcv := fun (W : World) (h : Rd encB W (some A') c' ys) => run_str_some (P := Try.prog) Try.underlying22 Try.underlying5 Try.underlying9 h
      have hcv2 := hcv _ HO.out.rd
      have HS := Lib.hid (show bstr ys = bstr (unpL o s.data.toList) by rw [HY.out, List.take_of_length_le (by rw [bytes_len]; exact Nat.le_refl _)])
      clear hcv
      go_wp2
      go_ret
      exact ret_of (by rw [← HS.out]; simp) (below_more HB.out)

set_option maxRecDepth 100000 in
set_option maxHeartbeats 2000000 in
theorem l1Unpack_any (o : Int) (s : ByteArray) (w : World) (ho : o = 0 ∨ o = 1) (hs : s.size ≤ 4000) :
    Calls Try.prog 64 #[.int .i64 o, .string s] w (Ret w (.string (bstr (unpL o s.data.toList)))) := by
  obtain ⟨i0, hi, hz0, hz1, hz2⟩ := info_parts infoByte
  have hmk : ∀ W : World, (Instr.makeSlice 22 (.int .i64 0) (.int .i64 (8 * (s.size : Int)))).run Try.prog W = .ok (.slice (some ⟨W.heap.size, 0, none⟩) 0 (8 * s.size)) (W.alloc (.cells (madeCells (Value.int .u8 0).cells (8 * s.size)) 5)) := by
    intro W
    have := run_make (P := Try.prog) (w := W) 22 5 i0 _ Try.underlying22 hi hz0 .i64 .i64 (0 : Int) (8 * (s.size : Int)) (by omega) (by omega) (by rw [hz2]; omega) (by omega)
    rw [hz1] at this
    have e : (8 * (s.size : Int)).toNat = 8 * s.size := by omega
    rw [e] at this
    simpa using this
  go_enter Try.func64, Try.ntmps64
  go_wp2
  go_loopw [5, 6] (fun t q wr => ∃ (k : Nat) (ys : List UInt8) (A' : Addr) (c' : Nat), k ≤ s.size ∧ q = .int .i64 k ∧ t = .slice (some A') ys.length c' ∧ ys = unpL o (s.data.toList.take k) ∧ Own encB 5 wr (some A') c' ys w.heap.size ∧ Below w.heap.size w wr) (fun _ q _ => s.size - (intOf q).toNat)
  case atStart =>
    exact ⟨0, [], _, _, Nat.zero_le _, rfl, rfl, by simp [unpL], Own.newAt rfl (Nat.le_refl _) (by simp [size_madeCells, encB]) (row_of encB _ _ (fun i x h => by simp at h)) (by simp) (by omega), (by repeat (first | exact Below.refl _ _ | refine below_plus ?_ (by first | omega | (simp <;> omega)) _ | refine Below.alloc ?_ (by first | omega | (simp <;> omega)) _ | refine below_patch ?_ (by omega) _ | refine Below.drew ?_))⟩
  case round =>
    obtain ⟨k, ys, A', c', hk, rfl, rfl, hys, hown, hbl⟩ := hrel
    have HO := Lib.hid hown
    have hsz := hbl.size
    have HB := Lib.hid hbl
    have HY := Lib.hid hys
    have hyl : ys.length ≤ 32000 := by rw [hys, unpL_len, List.length_take, bytes_len]; omega
    clear hown hbl hys
    rcases dec (k < s.size) with ⟨hlt, v1⟩ | ⟨hlt, v1⟩
    · have hb := (s[k]).toNat_lt
      have HT := Lib.hid (take_get hlt)
      go_wp2_with fail
      refine (l1Code_any o _ 8 _ ho (by omega) (by omega) (by omega)).mono ?_
      rintro e w5 ⟨rfl, x5, rfl⟩
      have z5 : (bstr (bitsL o (s[k].toNat : Int) 8)).size = 8 := by rw [bstr_size, bitsL_len]
      have d5 : (bstr (bitsL o (s[k].toNat : Int) 8)).data.toList = bitsL o (s[k].toNat : Int) 8 := bytes_bstr _
      have D5 := Lib.hid d5
      clear d5
      go_wp2_with (at_builtin; refine wpList_append_str _ _ _ _ _ i0 rfl rfl Try.underlying22 Try.underlying9 hi hz0 hz1 hz2 ys (some A') c' w.heap.size (by repeat (first | (with_reducible exact HO.out) | (with_reducible apply Own.plus) | (with_reducible apply Own.alloc) | (with_reducible apply Own.drew))) rfl _ rfl (by omega) (by simp <;> omega) ?_; intro A6' c6 w6 hw6 hg6 hx6; rw [D5.out] at hw6 ⊢; obtain ⟨b6, cur6, rfl, _⟩ := own_some hw6 (by rw [List.length_append, bitsL_len]; omega); obtain ⟨A6, hA6⟩ : ∃ X, (⟨b6, 0, none⟩ : Addr) = X := ⟨_, rfl⟩; rw [hA6] at hw6 ⊢; have HO6 := Lib.hid hw6; have HB6 := Lib.hid (HB.out.trans (Below.trans (b := plus wr x5) (by repeat (first | exact Below.refl _ _ | refine below_plus ?_ (by first | omega | (simp <;> omega)) _ | refine Below.alloc ?_ (by first | omega | (simp <;> omega)) _ | refine below_patch ?_ (by omega) _ | refine Below.drew ?_)) (hg6.below (by simp <;> omega) fun X hX => (own_lt HO.out X hX).1))); clear hw6 hg6 hA6)
      go_roundw
      case rel =>
        exact ⟨k + 1, ys ++ bitsL o (s[k].toNat : Int) 8, A6, c6, by omega, by go_num, by simp, by rw [HT.out, unpL_snoc, HY.out], HO6.out, HB6.out⟩
      case measure => simp [intOf]; omega
    · obtain rfl : k = s.size := by omega
      have hcv := fun (W : World) (h : Rd encB W (some A') c' ys) => run_str_some (P := Try.prog) Try.underlying22 Try.underlying5 Try.underlying9 h
      have hcv2 := hcv _ HO.out.rd
      have HS := Lib.hid (show bstr ys = bstr (unpL o s.data.toList) by rw [HY.out, List.take_of_length_le (by rw [bytes_len]; exact Nat.le_refl _)])
      clear hcv
      go_wp2
      go_ret
      exact ret_of (by rw [← HS.out]; simp) (below_more HB.out)

end Go.Proofs.Ytibfkfinghcpaaa
