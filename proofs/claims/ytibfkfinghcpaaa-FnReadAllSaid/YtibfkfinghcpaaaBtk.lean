/- Bits packed into bytes: the plain form, and the walks of packBytes, l9Many, l1Pad, l1Pack. -/
import Derived.Test.YtibfkfinghcpaaaBtn
namespace Go.Proofs.Ytibfkfinghcpaaa
open Go.RowKit
set_option linter.unusedVariables false
set_option linter.unusedSimpArgs false

/-- eight bits, with zeros at the end -/
def pad8 (c : List UInt8) : List UInt8 := c ++ List.replicate (8 - c.length) 48

/-- chunk j of some bits -/
def chk (bs : List UInt8) (j : Nat) : List UInt8 := (bs.drop (8 * j)).take 8

/-- byte j of packed bits -/
def pkB (o : Int) (bs : List UInt8) (j : Nat) : UInt8 := UInt8.ofNat (numL o (pad8 (chk bs j))).toNat

/-- bits packed into bytes -/
def pckL (o : Int) (bs : List UInt8) : List UInt8 := (List.range ((bs.length + 7) / 8)).map (pkB o bs)

theorem pckL_len (o : Int) (bs : List UInt8) : (pckL o bs).length = (bs.length + 7) / 8 := by simp [pckL]

theorem pckL_get {o : Int} {bs : List UInt8} {j : Nat} (h : j < (bs.length + 7) / 8) : (pckL o bs)[j]? = some (pkB o bs j) := by simp [pckL, h]

theorem pckL_take {o : Int} {bs : List UInt8} {j : Nat} (h : j < (bs.length + 7) / 8) : (pckL o bs).take (j + 1) = (pckL o bs).take j ++ [pkB o bs j] := by
  rw [List.take_add_one, pckL_get h]; rfl

theorem chk_len (bs : List UInt8) (j : Nat) : (chk bs j).length = min 8 (bs.length - 8 * j) := by unfold chk; rw [List.length_take, List.length_drop]

theorem chk_get {bs : List UInt8} {j i : Nat} (h : i < 8) : (chk bs j)[i]? = bs[8 * j + i]? := by
  unfold chk
  rw [List.getElem?_take, if_pos h, List.getElem?_drop]

theorem pad8_num {o : Int} {c : List UInt8} (h : c.length ≤ 8) : numL o (pad8 c) = numK o 8 c c.length := by
  unfold numL numK pad8
  split
  · rw [hor_zeros, List.take_length]
  · rw [List.reverse_append, List.reverse_replicate, zeros_hor, List.take_length]

theorem pkB_bd {o : Int} (c : List UInt8) (h : c.length ≤ 8) : 0 ≤ numL o (pad8 c) ∧ numL o (pad8 c) ≤ 255 := by
  have hl : (pad8 c).length = 8 := by unfold pad8; rw [List.length_append, List.length_replicate]; omega
  unfold numL
  have h1 := hor_bd (if o = 1 then pad8 c else (pad8 c).reverse)
  have h2 : (if o = 1 then pad8 c else (pad8 c).reverse).length = 8 := by split <;> simp [hl]
  rw [h2] at h1
  have : (2 : Int) ^ 8 = 256 := by decide
  omega

theorem byte_back {n : Int} (h0 : 0 ≤ n) (h1 : n ≤ 255) : ((UInt8.ofNat n.toNat).toNat : Int) = n := by
  rw [UInt8.toNat_ofNat']; omega

/-- an own slice of bytes, made a string -/
theorem run_str_own {P : Program} {W : World} {src dst e e' : TypeId} (hs : P.underlying src = some (.slice e)) (he : P.underlying e = some (.int .u8)) (hd : P.underlying dst = some .string)
    {A : Option Addr} {cap lo : Nat} {bs : List UInt8} (h : Own encB e' W A cap bs lo) : (convert src dst (.slice A bs.length cap)).run P W = .ok (.string (bstr bs)) W := by
  rcases h with ⟨rfl, rfl, rfl⟩ | h
  · show (convert src dst (.slice none 0 0)).run P W = _
    rw [run_convert_bytes_string W src dst e none 0 0 hs he hd]
    rfl
  · obtain ⟨b, cur, rfl, h1⟩ := h
    exact run_str_some hs he hd (Own.rd (e := e') (lo := lo) (.inr ⟨b, cur, rfl, h1⟩))

set_option maxRecDepth 100000 in
set_option maxHeartbeats 4000000 in
theorem packBytes_any (o : Int) (s : ByteArray) (w : World) (hs : s.size ≤ 32000) :
    Calls Try.prog 127 #[.int .i64 o, .string s] w (Ret w (.string (bstr (pckL o s.data.toList)))) := by
  obtain ⟨i0, hi, hz0, hz1, hz2⟩ := info_parts infoByte
  go_enter Try.func127, Try.ntmps127
  go_wp2
  go_loopw [5, 6] (fun t q wr => ∃ (j : Nat) (ys : List UInt8) (A' : Option Addr) (c' : Nat), j ≤ (s.size + 7) / 8 ∧ q = .int .i64 (8 * j) ∧ t = .slice A' ys.length c' ∧ ys = (pckL o s.data.toList).take j ∧ Own encB 5 wr A' c' ys w.heap.size ∧ Below w.heap.size w wr) (fun _ q _ => s.size + 8 - (intOf q).toNat)
  case atStart => exact ⟨0, [], none, 0, Nat.zero_le _, rfl, rfl, by simp, .inl ⟨rfl, rfl, rfl⟩, Below.refl _ _⟩
  case round =>
    obtain ⟨j, ys, A', c', hj, rfl, rfl, hys, hown, hbl⟩ := hrel
    have HO := Lib.hid hown
    have hsz := hbl.size
    have HB := Lib.hid hbl
    have HY := Lib.hid hys
    have hyl : ys.length ≤ 4000 := by rw [hys, List.length_take, pckL_len, bytes_len]; omega
    clear hown hbl hys
    rcases dec (8 * j < s.size) with ⟨hlt, v1⟩ | ⟨hlt, v1⟩
    · have v2 : decide ((8 * (j : Int)) < (s.size : Int)) = true := by simp; omega
      obtain ⟨c, hc⟩ : ∃ c, chk s.data.toList j = c := ⟨_, rfl⟩
      have hcl : c.length = min 8 (s.size - 8 * j) := by rw [← hc, chk_len, bytes_len]
      have hm : min 8 ((s.size : Int) - 8 * j) = c.length := by rw [hcl]; omega
      have hc8 : c.length ≤ 8 := by omega
      have hcs : 8 * j + c.length ≤ s.size := by omega
      have HC := Lib.hid hc
      have HCL := Lib.hid hcl
      clear hc hcl
      go_wp2
      go_loopw [7, 20] (fun t q w2 => ∃ (i : Nat), i ≤ c.length ∧ q = .int .i64 i ∧ t = .int .i64 (numK o 8 c i) ∧ More wr w2) (fun _ q _ => c.length - (intOf q).toNat)
      case atStart => exact ⟨0, Nat.zero_le _, rfl, by rw [numK_zero], (by repeat (first | exact More.refl _ | apply More.plus | apply More.alloc | apply More.drew | apply More.drewN))⟩
      case round =>
        obtain ⟨i, hi8, rfl, rfl, x, rfl⟩ := hrel
        rcases dec (i < c.length) with ⟨hlt2, v3⟩ | ⟨hlt2, v3⟩
        · have hsi : 8 * j + i < s.size := by omega
          have hget : c[i]? = some s[8 * j + i] := by
            rw [← HC.out, chk_get (by omega), List.getElem?_eq_getElem (by rw [bytes_len]; exact hsi), bytes_get hsi]
          have HST := Lib.hid (numK_step (o := o) (w := 8) hget (by omega))
          have hbd := numK_bd (o := o) (w := 8) (bs := c) (k := i) hi8 hc8 (by omega)
          have hbd2 := numK_bd (o := o) (w := 8) (bs := c) (k := i + 1) hlt2 hc8 (by omega)
          have hix := ixB_lt (o := o) (w := 8) (i := i) (by omega)
          have hcall := fun (W : World) => place_any o i 8 W (by omega) (by omega)
          obtain ⟨p1, p2⟩ := pow_bd (k := ixB o 8 i) (by omega)
          generalize hm2 : numK o 8 c (i + 1) = m2 at *
          have HM2 := Lib.hid hm2
          clear hm2
          generalize numK o 8 c i = m1 at *
          generalize (2 : Int) ^ ixB o 8 i = p at *
          by_cases hb : s[8 * j + i] = 49
          · have v4 : s[8 * j + i].toNat = 49 := by rw [hb]; rfl
            have HM := Lib.hid (show m1 + p = m2 by have := HST.out; rw [hb, show bv1 49 = 1 by decide] at this; omega)
            clear hb hget
            go_wp2_with (go_at_call 125; refine (hcall _).mono ?_; rintro e w' ⟨rfl, xc, rfl⟩)
            go_roundw
            case rel => exact ⟨i + 1, by omega, by go_num, by rw [HM2.out, ← HM.out], (by repeat (first | exact More.refl _ | apply More.plus | apply More.alloc | apply More.drew | apply More.drewN))⟩
            case measure => simp [intOf]; omega
          · have v4 : ((s[8 * j + i].toNat : Int) == 49) = false := by
              simp only [beq_eq_false_iff_ne, ne_eq]
              intro q
              exact hb (UInt8.toNat_inj.1 (by have : s[8 * j + i].toNat = 49 := by omega
                                              rw [this]; rfl))
            have HM := Lib.hid (show m1 = m2 by have := HST.out; rw [show bv1 s[8 * j + i] = 0 by unfold bv1; rw [if_neg hb]] at this; omega)
            clear hb hget
            go_wp2_with fail
            go_roundw
            case rel => exact ⟨i + 1, by omega, by go_num, by rw [HM2.out, ← HM.out], (by repeat (first | exact More.refl _ | apply More.plus | apply More.alloc | apply More.drew | apply More.drewN))⟩
            case measure => simp [intOf]; omega
        · obtain rfl : i = c.length := by omega
          obtain ⟨n0, n1⟩ := pkB_bd (o := o) c hc8
          have HP := Lib.hid (show UInt8.ofNat (numK o 8 c c.length).toNat = pkB o s.data.toList j by unfold pkB; rw [HC.out, pad8_num hc8])
          rw [pad8_num hc8] at n0 n1
          generalize numK o 8 c c.length = n at *
          have hmod : n % 256 = n := by omega
          have HT := Lib.hid (pckL_take (o := o) (bs := s.data.toList) (j := j) (by rw [bytes_len]; omega))
          go_wp2_with (at_builtin; refine wpList_append_at encB _ _ _ _ i0 _ 1 rfl rfl Try.underlying22 hi hz0 hz1 hz2 rfl (by decide) ys A' c' w.heap.size (by repeat (first | (with_reducible exact HO.out) | (with_reducible apply Own.plus) | (with_reducible apply Own.alloc) | (with_reducible apply Own.drew))) rfl [UInt8.ofNat n.toNat] _ 0 1 (one_cells _ _ n n0 n1 (by simp)) rfl (by first | omega | rfl | (simp <;> omega) | (simp only [List.length_cons, List.length_nil, plus_size, World.size_alloc]; omega)) (by first | omega | rfl | (simp <;> omega) | (simp only [List.length_cons, List.length_nil, plus_size, World.size_alloc]; omega)) (by simp <;> omega) ?_; intro A6 c6 w6 hw6 hg6 hx6; have HO6 := Lib.hid hw6; have HB6 := Lib.hid (HB.out.trans (Below.trans (b := _) (by repeat (first | exact Below.refl _ _ | refine below_plus ?_ (by first | omega | (simp <;> omega)) _ | refine Below.alloc ?_ (by first | omega | (simp <;> omega)) _ | refine below_patch ?_ (by omega) _ | refine Below.drew ?_)) (hg6.below (by simp <;> omega) fun X hX => (own_lt HO.out X hX).1))); clear hw6 hg6 hx6)
          go_roundw
          case rel =>
            exact ⟨j + 1, ys ++ [UInt8.ofNat n.toNat], A6, c6, by omega, int_val (by omega), by simp, by rw [HT.out, ← HY.out, HP.out], HO6.out, HB6.out⟩
          case measure => simp [intOf]; omega
    · have v2 : decide ((8 * (j : Int)) < (s.size : Int)) = false := by simp; omega
      have HS := Lib.hid (show bstr ys = bstr (pckL o s.data.toList) by rw [HY.out, List.take_of_length_le (by rw [pckL_len, bytes_len]; omega)])
      have hcv := run_str_own (P := Try.prog) (W := wr) Try.underlying22 Try.underlying5 Try.underlying9 HO.out
      go_wp2
      go_ret
      exact ret_of (by rw [← HS.out]; simp) (below_more HB.out)

/-! ### The reference's packing -/

theorem rep_app (a b : Nat) : bstr (List.replicate a (48 : UInt8)) ++ bstr (List.replicate b 48) = bstr (List.replicate (a + b) 48) := by
  rw [bstr_app, List.replicate_append_replicate]

set_option maxHeartbeats 1000000 in
theorem l9Many_any (n : Nat) (w : World) (hn : n < 8) : Calls Try.prog 58 #[.string ⟨#[48]⟩, .int .i64 n] w (Ret w (.string (bstr (List.replicate n 48)))) := by
  go_enter Try.func58, Try.ntmps58
  go_wp2
  go_loopw [0, 1, 5] (fun s q t wr => ∃ (m a b : Nat), q = .int .i64 m ∧ s = .string (bstr (List.replicate b 48)) ∧ t = .string (bstr (List.replicate a 48)) ∧ a + b * m = n ∧ b ≤ 14 ∧ m ≤ 7 ∧ More w wr) (fun _ q _ _ => (intOf q).toNat)
  case atStart => exact ⟨n, 0, 1, rfl, rfl, rfl, by omega, by omega, by omega, More.refl _⟩
  case round =>
    obtain ⟨m, a, b, rfl, rfl, rfl, hab, hb, hm7, x, rfl⟩ := hrel
    have z1 : (bstr (List.replicate a (48 : UInt8))).size = a := by rw [bstr_size, List.length_replicate]
    have z2 : (bstr (List.replicate b (48 : UInt8))).size = b := by rw [bstr_size, List.length_replicate]
    have R1 := Lib.hid (rep_app a b)
    have R2 := Lib.hid (rep_app b b)
    have HAB := Lib.hid hab
    have ha : a ≤ n := by rw [← hab]; exact Nat.le_add_right _ _
    have hbm : 1 ≤ m → b ≤ 7 := fun h => by have : b * 1 ≤ b * m := Nat.mul_le_mul_left b h; omega
    clear hab
    rcases dec (0 < m) with ⟨hlt, v1⟩ | ⟨hlt, v1⟩
    · have hb7 := hbm hlt
      have v2 : decide ((0 : Int) < (m : Int)) = true := by simp; omega
      have E3 := Lib.hid (show wrap64 ((m : Int) / 2) = (m : Int) / 2 from wrap64_of (by omega) (by omega))
      rcases Nat.mod_two_eq_zero_or_one m with h2 | h2
      · have e2 : (m : Int) % 2 = 0 := by omega
        have HN := Lib.hid (show a + (b + b) * (m / 2) = n by rw [Nat.add_mul, ← Nat.mul_two, Nat.mul_assoc, show m / 2 * 2 = m by omega]; exact HAB.out)
        go_wp2
        go_roundw
        case rel => exact ⟨m / 2, a, b + b, int_val (by first | omega | (rw [E3.out]; omega)), by rw [R2.out], rfl, HN.out, by omega, by omega, (by repeat (first | exact More.refl _ | apply More.plus | apply More.alloc | apply More.drew | apply More.drewN))⟩
        case measure => simp [intOf, E3.out]; omega
      · have e2 : (m : Int) % 2 = 1 := by omega
        have HN := Lib.hid (show (a + b) + (b + b) * (m / 2) = n by
          have h3 : b * m = b + (b + b) * (m / 2) := by
            have h4 : m = m / 2 * 2 + 1 := by omega
            rw [Nat.add_mul, ← Nat.mul_two, Nat.mul_assoc]
            have h5 : b * m = b * (m / 2 * 2) + b := by rw [← Nat.mul_succ]; congr 1
            omega
          have := HAB.out
          omega)
        go_wp2
        go_roundw
        case rel => exact ⟨m / 2, a + b, b + b, int_val (by first | omega | (rw [E3.out]; omega)), by rw [R2.out], by rw [R1.out], HN.out, by omega, by omega, (by repeat (first | exact More.refl _ | apply More.plus | apply More.alloc | apply More.drew | apply More.drewN))⟩
        case measure => simp [intOf, E3.out]; omega
    · obtain rfl : m = 0 := by omega
      have v2 : decide ((0 : Int) < ((0 : Nat) : Int)) = false := by simp
      go_wp2
      go_ret
      exact ret_of (by rw [show n = a by have := HAB.out; omega]; simp) (by repeat (first | exact More.refl _ | apply More.plus | apply More.alloc | apply More.drew | apply More.drewN))

/-- bits, padded to whole bytes -/
def padL (bs : List UInt8) : List UInt8 := bs ++ List.replicate ((8 - bs.length % 8) % 8) 48

theorem padL_len (bs : List UInt8) : (padL bs).length = 8 * ((bs.length + 7) / 8) := by
  unfold padL
  rw [List.length_append, List.length_replicate]
  omega

theorem padL_chk {bs : List UInt8} {j : Nat} (h : j < (bs.length + 7) / 8) : chk (padL bs) j = pad8 (chk bs j) := by
  have hl := chk_len bs j
  unfold pad8
  rw [hl]
  unfold chk padL
  rw [List.drop_append_of_le_length (by omega), List.take_append, List.length_drop]
  congr 1
  rw [List.take_replicate]
  congr 1
  omega

theorem padL_bv {bs : List UInt8} (h : BV bs) : BV (padL bs) := fun b hb => by
  unfold padL at hb
  rcases List.mem_append.1 hb with hb | hb
  · exact h b hb
  · exact .inl (List.eq_of_mem_replicate hb)

theorem l9Many_pad (s : ByteArray) : ∃ P : ByteArray, P.size ≤ 8 ∧ s ++ P = bstr (padL s.data.toList) ∧ ∀ (W : World) (t : ByteArray) (q : Int), t = ⟨#[48]⟩ → q = (8 - (s.size : Int) % 8) % 8 → Calls Try.prog 58 #[.string t, .int .i64 q] W (Ret W (.string P)) := by
  refine ⟨bstr (List.replicate ((8 - s.size % 8) % 8) 48), by rw [bstr_size, List.length_replicate]; omega, ?_, fun W t q ht hq => ?_⟩
  · unfold padL
    rw [bytes_len, ← bstr_app, bstr_bytes]
  · have h := l9Many_any ((8 - s.size % 8) % 8) W (by omega)
    rw [ht, hq]
    rwa [show (((8 - s.size % 8) % 8 : Nat) : Int) = (8 - (s.size : Int) % 8) % 8 by omega] at h

set_option maxRecDepth 100000 in
theorem l1Pad_any (s : ByteArray) (w : World) (hs : s.size ≤ 32000) : Calls Try.prog 108 #[.string s] w (Ret w (.string (bstr (padL s.data.toList)))) := by
  obtain ⟨P, z1, hS, hcall⟩ := l9Many_pad s
  have HS := Lib.hid hS
  have HCL := Lib.hid hcall
  clear hS hcall
  generalize bstr (padL s.data.toList) = R at *
  go_enter Try.func108, Try.ntmps108
  go_wp2_with fail
  refine (HCL.out _ _ _ ?_ ?_).mono ?_
  · rfl
  · first | rfl | omega
  rintro e w' ⟨rfl, xc, rfl⟩
  go_wp2
  go_ret
  exact ret_of (by rw [← HS.out]; simp) (by repeat (first | exact More.refl _ | apply More.plus | apply More.alloc | apply More.drew | apply More.drewN))

end Go.Proofs.Ytibfkfinghcpaaa
