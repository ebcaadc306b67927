/- Bits packed into bytes: the plain form, and the walks of packBytes, l9Many, l1Pad, l1Pack. -/
import Derived.Test.YtkpmaifdeeecjaaBtn
namespace Go.Proofs.Ytkpmaifdeeecjaa
open Go.RowKit
set_option linter.unusedVariables false
set_option linter.unusedSimpArgs false

/-- eight bits, with zeros at the end -/
def pad8 (c : List UInt8) : List UInt8 := c ++ List.replicate (8 - c.length) 48

/-- chunk j of some bits -/
def chk (bs : List UInt8) (j : Nat) : List UInt8 := (bs.drop (8 * j)).take 8

/-- byte j of packed bits -/
def pkB (o : Int) (bs : List UInt8) (j : Nat) : UInt8 := UInt8.ofNat (numL o (pad8 (chk bs j))).toNat

/-- bits packed into bytes -/
def pckL (o : Int) (bs : List UInt8) : List UInt8 := (List.range ((bs.length + 7) / 8)).map (pkB o bs)

theorem pckL_len (o : Int) (bs : List UInt8) : (pckL o bs).length = (bs.length + 7) / 8 := by simp [pckL]

theorem pckL_get {o : Int} {bs : List UInt8} {j : Nat} (h : j < (bs.length + 7) / 8) : (pckL o bs)[j]? = some (pkB o bs j) := by simp [pckL, h]

theorem pckL_take {o : Int} {bs : List UInt8} {j : Nat} (h : j < (bs.length + 7) / 8) : (pckL o bs).take (j + 1) = (pckL o bs).take j ++ [pkB o bs j] := by
  rw [List.take_add_one, pckL_get h]; rfl

theorem chk_len (bs : List UInt8) (j : Nat) : (chk bs j).length = min 8 (bs.length - 8 * j) := by unfold chk; rw [List.length_take, List.length_drop]

theorem chk_get {bs : List UInt8} {j i : Nat} (h : i < 8) : (chk bs j)[i]? = bs[8 * j + i]? := by
  unfold chk
  rw [List.getElem?_take, if_pos h, List.getElem?_drop]

theorem pad8_num {o : Int} {c : List UInt8} (h : c.length ≤ 8) : numL o (pad8 c) = numK o 8 c c.length := by
  unfold numL numK pad8
  split
  · rw [hor_zeros, List.take_length]
  · rw [List.reverse_append, List.reverse_replicate, zeros_hor, List.take_length]

theorem pkB_bd {o : Int} (c : List UInt8) (h : c.length ≤ 8) : 0 ≤ numL o (pad8 c) ∧ numL o (pad8 c) ≤ 255 := by
  have hl : (pad8 c).length = 8 := by unfold pad8; rw [List.length_append, List.length_replicate]; omega
  unfold numL
  have h1 := hor_bd (if o = 1 then pad8 c else (pad8 c).reverse)
  have h2 : (if o = 1 then pad8 c else (pad8 c).reverse).length = 8 := by split <;> simp [hl]
  rw [h2] at h1
  have : (2 : Int) ^ 8 = 256 := by decide
  omega

theorem byte_back {n : Int} (h0 : 0 ≤ n) (h1 : n ≤ 255) : ((UInt8.ofNat n.toNat).toNat : Int) = n := by
  rw [UInt8.toNat_ofNat']; omega

/-- an own slice of bytes, made a string -/
theorem run_str_own {P : Program} {W : World} {src dst e e' : TypeId} (hs : P.underlying src = some (.slice e)) (he : P.underlying e = some (.int .u8)) (hd : P.underlying dst = some .string)
    {A : Option Addr} {cap lo : Nat} {bs : List UInt8} (h : Own encB e' W A cap bs lo) : (convert src dst (.slice A bs.length cap)).run P W = .ok (.string (bstr bs)) W := by
  rcases h with ⟨rfl, rfl, rfl⟩ | h
  · show (convert src dst (.slice none 0 0)).run P W = _
    rw [run_convert_bytes_string W src dst e none 0 0 hs he hd]
    rfl
  · obtain ⟨b, cur, rfl, h1⟩ := h
    exact run_str_some hs he hd (Own.rd (e := e') (lo := lo) (.inr ⟨b, cur, rfl, h1⟩))

/-! ### The reference's packing -/

theorem rep_app (a b : Nat) : bstr (List.replicate a (48 : UInt8)) ++ bstr (List.replicate b 48) = bstr (List.replicate (a + b) 48) := by
  rw [bstr_app, List.replicate_append_replicate]

/-- bits, padded to whole bytes -/
def padL (bs : List UInt8) : List UInt8 := bs ++ List.replicate ((8 - bs.length % 8) % 8) 48

theorem padL_len (bs : List UInt8) : (padL bs).length = 8 * ((bs.length + 7) / 8) := by
  unfold padL
  rw [List.length_append, List.length_replicate]
  omega

theorem padL_chk {bs : List UInt8} {j : Nat} (h : j < (bs.length + 7) / 8) : chk (padL bs) j = pad8 (chk bs j) := by
  have hl := chk_len bs j
  unfold pad8
  rw [hl]
  unfold chk padL
  rw [List.drop_append_of_le_length (by omega), List.take_append, List.length_drop]
  congr 1
  rw [List.take_replicate]
  congr 1
  omega

theorem padL_bv {bs : List UInt8} (h : BV bs) : BV (padL bs) := fun b hb => by
  unfold padL at hb
  rcases List.mem_append.1 hb with hb | hb
  · exact h b hb
  · exact .inl (List.eq_of_mem_replicate hb)

end Go.Proofs.Ytkpmaifdeeecjaa
