/- Bits of bytes: the walks of l1Code, unpackBytes, l1Unpack. -/
import Derived.Test.YtkpmaifdeeecjaaBts
import Derived.Test.YtkpmaifdeeecjaaGe
namespace Go.Proofs.Ytkpmaifdeeecjaa
open Go.RowKit
set_option linter.unusedVariables false
set_option linter.unusedSimpArgs false

theorem lowL_succ (n : Int) (k : Nat) : lowL n (k + 1) = lowL n k ++ [bt n k] := by unfold lowL; rw [List.range_succ]; simp

theorem bits_low (n : Int) (k : Nat) : bitsL 0 n (k + 1) = bitsL 0 n k ++ [bt n k] := lowL_succ n k

theorem bits_high (n : Int) (k : Nat) : bitsL 1 n (k + 1) = bt n k :: bitsL 1 n k := by
  show (lowL n (k + 1)).reverse = bt n k :: (lowL n k).reverse
  rw [lowL_succ]; simp

theorem one_bstr (n : Int) : one n = bstr [UInt8.ofNat n.toNat] := rfl

/-- the bits of bytes -/
def unpL (o : Int) (bs : List UInt8) : List UInt8 := bs.flatMap fun b => bitsL o b.toNat 8

theorem unpL_len (o : Int) : ∀ bs : List UInt8, (unpL o bs).length = 8 * bs.length
  | [] => rfl
  | b :: bs => by
    have : unpL o (b :: bs) = bitsL o b.toNat 8 ++ unpL o bs := rfl
    rw [this, List.length_append, bitsL_len, unpL_len o bs, List.length_cons]; omega

theorem unpL_snoc (o : Int) (bs : List UInt8) (b : UInt8) : unpL o (bs ++ [b]) = unpL o bs ++ bitsL o b.toNat 8 := by simp [unpL]

theorem take_get {s : ByteArray} {k : Nat} (h : k < s.size) : s.data.toList.take (k + 1) = s.data.toList.take k ++ [s[k]] := by
  rw [List.take_add_one, List.getElem?_eq_getElem (by rw [bytes_len]; exact h), bytes_get h]; rfl

/-- a slice of bytes that lies somewhere, made a string -/
theorem run_str_some {P : Program} {W : World} {src dst e : TypeId} (hs : P.underlying src = some (.slice e)) (he : P.underlying e = some (.int .u8)) (hd : P.underlying dst = some .string)
    {a : Addr} {cap : Nat} {bs : List UInt8} (h : Rd encB W (some a) cap bs) : (convert src dst (.slice (some a) bs.length cap)).run P W = .ok (.string (bstr bs)) W := by
  rcases Nat.eq_zero_or_pos bs.length with h0 | h0
  · obtain rfl : bs = [] := List.eq_nil_of_length_eq_zero h0
    show (convert src dst (.slice (some a) 0 cap)).run P W = _
    rw [run_convert_bytes_string W src dst e (some a) 0 cap hs he hd]
    have hl : (loadCells a 0).run P W = .ok (([] : List Int).map (Value.int .u8)).toArray W := by
      have := run_loadCells_list (P := P) W a [] (fun j v hj => by simp at hj)
      simpa using this
    rw [run_bytesToString W _ _ _ _ hl]
    rfl
  · exact run_str hs he hd h h0

end Go.Proofs.Ytkpmaifdeeecjaa
