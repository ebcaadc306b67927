/- Slices of bytes that become strings. -/
import Derived.Test.YtbedikodiboofaaStr
namespace Go.Proofs.Ytbedikodiboofaa
open Go.RowKit
set_option linter.unusedVariables false
set_option linter.unusedSimpArgs false

def encB : Enc UInt8 where
  sz := 1
  enc b := [.int .u8 b.toNat]
  len _ := rfl
  one := by intro x u hu; simp at hu; subst hu; rfl

theorem flatB (bs : List UInt8) : flat encB bs = (bs.map fun b => (b.toNat : Int)).map (Value.int .u8) := by
  induction bs with
  | nil => rfl
  | cons b bs ih =>
    have : flat encB (b :: bs) = encB.enc b ++ flat encB bs := by simp [flat]
    rw [this, ih]
    rfl

theorem push_bytes (bs : List UInt8) : ∀ (s : ByteArray), (bs.map fun b => (b.toNat : Int)).foldl (fun r n => r.push (UInt8.ofNat n.toNat)) s = ⟨s.data ++ bs.toArray⟩ := by
  induction bs with
  | nil => intro s; cases s; simp
  | cons b bs ih =>
    intro s
    rw [List.map_cons, List.foldl_cons, ih]
    simp [ByteArray.push]

/-- a slice of bytes, made a string -/
theorem run_str {P : Program} {W : World} {src dst e : TypeId} (hs : P.underlying src = some (.slice e)) (he : P.underlying e = some (.int .u8)) (hd : P.underlying dst = some .string)
    {a : Option Addr} {cap : Nat} {bs : List UInt8} (h : Rd encB W a cap bs) (hne : 0 < bs.length) : (convert src dst (.slice a bs.length cap)).run P W = .ok (.string ⟨bs.toArray⟩) W := by
  rw [run_convert_bytes_string W src dst e a bs.length cap hs he hd]
  obtain ⟨h1, h2, h3⟩ := h
  rcases h3 with h3 | ⟨b, off, rfl, hb, hc⟩
  · omega
  · have hl : (loadCells ⟨b, off, none⟩ bs.length).run P W = .ok ((bs.map fun b => (b.toNat : Int)).map (Value.int .u8)).toArray W := by
      have := run_loadCells_list (P := P) W ⟨b, off, none⟩ (flat encB bs) (fun j v hj => by rw [Addr.add_lit]; exact hc j v hj)
      rw [flat_len, flatB] at this
      simpa [encB] using this
    rw [run_bytesToString W _ _ _ _ hl, push_bytes]
    have e0 : (ByteArray.empty).data = #[] := rfl
    rw [e0, Array.empty_append]

/-- the one byte that n is -/
def one (n : Int) : ByteArray := ⟨#[UInt8.ofNat n.toNat]⟩

theorem run_one {P : Program} {W : World} {src dst e : TypeId} (hs : P.underlying src = some (.slice e)) (he : P.underlying e = some (.int .u8)) (hd : P.underlying dst = some .string)
    (b : Nat) (n : Int) (h0 : 0 ≤ n) (h1 : n ≤ 255) (hb : b = W.heap.size) : (convert src dst (.slice (some ⟨b, 0, none⟩) 1 1)).run P (W.alloc (.cells #[.int .u8 n] e)) = .ok (.string (one n)) (W.alloc (.cells #[.int .u8 n] e)) := by
  have hn : ((UInt8.ofNat n.toNat).toNat : Int) = n := by
    rw [UInt8.toNat_ofNat']
    omega
  have hrow : Row encB #[.int .u8 n] [UInt8.ofNat n.toNat] := row_of encB _ _ fun i x hx j hj => by
    have hj' : j < 1 := hj
    obtain rfl : j = 0 := by omega
    have hi : i < 1 := by simpa using (List.getElem?_eq_some_iff.1 hx).1
    obtain rfl : i = 0 := by omega
    simp at hx
    subst hx
    show _ = some (Value.int .u8 ((UInt8.ofNat n.toNat).toNat : Int))
    rw [hn]; rfl
  subst hb
  exact run_str hs he hd (Own.rd (Own.new (lo := 0) (Nat.zero_le _) rfl hrow (Nat.le_refl _) (by simp))) (by simp)

end Go.Proofs.Ytbedikodiboofaa
