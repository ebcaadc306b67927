/- Arguments that are slices of texts, opened. -/
import Derived.Test.YtibfkfinghcpaaaGb
import Derived.SliceStrings
namespace Go.Proofs.Ytibfkfinghcpaaa
open Go.RowKit
open Go.ChangeShapes Go.WideShapes Go.ChangeAt Go.RowKit Go.WideElems
set_option linter.unusedVariables false
set_option linter.unusedSimpArgs false

theorem open_texts {H : Type} {enc : TypeId × Value → H} {P : Program} {W : World} {t e : TypeId} {r : Reach} {b0 : Nat} {v : Value} {d : DataW H} {pl : List MemPlace} (ht : P.underlying t = some (.slice e)) (he : P.underlying e = some .string) (hc : P.cellsOf e = 1)
    (hval : Value.okWide P W r b0 t v) (h : DataW.Trod enc P W 0 (fun _ => true) true t v d pl) : ∃ (a : Option Addr) (cap : Nat) (ss : List ByteArray), v = .slice a ss.length cap ∧ Rd encS W a cap ss ∧ ss.length ≤ maxLen ∧ ∀ s ∈ ss, s.size ≤ maxLen := by
  obtain ⟨a1, len, cap, rfl⟩ := okWide_slice ht hval
  obtain ⟨fuel, hf⟩ := h
  rcases open_strings ht he hc hf with ⟨hcs, hx⟩ | ⟨a, len', cap', zs, hcs, _, hl, hm, hz, hx, hcell, hwz⟩
  · simp [Value.cells] at hcs
    obtain ⟨rfl, rfl, rfl⟩ := hcs
    exact ⟨none, 0, [], rfl, ⟨by simp, by omega, .inl rfl⟩, Nat.zero_le _, by simp⟩
  · simp [Value.cells] at hcs
    obtain ⟨rfl, rfl, rfl⟩ := hcs
    simp only [if_true] at hz
    have hlen : (zs.take len).length = len := by simp; omega
    refine ⟨some a, cap, zs.take len, by rw [hlen], ⟨by rw [hlen]; exact hl, by simpa [maxLen] using hm, ?_⟩, by rw [hlen]; omega, fun s hs => hwz s (List.mem_of_mem_take hs)⟩
    rcases Nat.eq_zero_or_pos cap with h0 | h0
    · exact .inl h0
    · obtain ⟨ab, ao, spot⟩ := a
      have hspot : spot = none := by simpa [Addr.add] using World.cell?_spot (hcell 0 (by omega))
      subst hspot
      have hblk := World.block_lt_of_cell? W _ (hcell 0 (by omega))
      refine .inr ⟨ab, ao, rfl, by simpa [Addr.add] using hblk, ?_⟩
      refine row_cells encS (fun j => W.cell? ⟨ab, ao + j, none⟩) _ fun i x hx j hj => ?_
      have hj' : j < 1 := hj
      obtain rfl : j = 0 := by omega
      have hi' : i < len := by have := (List.getElem?_eq_some_iff.1 hx).1; rw [hlen] at this; exact this
      have hci := hcell i (by omega)
      rw [Addr.add_lit] at hci
      have hx2 : zs[i]?.getD ByteArray.empty = x := by
        rw [List.getElem?_take, if_pos hi'] at hx
        rw [hx]; rfl
      subst hx2
      show W.cell? ⟨ab, ao + (i * 1 + 0), none⟩ = some (Value.string _)
      rw [show i * 1 + 0 = i by omega, hci, List.getD_eq_getElem?_getD]

end Go.Proofs.Ytibfkfinghcpaaa
