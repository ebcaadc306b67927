/- Arguments that are slices of bytes, opened. -/
import Derived.Test.YtmddcbebaijjkaaGreatDoorGb
import Derived.Test.YtmddcbebaijjkaaGreatDoorGa
namespace Go.Proofs.YtmddcbebaijjkaaGreatDoor
open Go.RowKit
open Go.ChangeShapes Go.WideShapes Go.ChangeAt Go.RowKit Go.WideElems
set_option linter.unusedVariables false
set_option linter.unusedSimpArgs false

theorem open_bytes {H : Type} {enc : TypeId × Value → H} {P : Program} {W : World} {t e : TypeId} {r : Reach} {b0 : Nat} {v : Value} {d : DataW H} {pl : List MemPlace} (ht : P.underlying t = some (.slice e)) (he : P.underlying e = some (.int .u8)) (hc : P.cellsOf e = 1)
    (hval : Value.okWide P W r b0 t v) (h : DataW.Trod enc P W 0 (fun _ => true) true t v d pl) : ∃ (a : Option Addr) (cap : Nat) (bs : List UInt8), v = .slice a bs.length cap ∧ Rd encB W a cap bs := by
  obtain ⟨a1, len, cap, rfl⟩ := okWide_slice ht hval
  obtain ⟨fuel, hf⟩ := h
  rcases open_ints ht he hc hf with ⟨hcs, hx⟩ | ⟨a, len', cap', zs, hcs, _, hl, hm, hz, hx, hcell, hwz⟩
  · simp [Value.cells] at hcs
    obtain ⟨rfl, rfl, rfl⟩ := hcs
    exact ⟨none, 0, [], rfl, by simp, by omega, .inl rfl⟩
  · simp [Value.cells] at hcs
    obtain ⟨rfl, rfl, rfl⟩ := hcs
    simp only [if_true] at hz
    have hlen : ((zs.take len).map fun n => UInt8.ofNat n.toNat).length = len := by simp; omega
    refine ⟨some a, cap, (zs.take len).map fun n => UInt8.ofNat n.toNat, by rw [hlen], by rw [hlen]; exact hl, by simpa [maxLen] using hm, ?_⟩
    rcases Nat.eq_zero_or_pos cap with h0 | h0
    · exact .inl h0
    · obtain ⟨ab, ao, spot⟩ := a
      have hspot : spot = none := by simpa [Addr.add] using World.cell?_spot (hcell 0 (by omega))
      subst hspot
      have hblk := World.block_lt_of_cell? W _ (hcell 0 (by omega))
      refine .inr ⟨ab, ao, rfl, by simpa [Addr.add] using hblk, ?_⟩
      refine row_cells encB (fun j => W.cell? ⟨ab, ao + j, none⟩) _ fun i x hx j hj => ?_
      have hj' : j < 1 := hj
      obtain rfl : j = 0 := by omega
      have hi' : i < len := by have := (List.getElem?_eq_some_iff.1 hx).1; rw [hlen] at this; exact this
      have hci := hcell i (by omega)
      rw [Addr.add_lit] at hci
      have hb := range_u8 hwz i
      have hx2 : UInt8.ofNat (zs[i]?.getD 0).toNat = x := by
        have h9 : zs[i]? = some (zs[i]'(by omega)) := List.getElem?_eq_getElem (by omega)
        rw [List.getElem?_map, List.getElem?_take, if_pos hi', h9] at hx
        rw [h9]
        simpa using hx
      subst hx2
      show W.cell? ⟨ab, ao + (i * 1 + 0), none⟩ = some (Value.int .u8 _)
      rw [show i * 1 + 0 = i by omega, hci]
      congr 2
      rw [List.getD_eq_getElem?_getD]
      rw [UInt8.toNat_ofNat']
      omega

end Go.Proofs.YtmddcbebaijjkaaGreatDoor
