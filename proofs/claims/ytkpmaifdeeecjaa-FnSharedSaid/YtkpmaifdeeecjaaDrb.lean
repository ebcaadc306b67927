/- Draws: the walks of l9Open, l1Bytes. -/
import Derived.Test.YtkpmaifdeeecjaaDrw
import Derived.Test.YtkpmaifdeeecjaaBtk
namespace Go.Proofs.Ytkpmaifdeeecjaa
open Go.RowKit
set_option linter.unusedVariables false
set_option linter.unusedSimpArgs false

/-- a new source of draws -/
def RetSrc (w : World) (e : Ending) (w' : World) : Prop := ∃ B : Nat, e = .returned (.pointer (some ⟨B, 0, none⟩)) ∧ Dsrc w' B 0 ∧ w.heap.size ≤ B ∧ ∃ x, w' = plus w x

theorem rd_lt0 {α : Type} {E : Enc α} {w : World} {a : Option Addr} {cap : Nat} {xs : List α} (h : Rd E w a cap xs) : cap = 0 ∨ ∀ X, a = some X → X.block < w.heap.size := by
  obtain ⟨h1, h2, h3⟩ := h
  rcases h3 with h3 | ⟨b, off, rfl, hb, hc⟩
  · exact .inl h3
  · exact .inr fun X hX => by cases hX; exact hb

set_option maxHeartbeats 1000000 in
theorem l9Open_any (a : Option Addr) (cap : Nat) (bs : List UInt8) (w : World) (hr : Rd encB w a cap bs) :
    Calls Try.prog 11 #[.slice a bs.length cap] w (RetSrc w) := by
  have hl := hr.1
  have hc := hr.2.1
  have h0 := rd_lt0 hr
  rcases dec (2000 < bs.length) with ⟨hm, v1⟩ | ⟨hm, v1⟩
  · have ht := rd_take hr 2000
    have hlt : (bs.take 2000).length = 2000 := by rw [List.length_take]; omega
    go_enter Try.func11, Try.ntmps11
    go_wp2
    go_ret
    refine ⟨w.heap.size, rfl, ⟨a, cap, bs.take 2000, 0, ?_, ht.alloc _, h0, by omega, Nat.le_refl _⟩, Nat.le_refl _, (by repeat (first | exact More.refl _ | apply More.plus | apply More.alloc | apply More.drew | apply More.drewN))⟩
    rw [hlt]
    exact push_new _ _ _ rfl
  · go_enter Try.func11, Try.ntmps11
    go_wp2
    go_ret
    exact ⟨w.heap.size, rfl, ⟨a, cap, bs, 0, push_new _ _ _ rfl, hr.alloc _, h0, by omega, Nat.le_refl _⟩, Nat.le_refl _, (by repeat (first | exact More.refl _ | apply More.plus | apply More.alloc | apply More.drew | apply More.drewN))⟩

theorem push_old (w : World) (o : Obj) {n : Nat} (h : n < w.heap.size) : (w.alloc o).heap[n]? = w.heap[n]? := by rw [push_at, if_pos h]

/-- a draw of a string -/
def RetDs (w : World) (B n k : Nat) (e : Ending) (w' : World) : Prop := ∃ s : ByteArray, e = .returned (.string s) ∧ s.size ≤ k ∧ Dsrc w' B n ∧ Grew (some ⟨B, 0, none⟩) w w'

end Go.Proofs.Ytkpmaifdeeecjaa
