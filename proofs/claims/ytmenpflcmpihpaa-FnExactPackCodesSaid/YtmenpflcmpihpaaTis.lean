/- The laws' copy of a slice of numbers. -/
import Derived.Test.YtmenpflcmpihpaaWri
namespace Go.Proofs.Ytmenpflcmpihpaa
open Go.RowKit
set_option linter.unusedVariables false
set_option linter.unusedSimpArgs false

theorem rowI_of' (cur : Array Value) (xs : List Int) (h : ∀ (i : Nat) (x : Int), xs[i]? = some x → cur[i]? = some (Value.int .i64 x)) : Row encI cur xs :=
  row_of encI cur xs fun i x hx j hj => by
    have hj' : j < 1 := hj
    obtain rfl : j = 0 := by omega
    have := h i x hx
    simpa [encI] using this

/-- the numbers below k stand in cur -/
def UpToI (cur : Array Value) (xs : List Int) (k : Nat) : Prop := ∀ (i : Nat) (x : Int), xs[i]? = some x → i < k → cur[i]? = some (Value.int .i64 x)

theorem UpToI.step {cur : Array Value} {xs : List Int} {k : Nat} {x : Int} (h : UpToI cur xs k) (hx : xs[k]? = some x) (hk : k < cur.size) : UpToI (cur.setIfInBounds k (.int .i64 x)) xs (k + 1) := by
  intro i q hq hi
  by_cases hik : i = k
  · subst hik
    rw [hx] at hq; cases hq
    simp [hk]
  · rw [Array.getElem?_setIfInBounds, if_neg (fun e => hik e.symm)]
    exact h i q hq (by omega)

def RetIs (w : World) (xs : List Int) (e : Ending) (w' : World) : Prop := ∃ a c, e = .returned (.slice a xs.length c) ∧ Own encI 3 w' a c xs w.heap.size ∧ ∃ x, w' = plus w x

set_option maxHeartbeats 400000 in
theorem toIntS_any (a : Option Addr) (cap : Nat) (xs : List Int) (w : World) (hr : Rd encI w a cap xs) (hn : xs.length ≤ 2000000) :
    Calls Try.prog 27 #[.slice a xs.length cap] w (RetIs w xs) := by
  obtain ⟨i0, hi, hz0, hz1, hz2⟩ := info_parts infoInt
  obtain ⟨r1, r2, r3⟩ := rdI_open hr
  have hmk : ∀ W : World, (Instr.makeSlice 28 (.int .i64 (xs.length : Int)) (.int .i64 (xs.length : Int))).run Try.prog W = .ok (.slice (some ⟨W.heap.size, 0, none⟩) xs.length xs.length) (W.alloc (.cells (madeCells (Value.int .i64 0).cells xs.length) 3)) := by
    intro W
    have := run_make (P := Try.prog) (w := W) 28 3 i0 _ Try.underlying28 hi hz0 .i64 .i64 (xs.length : Int) (xs.length : Int) (by omega) (by omega) (by rw [hz2]; omega) (by omega)
    rw [hz1] at this
    simpa using this
  go_enter Try.func27, Try.ntmps27
  go_wp2
  go_loopw [4] (fun i wr => ∃ (k : Nat) (cur : Array Value) (x : Ext), k ≤ xs.length ∧ i = .int .i64 k ∧ cur.size = xs.length ∧ UpToI cur xs k ∧ wr = plus (w.alloc (.cells cur 3)) x) (fun i _ => xs.length - (intOf i).toNat)
  case atStart =>
    refine ⟨0, _, _, Nat.zero_le _, rfl, ?_, fun _ _ _ h => absurd h (by omega), (plus_self _).symm⟩
    simp [size_madeCells]
  case round =>
    obtain ⟨k, cur, x, hk, rfl, hcs, hup, rfl⟩ := hrel
    rcases dec (k < xs.length) with ⟨hlt, blt⟩ | ⟨hlt, blt⟩
    · obtain ⟨p, hp⟩ : ∃ p, xs[k]? = some p := ⟨xs[k], List.getElem?_eq_getElem hlt⟩
      rcases r3 with rfl | ⟨b, off, rfl, hb, hc⟩
      · exact absurd hlt (by omega)
      · have c1 := hc k p hp
        obtain ⟨v1, hv1⟩ := get_some (cur := cur) (i := k) (by omega)
        have HU := Lib.hid (hup.step hp (by omega))
        have HC := Lib.hid hcs
        clear hp hc hup hcs
        go_wp2
        go_roundw
        case rel => exact ⟨k + 1, _, _, by omega, by go_num, by simp [HC.out], HU.out, rfl⟩
        case measure => simp [intOf]; omega
    · have : k = xs.length := by omega
      subst this
      go_wp2
      go_ret
      exact ⟨_, _, rfl, Own.plus (Own.newAt rfl (Nat.le_refl _) (by rw [hcs]; simp [encI]) (rowI_of' _ _ fun i x hx => hup i x hx (List.getElem?_eq_some_iff.1 hx).1) (Nat.le_refl _) (by omega)) _, (by repeat (first | exact More.refl _ | apply More.plus | apply More.alloc | apply More.drew | apply More.drewN))⟩

end Go.Proofs.Ytmenpflcmpihpaa
