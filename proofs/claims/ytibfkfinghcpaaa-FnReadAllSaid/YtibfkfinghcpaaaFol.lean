/- Codes that can follow, and their words, by the program: the walks of canFollow, l2Follows, slices.Reverse, wordText. -/
import Derived.Test.YtibfkfinghcpaaaGf
import Derived.Test.YtibfkfinghcpaaaBtk
import Derived.Shelf.RegionOpenPlain
namespace Go.Proofs.Ytibfkfinghcpaaa
open Go.RowKit
set_option linter.unusedVariables false
set_option linter.unusedSimpArgs false

/-- a code can follow, the clear code and the end code among them -/
def canB (l m n last c : Int) : Bool := decide (0 ≤ c ∧ c ≤ gt l m n last)

theorem canB_iff {l m n last c : Int} : canB l m n last c = true ↔ (0 ≤ c ∧ c ≤ gt l m n last) := by simp [canB]

theorem canFollow_any (o l m : Int) (a : Option Addr) (n cap : Nat) (base last c : Int) (w : World) (h : sv o l m = true) (hn : n ≤ 1000000) :
    Calls Try.prog 122 #[.agg #[.int .i64 o, .int .i64 l, .int .i64 m, .slice a n cap, .int .i64 base, .int .i64 last], .int .i64 c] w (Ret w (.bool (canB l m n last c))) := by
  have E1 := Lib.hid (show canB l m n last c = (decide (0 ≤ c) && decide (c ≤ gt l m n last)) from Bool.decide_and _ _)
  rcases dec (0 ≤ c) with ⟨h1, v1⟩ | ⟨h1, v1⟩
  all_goals
    go_enter Try.func122, Try.ntmps122
    go_wp2_with (go_at_call 135; refine (greatest_any _ _ _ _ _ _ _ _ _ h hn).mono ?_; rintro e w' ⟨rfl, xc, rfl⟩)
    go_ret
    exact ret_of (bool_ret (by rw [E1.out, v1]; simp)) (by repeat (first | exact More.refl _ | apply More.plus | apply More.alloc | apply More.drew | apply More.drewN))

/-- a code that has a word can follow -/
def folB (l m n last c : Int) : Bool := hw l n c || (grB l m n last && decide (c = nw l n))

theorem folB_iff {l m : Int} {n : Nat} {last c : Int} : folB l m n last c = true ↔ Okc l m n last c := by
  unfold folB Okc
  simp

theorem l2Follows_any (o l m : Int) (a : Option Addr) (n cap : Nat) (base last c : Int) (w : World) (h : sv o l m = true) (hn : n ≤ 1000000) (hlast : -1 ≤ last) :
    Calls Try.prog 69 #[.agg #[.int .i64 o, .int .i64 l, .int .i64 m, .slice a n cap, .int .i64 base, .int .i64 last], .int .i64 c] w (Ret w (.bool (folB l m n last c))) := by
  have hn0 : (0 : Int) ≤ n := by omega
  have hn1 : (n : Int) ≤ 1000000 := by omega
  have E1 := Lib.hid (show folB l m n last c = (hw l n c || (grB l m n last && decide (c = nw l n))) from rfl)
  cases h1 : hw l n c <;> cases h2 : grB l m n last
  all_goals
    go_enter Try.func69, Try.ntmps69
    go_wp2_with (first | (go_at_call 115; refine (l2Code_yes _ _ _ _ _ h hn0 hn1 _).mono ?_; rintro e w' ⟨rfl, xc, rfl⟩) | (go_at_call 119; refine (l2Grows_any _ _ _ _ _ _ _ _ _ h hn hlast).mono ?_; rintro e w' ⟨rfl, xc, rfl⟩) | (go_at_call 111; refine (l2Next_any _ _ _ _ _ _ _ _ _ h hn).mono ?_; rintro e w' ⟨rfl, xc, rfl⟩))
    go_ret
    exact ret_of (bool_ret (by rw [E1.out, h1, h2]; first | rfl | (simp; done) | (simp; rfl))) (by repeat (first | exact More.refl _ | apply More.plus | apply More.alloc | apply More.drew | apply More.drewN))

/-- bytes reversed in place -/
def RetRv (w : World) (b : Nat) (xs : List UInt8) (n : Nat) (e : Ending) (w' : World) : Prop :=
  e = .returned (.tuple #[]) ∧ ∃ (cu : Array Value) (x : Ext), cu.size = n ∧ Row encB cu xs.reverse ∧ w' = plus (patch w b (.cells cu 5)) x

theorem rv_world {w : World} {b i j : Nat} {cu : Array Value} {x : Ext} {u v : Value} (hb : b < w.heap.size) :
    (((plus (patch w b (.cells cu 5)) x).setCell ⟨b, i, none⟩ u).setCell ⟨b, j, none⟩ v).drew = plus (patch w b (.cells ((cu.setIfInBounds i u).setIfInBounds j v) 5)) (x.draw 1) := by
  rw [plus_setCell_lt _ _ _ _ (by simpa using hb), setCell_patch (patch_at w b _ hb), patch_patch, plus_setCell_lt _ _ _ _ (by simpa using hb), setCell_patch (patch_at w b _ hb), patch_patch, plus_drew]

set_option maxRecDepth 100000 in
set_option maxHeartbeats 2000000 in
theorem Reverse_any (b cap : Nat) (xs : List UInt8) (cur : Array Value) (w : World) (hb : w.heap[b]? = some (.cells cur 5 (0, 0))) (hr : Row encB cur xs) (h0 : 0 < xs.length) (h1 : xs.length ≤ cap) (h2 : xs.length ≤ cur.size) (h3 : cap ≤ 9223372036854775807) :
    Calls Try.prog 142 #[.slice (some ⟨b, 0, none⟩) xs.length cap] w (RetRv w b xs cur.size) := by
  have hbs := (Array.getElem?_eq_some_iff.1 hb).1
  have HB := Lib.hid hb
  have HR := Lib.hid (Rvc.zero hr)
  have mixed : Try.prog.follows .mixedOrders = true := by kernel_rfl
  clear hb hr
  go_enter Try.func142, Try.ntmps142
  go_wp2
  go_loopw [2, 3] (fun p q wr => ∃ (k : Nat) (cu : Array Value) (x : Ext), k ≤ xs.length / 2 ∧ p = .int .i64 k ∧ q = .int .i64 ((xs.length : Int) - 1 - k) ∧ cu.size = cur.size ∧ Rvc cu xs k ∧ wr = plus (patch w b (.cells cu 5)) x) (fun p _ _ => xs.length - (intOf p).toNat)
  case atStart => exact ⟨0, cur, ⟨#[], w.drawn⟩, Nat.zero_le _, rfl, by simp, rfl, HR.out, by rw [patch_self w b _ HB.out, plus_self]⟩
  case round =>
    obtain ⟨k, cu, x, hk, rfl, rfl, hcu, hrv, hwr⟩ := hrel
    by_cases hlt : k < xs.length / 2
    · have v1 : decide ((k : Int) < (xs.length : Int) - 1 - k) = true := by simp; omega
      have hlo := hrv.lo hlt
      have hhi := hrv.hi hlt
      have HRS := Lib.hid (hrv.step hlt (by omega))
      have HC := Lib.hid hcu
      have hblk : wr.heap[b]? = some (.cells cu 5 (0, 0)) := by rw [hwr]; exact blk_plus (patch_at w b _ hbs) _
      have c1 : wr.cell? ⟨b, k, none⟩ = some (.int .u8 (bv xs k)) := by rw [cell_of hblk]; exact hlo
      have c2 : wr.cell? ⟨b, xs.length - 1 - k, none⟩ = some (.int .u8 (bv xs (xs.length - 1 - k))) := by rw [cell_of hblk]; exact hhi
      have f1 : wr.frozen? ⟨b, k, none⟩ = false := free_of hblk _
      have f2 : wr.frozen? ⟨b, xs.length - 1 - k, none⟩ = false := free_of hblk _
      have e1 : ((xs.length : Int) - 1 - k).toNat = xs.length - 1 - k := by omega
      have q1 : (k : Int) ≤ (xs.length : Int) - 1 ∧ (xs.length : Int) - 1 - k < (xs.length : Int) := by omega
      have HW := Lib.hid hwr
      clear hrv hcu hblk hlo hhi hwr
      go_wp2_with fail
      go_region_o
      rw [HW.out, rv_world hbs]
      go_wp2
      go_roundw
      case rel => exact ⟨k + 1, _, _, by omega, by go_num, int_val (by omega), by simp [HC.out], HRS.out, rfl⟩
      case measure => simp [intOf]; omega
    · have v1 : decide ((k : Int) < (xs.length : Int) - 1 - k) = false := by simp; omega
      have HR2 := Lib.hid (hrv.done hlt)
      clear hrv
      go_wp2
      go_end0
      exact ⟨rfl, cu, x, hcu, HR2.out, rfl⟩

end Go.Proofs.Ytibfkfinghcpaaa
