/- Walks: the laws' texts of marks, and marks in slices of strings. -/
import Derived.Test.YtbedikodiboofaaByt
namespace Go.Proofs.Ytbedikodiboofaa
open Go.RowKit
set_option linter.unusedVariables false
set_option linter.unusedSimpArgs false

/-- the decimal digits of a positive number -/
def dgt (k : Nat) : ByteArray := if h : k = 0 then ⟨#[]⟩ else dgt (k / 10) ++ one (48 + ((k % 10 : Nat) : Int))
termination_by k
decreasing_by omega

def mtx (k : Nat) : ByteArray := ⟨#[109]⟩ ++ dgt k

theorem dgt_step {k : Nat} (h : 0 < k) : dgt k = dgt (k / 10) ++ one (48 + ((k % 10 : Nat) : Int)) := by
  rw [dgt, dif_neg (by omega)]

theorem dgt_zero : dgt 0 = ⟨#[]⟩ := by rw [dgt, dif_pos rfl]

theorem nil_app (t : ByteArray) : (⟨#[]⟩ : ByteArray) ++ t = t := ByteArray.ext (by simp)

theorem app_nil (t : ByteArray) : t ++ (⟨#[]⟩ : ByteArray) = t := ByteArray.ext (by simp)

theorem alloc_seq (w : World) (x : Ext) (o : Obj) : (plus w x).alloc o = plus w (x.seq ⟨#[o], (plus w x).drawn⟩) := by rw [alloc_plus, plus_plus]

theorem one_size (n : Int) : (one n).size = 1 := rfl

set_option maxRecDepth 100000 in
theorem markText_any (k : Nat) (w : World) (h0 : 1 ≤ k) (h1 : k ≤ 1000000000) :
    Calls Try.prog 69 #[.int .i64 k] w (Ret w (.string (mtx k))) := by
  have b0 : decide ((k : Int) ≤ 0) = false := by simp; omega
  go_enter Try.func69, Try.ntmps69
  go_wp2
  go_loopw [0, 3] (fun q s wr => ∃ (c : Nat) (t : ByteArray) (x : Ext), t.size + c ≤ 1000000000 ∧ dgt k = dgt c ++ t ∧ q = .int .i64 c ∧ s = .string t ∧ wr = plus w x) (fun q _ _ => (intOf q).toNat)
  case atStart => exact ⟨k, _, _, by show 0 + k ≤ _; omega, (app_nil _).symm, rfl, rfl, (plus_self _).symm⟩
  case round =>
    obtain ⟨c, t, x, ht, hd, rfl, rfl, rfl⟩ := hrel
    rcases dec (0 < (c : Int)) with ⟨hlt, blt⟩ | ⟨hlt, blt⟩
    · have hs := dgt_step (k := c) (by omega)
      have HS := Lib.hid (show dgt k = dgt (c / 10) ++ (one (48 + (c : Int) % 10) ++ t) by rw [hd, hs, ByteArray.append_assoc, show ((c % 10 : Nat) : Int) = (c : Int) % 10 by omega])
      have hc : ∀ (W : World) (b : Nat), b = W.heap.size → (convert 88 9 (.slice (some ⟨b, 0, none⟩) 1 1)).run Try.prog (W.alloc (.cells #[.int .u8 (48 + (c : Int) % 10)] 5)) = .ok (.string (one (48 + (c : Int) % 10))) (W.alloc (.cells #[.int .u8 (48 + (c : Int) % 10)] 5)) :=
        fun W b hb => run_one Try.underlying88 Try.underlying5 Try.underlying9 b _ (by omega) (by omega) hb
      have ho := one_size (48 + (c : Int) % 10)
      have hz : (one (48 + (c : Int) % 10)).size + t.size ≤ 9223372036854775807 := by omega
      clear hd hs
      go_wp2
      go_roundw
      case rel =>
        exact ⟨c / 10, _, _, by rw [ByteArray.size_append, ho]; omega, HS.out, int_val (by omega), rfl, alloc_seq _ _ _⟩
      case measure => simp [intOf]; omega
    · go_wp2
      go_ret
      refine ret_of ?_ (by repeat (first | exact More.refl _ | apply More.plus | apply More.alloc | apply More.drew | apply More.drewN))
      have : c = 0 := by omega
      subst this
      rw [dgt_zero] at hd
      rw [nil_app] at hd
      unfold mtx
      rw [hd]
      rfl

/-- the marks from k on -/
def smarks (k : Nat) (n : Nat) : List ByteArray := (List.range n).map fun i => mtx (k + i)

theorem smarks_len (k n : Nat) : (smarks k n).length = n := by simp [smarks]

theorem smarks_get (k n i : Nat) (h : i < n) : (smarks k n)[i]? = some (mtx (k + i)) := by simp [smarks, h]

set_option maxRecDepth 100000 in
set_option maxHeartbeats 800000 in
theorem markStringS_some (b cap n : Nat) (cur : Array Value) (k : Nat) (w : World) (hb : w.heap[b]? = some (.cells cur 9 (0, 0))) (hcur : cur.size = cap) (hn : n ≤ cap) (hn2 : n ≤ 2000000) (hk0 : 1 ≤ k) (hk1 : k ≤ 1000000) :
    Calls Try.prog 32 #[.slice (some ⟨b, 0, none⟩) n cap, .int .i64 k] w fun e w' => e = .returned (.int .i64 (k + n)) ∧
      ∃ cur' x, w' = plus (patch w b (.cells cur' 9)) x ∧ cur'.size = cap ∧ Row encS cur' (smarks k n) := by
  have hbs : b < w.heap.size := (Array.getElem?_eq_some_iff.1 hb).1
  go_enter Try.func32, Try.ntmps32
  go_wp2
  go_loopw [1, 5] (fun q i wr => ∃ (j : Nat) (c : Array Value) (x : Ext), j ≤ n ∧ i = .int .i64 j ∧ q = .int .i64 ((k + j : Nat) : Int) ∧ c.size = cap ∧ UpToS c (smarks k n) j ∧ wr = plus (patch w b (.cells c 9)) x) (fun _ i _ => n - (intOf i).toNat)
  case atStart => exact ⟨0, cur, _, Nat.zero_le _, rfl, by simp, hcur, UpToS.zero _ _, by rw [patch_self w b _ hb]; exact (plus_self _).symm⟩
  case round =>
    obtain ⟨j, c, x, hj, rfl, rfl, hcs, hup, rfl⟩ := hrel
    rcases dec (j < n) with ⟨hlt, blt⟩ | ⟨hlt, blt⟩
    · obtain ⟨v1, hv1⟩ := get_some (cur := c) (i := j) (by omega)
      have HU := Lib.hid (hup.step (smarks_get k n j hlt) (by omega))
      have HC := Lib.hid hcs
      have hk2 : 1 ≤ k + j := by omega
      have hk3 : k + j ≤ 1000000000 := by omega
      clear hup hcs hb
      go_wp2_with (go_at_call 69; refine (markText_any (k + j) _ hk2 hk3).mono ?_; rintro e w' ⟨rfl, y, rfl⟩)
      go_roundw
      case rel => exact ⟨j + 1, _, _, by omega, by go_num, int_val (by omega), by simp [HC.out], HU.out, rfl⟩
      case measure => simp [intOf]; omega
    · have : j = n := by omega
      subst this
      have HU := Lib.hid hup
      have HC := Lib.hid hcs
      clear hup hcs hb
      go_wp2
      go_ret
      exact ⟨ret_int (by omega), c, _, rfl, HC.out, UpToS.row (by rw [smarks_len]; exact HU.out)⟩

end Go.Proofs.Ytbedikodiboofaa
