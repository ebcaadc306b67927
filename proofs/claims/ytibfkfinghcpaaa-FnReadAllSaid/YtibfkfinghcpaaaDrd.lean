/- Draws: l9Many, l1Wild. -/
import Derived.Test.YtibfkfinghcpaaaDrc
namespace Go.Proofs.Ytibfkfinghcpaaa
open Go.RowKit
set_option linter.unusedVariables false
set_option linter.unusedSimpArgs false

set_option maxRecDepth 100000 in
set_option maxHeartbeats 1000000 in
theorem l9Many_d (s : ByteArray) (n : Nat) (w : World) (hs : s.size ≤ 4) (hn : n ≤ 5000) : Calls Try.prog 58 #[.string s, .int .i64 n] w (fun e w' => ∃ r : ByteArray, e = .returned (.string r) ∧ r.size = s.size * n ∧ ∃ x, w' = plus w x) := by
  obtain ⟨N, hN⟩ : ∃ N, s.size * n = N := ⟨_, rfl⟩
  have hN2 : N ≤ 20000 := by rw [← hN]; calc s.size * n ≤ 4 * 5000 := Nat.mul_le_mul hs hn
    _ = 20000 := rfl
  have HN0 := Lib.hid hN
  clear hN
  go_enter Try.func58, Try.ntmps58
  go_wp2
  go_loopw [0, 1, 5] (fun s q t wr => ∃ (m : Nat) (T S : ByteArray), q = .int .i64 m ∧ s = .string S ∧ t = .string T ∧ T.size + S.size * m = N ∧ S.size ≤ 40000 ∧ m ≤ 5000 ∧ More w wr) (fun _ q _ _ => (intOf q).toNat)
  case atStart => exact ⟨n, ⟨#[]⟩, s, rfl, rfl, rfl, by rw [← HN0.out]; exact Nat.zero_add _, by omega, hn, More.refl _⟩
  case round =>
    obtain ⟨m, T, S, rfl, rfl, rfl, hab, hb, hm7, x, rfl⟩ := hrel
    have z1 : (T ++ S).size = T.size + S.size := ByteArray.size_append
    have z2 : (S ++ S).size = S.size + S.size := ByteArray.size_append
    have HAB := Lib.hid hab
    have ha : T.size ≤ N := by rw [← hab]; exact Nat.le_add_right _ _
    have hbm : 1 ≤ m → S.size ≤ N := fun h => by have : S.size * 1 ≤ S.size * m := Nat.mul_le_mul_left _ h; omega
    clear hab
    rcases dec (0 < m) with ⟨hlt, v1⟩ | ⟨hlt, v1⟩
    · have hb7 := hbm hlt
      have v2 : decide ((0 : Int) < (m : Int)) = true := by simp; omega
      have E3 := Lib.hid (show wrap64 ((m : Int) / 2) = (m : Int) / 2 from wrap64_of (by omega) (by omega))
      rcases Nat.mod_two_eq_zero_or_one m with h2 | h2
      · have e2 : (m : Int) % 2 = 0 := by omega
        have HN := Lib.hid (show T.size + (S.size + S.size) * (m / 2) = N by rw [Nat.add_mul, ← Nat.mul_two, Nat.mul_assoc, show m / 2 * 2 = m by omega]; exact HAB.out)
        clear z1
        go_wp2
        go_roundw
        case rel => exact ⟨m / 2, T, S ++ S, int_val (by first | omega | (rw [E3.out]; omega)), rfl, rfl, by rw [z2]; exact HN.out, by omega, by omega, (by repeat (first | exact More.refl _ | apply More.plus | apply More.alloc | apply More.drew | apply More.drewN))⟩
        case measure => simp [intOf, E3.out]; omega
      · have e2 : (m : Int) % 2 = 1 := by omega
        have HN := Lib.hid (show (T.size + S.size) + (S.size + S.size) * (m / 2) = N by
          have h3 : S.size * m = S.size + (S.size + S.size) * (m / 2) := by
            have h4 : m = m / 2 * 2 + 1 := by omega
            rw [Nat.add_mul, ← Nat.mul_two, Nat.mul_assoc]
            have h5 : S.size * m = S.size * (m / 2 * 2) + S.size := by rw [← Nat.mul_succ]; congr 1
            omega
          have := HAB.out
          omega)
        go_wp2
        go_roundw
        case rel => exact ⟨m / 2, T ++ S, S ++ S, int_val (by first | omega | (rw [E3.out]; omega)), rfl, rfl, by rw [z1, z2]; exact HN.out, by omega, by omega, (by repeat (first | exact More.refl _ | apply More.plus | apply More.alloc | apply More.drew | apply More.drewN))⟩
        case measure => simp [intOf, E3.out]; omega
    · obtain rfl : m = 0 := by omega
      have v2 : decide ((0 : Int) < ((0 : Nat) : Int)) = false := by simp
      go_wp2
      go_ret
      exact ⟨T, rfl, by rw [HN0.out]; have := HAB.out; omega, (by repeat (first | exact More.refl _ | apply More.plus | apply More.alloc | apply More.drew | apply More.drewN))⟩

/-- string of one byte that lies in memory: one operation -/
theorem oper_str1 {P : Program} {op : Oper} {a : Act} {w : World} {K : Act → World → Prop} {Q : Exit → Act → World → Prop} (src dst e : TypeId) (x : Operand) (ho : op.op = .convert src dst x) (hs : P.underlying src = some (.slice e)) (he : P.underlying e = some (.int .u8)) (hd : P.underlying dst = some .string)
    (b : Nat) (z : UInt8) (hx : a.eval x = .slice (some ⟨b, 0, none⟩) 1 1) (hb : b < w.heap.size) (hc : w.cell? ⟨b, 0, none⟩ = some (.int .u8 (z.toNat : Int))) (h : K (a.put op.dst (.string (bstr [z]))) w) : op.wp P a w K Q := by
  have hrd : Rd encB w (some ⟨b, 0, none⟩) 1 [z] := ⟨by simp, by omega, .inr ⟨b, 0, rfl, hb, fun j u hj => by
    have hl := (List.getElem?_eq_some_iff.1 hj).1
    rw [flat_len] at hl
    obtain rfl : j = 0 := by have : j < 1 * 1 := hl; omega
    have e1 : (flat encB [z])[0]? = some (.int .u8 (z.toNat : Int)) := rfl
    rw [e1] at hj
    cases hj
    exact hc⟩⟩
  have hrun := run_str_some (P := P) hs he hd hrd
  unfold Oper.wp execOp
  simp only [ho, Sem.run_bind, Sem.run_pure, Result.andThen_ok, hx]
  have hl : ([z] : List UInt8).length = 1 := rfl
  rw [hl] at hrun
  simp only [hrun, Result.andThen_ok]
  exact h

end Go.Proofs.Ytibfkfinghcpaaa
