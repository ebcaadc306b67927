/- Draws: DrawStartWith, DrawTrimDict. -/
import Derived.Test.YtlihhlihcjncoaaDrg
namespace Go.Proofs.Ytlihhlihcjncoaa
open Go.RowKit
set_option linter.unusedVariables false
set_option linter.unusedSimpArgs false

/-- what DrawStartWith returns -/
def RetSw (w : World) (e : Ending) (w' : World) : Prop := ∃ (o l m : Int) (s : ByteArray), e = .returned (.tuple #[.agg #[.int .i64 o, .int .i64 l, .int .i64 m], .string s]) ∧ s.size ≤ 3001 ∧ ∃ x, w' = plus w x

set_option maxRecDepth 100000 in
set_option maxHeartbeats 2000000 in
theorem DrawStartWith_any (a : Option Addr) (cap : Nat) (bs : List UInt8) (w : World) (hr : Rd encB w a cap bs) :
    Calls Try.prog 34 #[.slice a bs.length cap] w (RetSw w) := by
  go_enter Try.func34, Try.ntmps34
  go_wp2_with fail
  refine (l9Open_any a cap bs _ (by repeat (first | exact hr | apply rd_seq | apply Rd.plus | apply Rd.alloc | apply Rd.drew | apply Rd.drewN | refine rd_patch ?_ _ _ (by intro A hA; first | (cases hA; show _ ≠ _; omega) | (have := hal A hA; omega))))).mono ?_
  rintro e w' ⟨B, rfl, hd, hB, x1, rfl⟩
  have HD := Lib.hid hd
  have hBl := hd.B_lt
  simp at hB hBl
  clear hd
  go_wp2_with fail
  refine (l4Some_d B 0 _ (by repeat (first | (with_reducible exact HD.out) | (with_reducible apply dsrc_seq) | (with_reducible apply dsrc_draw) | (with_reducible apply Dsrc.plus) | (with_reducible apply Dsrc.alloc) | (with_reducible apply Dsrc.drew))) (by omega)).mono ?_
  rintro e w' ⟨o, l, m, s1, s2, rfl, h1, h2, hdn⟩
  obtain ⟨hd1, cur1, x2, rfl⟩ := hdn
  clear hd1
  go_wp2_with fail
  all_goals exact bodyPost_ret (v := .tuple #[.agg #[.int .i64 o, .int .i64 l, .int .i64 m], .string s1]) (by simp [results, Try.results34, go_sem, ↓IntWalk.iteOmega]) rfl ⟨o, l, m, s1, rfl, h1, below_more (by repeat (first | exact Below.refl _ _ | refine below_plus ?_ (by first | omega | (simp <;> omega)) _ | refine Below.alloc ?_ (by first | omega | (simp <;> omega)) _ | refine below_patch ?_ (by omega) _ | refine Below.drew ?_))⟩

set_option maxRecDepth 100000 in
set_option maxHeartbeats 2000000 in
theorem DrawTrimDict_any (a : Option Addr) (cap : Nat) (bs : List UInt8) (w : World) (hr : Rd encB w a cap bs) :
    Calls Try.prog 29 #[.slice a bs.length cap] w (RetSw w) := by
  go_enter Try.func29, Try.ntmps29
  go_wp2_with fail
  refine (DrawStartWith_any a cap bs _ (by repeat (first | exact hr | apply rd_seq | apply Rd.plus | apply Rd.alloc | apply Rd.drew | apply Rd.drewN | refine rd_patch ?_ _ _ (by intro A hA; first | (cases hA; show _ ≠ _; omega) | (have := hal A hA; omega))))).mono ?_
  rintro e w' ⟨o, l, m, s, rfl, h1, x1, rfl⟩
  go_wp2_with fail
  exact bodyPost_ret (v := .tuple #[.agg #[.int .i64 o, .int .i64 l, .int .i64 m], .string s]) (by simp [results, Try.results29, go_sem, ↓IntWalk.iteOmega]) rfl ⟨o, l, m, s, rfl, h1, (by repeat (first | exact More.refl _ | apply More.plus | apply More.alloc | apply More.drew | apply More.drewN))⟩

end Go.Proofs.Ytlihhlihcjncoaa
