/- Draws: l9Many, l1Wild. -/
import Derived.Test.YtkpmaifdeeecjaaDrc
namespace Go.Proofs.Ytkpmaifdeeecjaa
open Go.RowKit
set_option linter.unusedVariables false
set_option linter.unusedSimpArgs false

/-- string of one byte that lies in memory: one operation -/
theorem oper_str1 {P : Program} {op : Oper} {a : Act} {w : World} {K : Act → World → Prop} {Q : Exit → Act → World → Prop} (src dst e : TypeId) (x : Operand) (ho : op.op = .convert src dst x) (hs : P.underlying src = some (.slice e)) (he : P.underlying e = some (.int .u8)) (hd : P.underlying dst = some .string)
    (b : Nat) (z : UInt8) (hx : a.eval x = .slice (some ⟨b, 0, none⟩) 1 1) (hb : b < w.heap.size) (hc : w.cell? ⟨b, 0, none⟩ = some (.int .u8 (z.toNat : Int))) (h : K (a.put op.dst (.string (bstr [z]))) w) : op.wp P a w K Q := by
  have hrd : Rd encB w (some ⟨b, 0, none⟩) 1 [z] := ⟨by simp, by omega, .inr ⟨b, 0, rfl, hb, fun j u hj => by
    have hl := (List.getElem?_eq_some_iff.1 hj).1
    rw [flat_len] at hl
    obtain rfl : j = 0 := by have : j < 1 * 1 := hl; omega
    have e1 : (flat encB [z])[0]? = some (.int .u8 (z.toNat : Int)) := rfl
    rw [e1] at hj
    cases hj
    exact hc⟩⟩
  have hrun := run_str_some (P := P) hs he hd hrd
  unfold Oper.wp execOp
  simp only [ho, Sem.run_bind, Sem.run_pure, Result.andThen_ok, hx]
  have hl : ([z] : List UInt8).length = 1 := rfl
  rw [hl] at hrun
  simp only [hrun, Result.andThen_ok]
  exact h

end Go.Proofs.Ytkpmaifdeeecjaa
