/- Draws: DrawLongestWord. -/
import Derived.Test.YtibfkfinghcpaaaDri
namespace Go.Proofs.Ytibfkfinghcpaaa
open Go.RowKit
set_option linter.unusedVariables false
set_option linter.unusedSimpArgs false

/-- what a draw of what may be known and a text returns -/
def RetKs (w : World) (e : Ending) (w' : World) : Prop := ∃ (o l m : Int) (pa : Option Addr) (pc : Nat) (ps : List Pr) (base last : Int) (s : ByteArray),
  e = .returned (.tuple #[.agg #[.int .i64 o, .int .i64 l, .int .i64 m, .slice pa ps.length pc, .int .i64 base, .int .i64 last], .string s]) ∧ ps.length ≤ 3000 ∧ s.size ≤ 5000 ∧ RdP w' pa pc ps ∧ ∃ x, w' = plus w x

theorem any_short {o l m : Int} {ps : List Pr} {base last c : Int} (hkv : KV o l m ps base last) (hc : Okc l m ps.length last c) : (anyW l ps last c).length ≤ ps.length + 3 := by
  rcases hc with h | ⟨hg, rfl⟩
  · rw [any_hw h]
    have := W_len h
    omega
  · rw [any_nw, List.length_append, List.length_take]
    have hl : hw l ps.length last = true := by
      rcases hkv.last with ⟨rfl, _⟩ | h
      · exact absurd rfl (grB_iff.1 hg).1
      · exact h
    have := W_len hl
    omega

end Go.Proofs.Ytibfkfinghcpaaa
