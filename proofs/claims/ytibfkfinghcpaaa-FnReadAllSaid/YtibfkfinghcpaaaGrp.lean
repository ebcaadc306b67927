/- Codes of the longest words, in plain Lean. -/
import Derived.Test.YtibfkfinghcpaaaTmp
namespace Go.Proofs.Ytibfkfinghcpaaa
open Go.RowKit
set_option linter.unusedVariables false
set_option linter.unusedSimpArgs false

/-- no code is left for a word, and a clear code would make room -/
def full (l m : Int) (n : Nat) (b : Nat) : Bool := decide (two m - 1 < nw l n ∧ b < n)

theorem full_iff {l m : Int} {n b : Nat} : full l m n b = true ↔ (two m - 1 < nw l n ∧ b < n) := by simp [full]

theorem full_no {l m : Int} {n b : Nat} : full l m n b = false ↔ ¬ (two m - 1 < nw l n ∧ b < n) := by rw [← full_iff]; simp

/-- the codes of d, behind the pairs ps and the last code -/
noncomputable def gre (l m : Int) (b : Nat) : Nat → List Pr → Int → List UInt8 → List Int
  | 0, _, _, _ => []
  | f + 1, ps, last, d => if d = [] then [] else
      if full l m ps.length b then
        two l :: fndC l m (ps.take b) (-1) (d.take (lonN l m (ps.take b) (-1) d)) ::
          gre l m b f (aftP l m (ps.take b) (-1) (fndC l m (ps.take b) (-1) (d.take (lonN l m (ps.take b) (-1) d)))) (fndC l m (ps.take b) (-1) (d.take (lonN l m (ps.take b) (-1) d))) (d.drop (lonN l m (ps.take b) (-1) d))
      else
        fndC l m ps last (d.take (lonN l m ps last d)) ::
          gre l m b f (aftP l m ps last (fndC l m ps last (d.take (lonN l m ps last d)))) (fndC l m ps last (d.take (lonN l m ps last d))) (d.drop (lonN l m ps last d))

theorem gre_nil (l m : Int) (b f : Nat) (ps : List Pr) (last : Int) : gre l m b f ps last [] = [] := by
  cases f with
  | zero => rfl
  | succ f => show (if _ then _ else _) = _; rw [if_pos rfl]

theorem gre_step {l m : Int} {b f : Nat} {ps : List Pr} {last : Int} {d : List UInt8} {n : Nat} {c : Int} (hd : d ≠ []) (hf : full l m ps.length b = false) (hn : IsLon l m ps last d n) (hc : IsFnd l m ps last (d.take n) c) :
    gre l m b (f + 1) ps last d = c :: gre l m b f (aftP l m ps last c) c (d.drop n) := by
  show (if _ then _ else _) = _
  rw [if_neg hd, hf, if_neg (by simp), lonN_eq hn, fndC_eq hc]

theorem gre_full {l m : Int} {b f : Nat} {ps : List Pr} {last : Int} {d : List UInt8} (hd : d ≠ []) (hf : full l m ps.length b = true) :
    gre l m b (f + 1) ps last d = two l :: gre l m b (f + 1) (ps.take b) (-1) d := by
  have h := (full_iff.1 hf).2
  have hl : (ps.take b).length = b := by rw [List.length_take]; omega
  have h2 : full l m (ps.take b).length b = false := full_no.2 (by rw [hl]; omega)
  show (if _ then _ else _) = _ :: (if _ then _ else _)
  rw [if_neg hd, if_neg hd, hf, if_pos rfl, h2, if_neg (by simp)]

theorem Tx.clear {o l m : Int} {b : Nat} {ps : List Pr} {last : Int} {d : List UInt8} (h : Tx o l m (b : Int) ps last d) : Tx o l m (b : Int) (ps.take b) (-1) d := by
  refine ⟨?_, h.2⟩
  have := h.1.cleared
  simpa using this

/-- how many codes there are at most -/
theorem gre_len {o l m : Int} {b : Nat} : ∀ (f : Nat) (ps : List Pr) (last : Int) (d : List UInt8), Tx o l m (b : Int) ps last d → (gre l m b f ps last d).length ≤ 2 * d.length
  | 0, _, _, _, _ => by simp [gre]
  | f + 1, ps, last, d, hT => by
    by_cases hd : d = []
    · subst hd; rw [gre_nil]; simp
    · have hpos : 0 < d.length := List.length_pos_iff.2 hd
      cases hf : full l m ps.length b
      · obtain ⟨n, c, hn, hc, hT'⟩ := hT.step hd
        have := hn.1
        have h2 := gre_len f _ _ _ hT'
        have h3 := hn.2.1
        rw [gre_step hd hf hn hc]
        rw [List.length_drop] at h2
        simp; omega
      · have hT2 := hT.clear
        have hf2 : full l m (ps.take b).length b = false := full_no.2 (by have := (full_iff.1 hf).2; rw [List.length_take]; omega)
        obtain ⟨n, c, hn, hc, hT'⟩ := hT2.step hd
        have := hn.1
        have h2 := gre_len f _ _ _ hT'
        have h3 := hn.2.1
        rw [gre_full hd hf, gre_step hd hf2 hn hc]
        rw [List.length_drop] at h2
        simp; omega

/-- the codes, from the first clear code to the end code -/
noncomputable def greL (l m : Int) (b : Nat) (ps : List Pr) (d : List UInt8) : List Int := two l :: (gre l m b d.length (ps.take b) (-1) d ++ [two l + 1])

end Go.Proofs.Ytibfkfinghcpaaa
