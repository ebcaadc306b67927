/- A region that draws its order, of loads (quiet in every extension of the world at hand) and of operations that come up alone: walked once. -/
import Derived.Test.YtbedikodiboofaaBase
import Derived.OrdersHeld
import Derived.Deep.RegionHeld3
namespace Go.Proofs.Ytbedikodiboofaa
open Go.RowKit
set_option linter.unusedVariables false
set_option linter.unusedSimpArgs false

section
variable {P : Program} {ops : Array Oper} {md : Region.Mode} {S : World → Prop} {Q : Exit → Act → World → Prop}

/-- the walk in the text's order: 'true' marks a quiet operation, 'false' one that comes up alone -/
def wpLex (P : Program) (ops : Array Oper) (S : World → Prop) (Q : Exit → Act → World → Prop) : List Bool → Nat → List Oper → Act → World → Prop
  | _, _, [], a, w => Q .normal a w
  | [], _, _ :: _, _, _ => False
  | true :: fs, k, o :: rest, a, w => ∃ v, YieldsIf P ops S o v a ∧ wpLex P ops S Q fs (k + 1) rest (a.put o.dst v) w
  | false :: fs, k, o :: rest, a, w => wpOp P ops Q k (fun a' w' => S w' ∧ wpLex P ops S Q fs (k + 1) rest a' w') a w

/-- what the kernel is asked of the region's order -/
def mixB (md : Region.Mode) (ops : Array Oper) : List Bool → Nat → Array Bool → Bool
  | [], _, listed => (Region.ready md ops listed).isEmpty
  | true :: fs, k, listed => (Region.ready md ops listed).contains k && Region.free md ops listed k && mixB md ops fs (k + 1) (listed.setIfInBounds k true)
  | false :: fs, k, listed => decide (Region.ready md ops listed = [k]) && mixB md ops fs (k + 1) (listed.setIfInBounds k true)

theorem wpAnyH_lex (hs : Region.noSelect ops = true) (hQ : ∀ c (a : Act) d v w, Q (.panic c) (a.put d v) w → Q (.panic c) a w) :
    ∀ (fs : List Bool) (l : List Oper) (k : Nat) (listed : Array Bool) (a : Act) (w : World), (∀ j, l[j]? = ops[k + j]?) → fs.length = l.length → mixB md ops fs k listed = true → S w →
      wpLex P ops S Q fs k l a w → wpAnyH P md ops Q S l.length listed a w
  | [], [], _, _, _, _, _, _, hB, _, h => ⟨by simpa [mixB] using hB, h⟩
  | [], _ :: _, _, _, _, _, _, hl, _, _, _ => by simp at hl
  | _ :: _, [], _, _, _, _, _, hl, _, _, _ => by simp at hl
  | true :: fs, o :: l, k, listed, a, w, hl, hn, hB, hS, h => by
    have h0 : ops[k]? = some o := by simpa using (hl 0).symm
    simp only [mixB, Bool.and_eq_true] at hB
    obtain ⟨⟨hr, hf⟩, hB'⟩ := hB
    obtain ⟨v, hy, hK⟩ := h
    exact wpAnyH_take h0 hs hf hr (fun c a w => hQ c a _ _ w) hy hS
      (wpAnyH_lex hs hQ fs l (k + 1) _ _ w (fun j => by have := hl (j + 1); simpa [Nat.add_assoc, Nat.add_comm 1 j] using this) (by simpa using hn) hB' hS hK)
  | false :: fs, o :: l, k, listed, a, w, hl, hn, hB, hS, h => by
    simp only [mixB, Bool.and_eq_true, decide_eq_true_eq] at hB
    obtain ⟨hr, hB'⟩ := hB
    refine wpAnyH_all hr (by simp) fun i hi => ?_
    obtain rfl : i = k := by simpa using hi
    exact wpOp_mono (fun a' w' h' => ⟨h'.1, wpAnyH_lex hs hQ fs l (i + 1) _ _ w' (fun j => by have := hl (j + 1); simpa [Nat.add_assoc, Nat.add_comm 1 j] using this) (by simpa using hn) hB' h'.1 h'.2⟩) h

theorem wp_region_lex {id : Nat} {a : Act} {w : World} {l : List Oper} (fs : List Bool) (hm : P.follows .mixedOrders = true) (hB : (Region.noSelect l.toArray && decide (fs.length = l.length) && mixB .any l.toArray fs 0 (Array.replicate l.length false)) = true)
    (h : wpLex P l.toArray (fun w' => ∃ x, w' = plus w x) (NoPanic Q) fs 0 l a w.drew) : (Code.region id l.toArray true).wp P Q a w := by
  simp only [Bool.and_eq_true, decide_eq_true_eq] at hB
  obtain ⟨⟨h1, h2⟩, h3⟩ := hB
  refine wp_region_noPanic (wp_region_held (S := fun w' => ∃ x, w' = plus w x) hm ?_)
  have := wpAnyH_lex (md := .any) (S := fun w' => ∃ x, w' = plus w x) (Q := NoPanic Q) h1 (fun c a d v w h => h) fs l 0 (Array.replicate l.length false) a w.drew (by simp) h2 h3 ⟨_, drew_is_plus w⟩ h
  simpa using this

theorem wpLex_load {fs : List Bool} {k : Nat} {o : Oper} {rest : List Oper} {a : Act} {w : World} (v : Value) (hg : o.guard = none) (hr : ∀ w', S w' → (execOp a.eval o).run P w' = .ok (.value v) w')
    (h : wpLex P ops S Q fs (k + 1) rest (a.put o.dst v) w) : wpLex P ops S Q (true :: fs) k (o :: rest) a w :=
  ⟨v, .inl ⟨by unfold Region.wanted; rw [hg], hr⟩, h⟩

theorem wpLex_one {fs : List Bool} {k : Nat} {o : Oper} {rest : List Oper} {a : Act} {w : World} (hi : ops[k]? = some o) (hg : o.guard = none)
    (h : ∀ K : Act → World → Prop, (∀ a' w', S w' → wpLex P ops S Q fs (k + 1) rest a' w' → K a' w') → o.wp P a w K Q) : wpLex P ops S Q (false :: fs) k (o :: rest) a w := by
  show wpOp P ops Q k _ a w
  unfold wpOp
  simp only [hi]
  rw [if_pos (by unfold Region.wanted; rw [hg])]
  exact .inl (h _ fun a' w' h1 h2 => ⟨h1, h2⟩)

end
end Go.Proofs.Ytbedikodiboofaa
