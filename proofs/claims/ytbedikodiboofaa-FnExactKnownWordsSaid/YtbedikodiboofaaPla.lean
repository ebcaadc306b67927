/- A region that draws its order, walked by a plan: quiet operations first, one that comes up alone, or two that may come up in either order. -/
import Derived.Test.YtbedikodiboofaaSch
namespace Go.Proofs.Ytbedikodiboofaa
open Go.RowKit
set_option linter.unusedVariables false
set_option linter.unusedSimpArgs false

inductive Plan where
  | done : Plan
  | quiet (k : Nat) (p : Plan) : Plan
  | one (k : Nat) (p : Plan) : Plan
  | two (k1 : Nat) (p1 : Plan) (k2 : Nat) (p2 : Plan) : Plan

def Plan.len : Plan → Nat
  | .done => 0
  | .quiet _ p => p.len + 1
  | .one _ p => p.len + 1
  | .two _ p1 _ _ => p1.len + 1

section
variable {P : Program} {ops : Array Oper} {md : Region.Mode} {S : World → Prop} {Q : Exit → Act → World → Prop}

def wpPlan (P : Program) (ops : Array Oper) (S : World → Prop) (Q : Exit → Act → World → Prop) : Plan → Act → World → Prop
  | .done, a, w => Q .normal a w
  | .quiet k p, a, w => ∃ o v, ops[k]? = some o ∧ YieldsIf P ops S o v a ∧ wpPlan P ops S Q p (a.put o.dst v) w
  | .one k p, a, w => wpOp P ops Q k (fun a' w' => S w' ∧ wpPlan P ops S Q p a' w') a w
  | .two k1 p1 k2 p2, a, w => wpOp P ops Q k1 (fun a' w' => S w' ∧ wpPlan P ops S Q p1 a' w') a w ∧ wpOp P ops Q k2 (fun a' w' => S w' ∧ wpPlan P ops S Q p2 a' w') a w

def planB (md : Region.Mode) (ops : Array Oper) : Plan → Array Bool → Bool
  | .done, listed => (Region.ready md ops listed).isEmpty
  | .quiet k p, listed => (Region.ready md ops listed).contains k && Region.free md ops listed k && planB md ops p (listed.setIfInBounds k true)
  | .one k p, listed => decide (Region.ready md ops listed = [k]) && planB md ops p (listed.setIfInBounds k true)
  | .two k1 p1 k2 p2, listed => decide (Region.ready md ops listed = [k1, k2]) && decide (p1.len = p2.len) && planB md ops p1 (listed.setIfInBounds k1 true) && planB md ops p2 (listed.setIfInBounds k2 true)

theorem wpAnyH_plan (hs : Region.noSelect ops = true) (hQ : ∀ c (a : Act) d v w, Q (.panic c) (a.put d v) w → Q (.panic c) a w) :
    ∀ (p : Plan) (listed : Array Bool) (a : Act) (w : World), planB md ops p listed = true → S w → wpPlan P ops S Q p a w → wpAnyH P md ops Q S p.len listed a w
  | .done, _, _, _, hB, _, h => ⟨by simpa [planB] using hB, h⟩
  | .quiet k p, listed, a, w, hB, hS, h => by
    simp only [planB, Bool.and_eq_true] at hB
    obtain ⟨⟨hr, hf⟩, hB'⟩ := hB
    obtain ⟨o, v, h0, hy, hK⟩ := h
    exact wpAnyH_take h0 hs hf hr (fun c a w => hQ c a _ _ w) hy hS (wpAnyH_plan hs hQ p _ _ w hB' hS hK)
  | .one k p, listed, a, w, hB, hS, h => by
    simp only [planB, Bool.and_eq_true, decide_eq_true_eq] at hB
    obtain ⟨hr, hB'⟩ := hB
    refine wpAnyH_all hr (by simp) fun i hi => ?_
    obtain rfl : i = k := by simpa using hi
    exact wpOp_mono (fun a' w' h' => ⟨h'.1, wpAnyH_plan hs hQ p _ _ w' hB' h'.1 h'.2⟩) h
  | .two k1 p1 k2 p2, listed, a, w, hB, hS, h => by
    simp only [planB, Bool.and_eq_true, decide_eq_true_eq] at hB
    obtain ⟨⟨⟨hr, hl⟩, hB1⟩, hB2⟩ := hB
    refine wpAnyH_all hr (by simp) fun i hi => ?_
    rcases (by simpa using hi : i = k1 ∨ i = k2) with rfl | rfl
    · exact wpOp_mono (fun a' w' h' => ⟨h'.1, wpAnyH_plan hs hQ p1 _ _ w' hB1 h'.1 h'.2⟩) h.1
    · exact wpOp_mono (fun a' w' h' => ⟨h'.1, by rw [hl]; exact wpAnyH_plan hs hQ p2 _ _ w' hB2 h'.1 h'.2⟩) h.2

theorem wp_region_plan {id : Nat} {a : Act} {w : World} {l : List Oper} (S : World → Prop) (p : Plan) (hm : P.follows .mixedOrders = true)
    (hB : (Region.noSelect l.toArray && decide (p.len = l.length) && planB .any l.toArray p (Array.replicate l.length false)) = true) (hS : S w.drew)
    (h : wpPlan P l.toArray S (NoPanic Q) p a w.drew) : (Code.region id l.toArray true).wp P Q a w := by
  simp only [Bool.and_eq_true, decide_eq_true_eq] at hB
  obtain ⟨⟨h1, h2⟩, h3⟩ := hB
  refine wp_region_noPanic (wp_region_held (S := S) hm ?_)
  have := wpAnyH_plan (md := .any) (S := S) (Q := NoPanic Q) h1 (fun c a d v w h => h) p (Array.replicate l.length false) a w.drew h3 hS h
  rw [h2] at this
  simpa using this

theorem wpPlan_quiet {p : Plan} {k : Nat} {o : Oper} {a : Act} {w : World} (v : Value) (ho : ops[k]? = some o) (hg : o.guard = none) (hr : ∀ w', S w' → (execOp a.eval o).run P w' = .ok (.value v) w')
    (h : wpPlan P ops S Q p (a.put o.dst v) w) : wpPlan P ops S Q (.quiet k p) a w :=
  ⟨o, v, ho, .inl ⟨by unfold Region.wanted; rw [hg], hr⟩, h⟩

theorem wpOp_of_one {k : Nat} {o : Oper} {a : Act} {w : World} {R : Act → World → Prop} (hi : ops[k]? = some o) (hg : o.guard = none)
    (h : ∀ K : Act → World → Prop, (∀ a' w', R a' w' → K a' w') → o.wp P a w K Q) : wpOp P ops Q k R a w := by
  unfold wpOp
  simp only [hi]
  rw [if_pos (by unfold Region.wanted; rw [hg])]
  exact .inl (h _ fun a' w' h1 => h1)

theorem wpPlan_one {p : Plan} {k : Nat} {o : Oper} {a : Act} {w : World} (hi : ops[k]? = some o) (hg : o.guard = none)
    (h : ∀ K : Act → World → Prop, (∀ a' w', S w' → wpPlan P ops S Q p a' w' → K a' w') → o.wp P a w K Q) : wpPlan P ops S Q (.one k p) a w :=
  wpOp_of_one hi hg fun K hK => h K fun a' w' h1 h2 => hK a' w' ⟨h1, h2⟩

theorem wpPlan_two {p1 p2 : Plan} {k1 k2 : Nat} {o1 o2 : Oper} {a : Act} {w : World} (hi1 : ops[k1]? = some o1) (hg1 : o1.guard = none) (hi2 : ops[k2]? = some o2) (hg2 : o2.guard = none)
    (h1 : ∀ K : Act → World → Prop, (∀ a' w', S w' → wpPlan P ops S Q p1 a' w' → K a' w') → o1.wp P a w K Q)
    (h2 : ∀ K : Act → World → Prop, (∀ a' w', S w' → wpPlan P ops S Q p2 a' w' → K a' w') → o2.wp P a w K Q) : wpPlan P ops S Q (.two k1 p1 k2 p2) a w :=
  ⟨wpOp_of_one hi1 hg1 fun K hK => h1 K fun a' w' h1 h2 => hK a' w' ⟨h1, h2⟩, wpOp_of_one hi2 hg2 fun K hK => h2 K fun a' w' h1 h2 => hK a' w' ⟨h1, h2⟩⟩

end
end Go.Proofs.Ytbedikodiboofaa
