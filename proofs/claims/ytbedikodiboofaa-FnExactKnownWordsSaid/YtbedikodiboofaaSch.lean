/- A region that draws its order, walked once by a schedule: quiet operations as soon as they may come up, the others when they come up alone. -/
import Derived.Test.YtbedikodiboofaaLex
namespace Go.Proofs.Ytbedikodiboofaa
open Go.RowKit
set_option linter.unusedVariables false
set_option linter.unusedSimpArgs false

section
variable {P : Program} {ops : Array Oper} {md : Region.Mode} {S : World → Prop} {Q : Exit → Act → World → Prop}

/-- the walk by a schedule: (k, true): operation k is quiet; (k, false): it comes up alone -/
def wpSch (P : Program) (ops : Array Oper) (S : World → Prop) (Q : Exit → Act → World → Prop) : List (Nat × Bool) → Act → World → Prop
  | [], a, w => Q .normal a w
  | (k, true) :: fs, a, w => ∃ o v, ops[k]? = some o ∧ YieldsIf P ops S o v a ∧ wpSch P ops S Q fs (a.put o.dst v) w
  | (k, false) :: fs, a, w => wpOp P ops Q k (fun a' w' => S w' ∧ wpSch P ops S Q fs a' w') a w

/-- what the kernel is asked of the schedule -/
def schB (md : Region.Mode) (ops : Array Oper) : List (Nat × Bool) → Array Bool → Bool
  | [], listed => (Region.ready md ops listed).isEmpty
  | (k, true) :: fs, listed => (Region.ready md ops listed).contains k && Region.free md ops listed k && schB md ops fs (listed.setIfInBounds k true)
  | (k, false) :: fs, listed => decide (Region.ready md ops listed = [k]) && schB md ops fs (listed.setIfInBounds k true)

theorem wpAnyH_sch (hs : Region.noSelect ops = true) (hQ : ∀ c (a : Act) d v w, Q (.panic c) (a.put d v) w → Q (.panic c) a w) :
    ∀ (fs : List (Nat × Bool)) (listed : Array Bool) (a : Act) (w : World), schB md ops fs listed = true → S w → wpSch P ops S Q fs a w → wpAnyH P md ops Q S fs.length listed a w
  | [], _, _, _, hB, _, h => ⟨by simpa [schB] using hB, h⟩
  | (k, true) :: fs, listed, a, w, hB, hS, h => by
    simp only [schB, Bool.and_eq_true] at hB
    obtain ⟨⟨hr, hf⟩, hB'⟩ := hB
    obtain ⟨o, v, h0, hy, hK⟩ := h
    exact wpAnyH_take h0 hs hf hr (fun c a w => hQ c a _ _ w) hy hS (wpAnyH_sch hs hQ fs _ _ w hB' hS hK)
  | (k, false) :: fs, listed, a, w, hB, hS, h => by
    simp only [schB, Bool.and_eq_true, decide_eq_true_eq] at hB
    obtain ⟨hr, hB'⟩ := hB
    refine wpAnyH_all hr (by simp) fun i hi => ?_
    obtain rfl : i = k := by simpa using hi
    exact wpOp_mono (fun a' w' h' => ⟨h'.1, wpAnyH_sch hs hQ fs _ _ w' hB' h'.1 h'.2⟩) h

theorem wp_region_sch {id : Nat} {a : Act} {w : World} {l : List Oper} (S : World → Prop) (fs : List (Nat × Bool)) (hm : P.follows .mixedOrders = true)
    (hB : (Region.noSelect l.toArray && decide (fs.length = l.length) && schB .any l.toArray fs (Array.replicate l.length false)) = true) (hS : S w.drew)
    (h : wpSch P l.toArray S (NoPanic Q) fs a w.drew) : (Code.region id l.toArray true).wp P Q a w := by
  simp only [Bool.and_eq_true, decide_eq_true_eq] at hB
  obtain ⟨⟨h1, h2⟩, h3⟩ := hB
  refine wp_region_noPanic (wp_region_held (S := S) hm ?_)
  have := wpAnyH_sch (md := .any) (S := S) (Q := NoPanic Q) h1 (fun c a d v w h => h) fs (Array.replicate l.length false) a w.drew h3 hS h
  rw [h2] at this
  simpa using this

theorem wpSch_quiet {fs : List (Nat × Bool)} {k : Nat} {o : Oper} {a : Act} {w : World} (v : Value) (ho : ops[k]? = some o) (hg : o.guard = none) (hr : ∀ w', S w' → (execOp a.eval o).run P w' = .ok (.value v) w')
    (h : wpSch P ops S Q fs (a.put o.dst v) w) : wpSch P ops S Q ((k, true) :: fs) a w :=
  ⟨o, v, ho, .inl ⟨by unfold Region.wanted; rw [hg], hr⟩, h⟩

theorem wpSch_skip {fs : List (Nat × Bool)} {k : Nat} {o : Oper} {a : Act} {w : World} (ho : ops[k]? = some o) (hg : Region.wanted o (yielded ops a.tmps) = false)
    (h : wpSch P ops S Q fs (a.put o.dst undef) w) : wpSch P ops S Q ((k, true) :: fs) a w :=
  ⟨o, undef, ho, .inr ⟨hg, rfl⟩, h⟩

theorem wpSch_one {fs : List (Nat × Bool)} {k : Nat} {o : Oper} {a : Act} {w : World} (hi : ops[k]? = some o) (hg : o.guard = none)
    (h : ∀ K : Act → World → Prop, (∀ a' w', S w' → wpSch P ops S Q fs a' w' → K a' w') → o.wp P a w K Q) : wpSch P ops S Q ((k, false) :: fs) a w := by
  show wpOp P ops Q k _ a w
  unfold wpOp
  simp only [hi]
  rw [if_pos (by unfold Region.wanted; rw [hg])]
  exact .inl (h _ fun a' w' h1 h2 => ⟨h1, h2⟩)

end
end Go.Proofs.Ytbedikodiboofaa
