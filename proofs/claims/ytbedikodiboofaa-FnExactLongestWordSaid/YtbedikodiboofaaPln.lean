/- Regions that draw their order, by a plan in two phases: the world's class is asked for in the first phase alone; the second waits for all of the first. -/
import Derived.Test.YtbedikodiboofaaPla
namespace Go.Proofs.Ytbedikodiboofaa
open Go.RowKit
set_option linter.unusedVariables false
set_option linter.unusedSimpArgs false

section
variable {P : Program} {ops : Array Oper} {md : Region.Mode} {S : World → Prop} {Q : Exit → Act → World → Prop} {n0 : Nat}

/-- whatever order is picked; the class holds behind each operation of the first phase -/
def wpAnyT (P : Program) (md : Region.Mode) (ops : Array Oper) (Q : Exit → Act → World → Prop) (S : World → Prop) (n0 : Nat) : Nat → Array Bool → Act → World → Prop
  | 0, listed, a, w => Region.ready md ops listed = [] ∧ Q .normal a w
  | f + 1, listed, a, w => (Region.ready md ops listed = [] → Q .normal a w) ∧
    ∀ i ∈ Region.ready md ops listed, wpOp P ops Q i (fun a' w' => (i < n0 → S w') ∧ wpAnyT P md ops Q S n0 f (listed.setIfInBounds i true) a' w') a w

theorem wpAny_of_T : ∀ (f : Nat) (listed : Array Bool) (a : Act) (w : World), wpAnyT P md ops Q S n0 f listed a w → wpAny P md ops Q f listed a w
  | 0, _, _, _, h => h
  | f + 1, _, _, _, h => ⟨h.1, fun i hi => wpOp_mono (fun a' w' h' => wpAny_of_T f _ a' w' h'.2) (h.2 i hi)⟩

/-- each operation from n0 on waits for each below -/
def lateB (md : Region.Mode) (ops : Array Oper) (n0 : Nat) : Bool :=
  (List.range ops.size).all fun j => decide (j < n0) || (List.range n0).all fun i => match ops[j]? with
    | some o => o.after.any fun e => Region.binds md e && e.on == i
    | none => true

theorem late_waits (h : lateB md ops n0 = true) {i j : Nat} (hi : i < n0) (hj : n0 ≤ j) {listed : Array Bool} (hr : j ∈ Region.ready md ops listed) : listed.getD i false = true := by
  obtain ⟨_, o, ho, hall⟩ := mem_ready.1 hr
  have hs : j < ops.size := (Array.getElem?_eq_some_iff.1 ho).1
  simp only [lateB, List.all_eq_true, List.mem_range, Bool.or_eq_true, decide_eq_true_eq] at h
  rcases h j hs with h1 | h1
  · omega
  · have h2 := h1 i hi
    simp only [ho] at h2
    obtain ⟨e, he, hb⟩ := Array.any_eq_true'.1 h2
    simp only [Bool.and_eq_true, beq_iff_eq] at hb
    have := hall e he hb.1
    rwa [hb.2] at this

/-- a quiet operation of the first phase may be taken first -/
theorem wpAnyT_first {i : Nat} {oi : Oper} {v : Value} (hi : ops[i]? = some oi) (hin : i < n0) (hl : lateB md ops n0 = true) (hs : Region.noSelect ops = true) (hQ : ∀ c a w, Q (.panic c) (a.put oi.dst v) w → Q (.panic c) a w) :
    ∀ (f : Nat) (listed : Array Bool) (a : Act) (w : World), Region.free md ops listed i = true → i ∈ Region.ready md ops listed → YieldsIf P ops S oi v a → S w →
      wpAnyT P md ops Q S n0 f (listed.setIfInBounds i true) (a.put oi.dst v) w → wpAnyT P md ops Q S n0 (f + 1) listed a w := by
  have key : ∀ (f : Nat) (listed : Array Bool) (a : Act) (w : World),
      (∀ j oj, ops[j]? = some oj → j ≠ i → listed.getD j true = false → (∀ e ∈ oj.after, Region.binds md e = true → e.on ≠ i) → oi.apart ops oj = true) →
      i ∈ Region.ready md ops listed → YieldsIf P ops S oi v a → S w →
      wpAnyT P md ops Q S n0 f (listed.setIfInBounds i true) (a.put oi.dst v) w → wpAnyT P md ops Q S n0 (f + 1) listed a w := by
    intro f
    induction f with
    | zero =>
      intro listed a w _ hr hy hS H
      refine ⟨fun h => (by rw [h] at hr; cases hr), fun j hj => ?_⟩
      by_cases hji : j = i
      · subst hji; exact hy.wpOp hi hS ⟨fun _ => hS, H⟩
      · have := ready_mono hj hji
        rw [H.1] at this
        cases this
    | succ f ih =>
      intro listed a w hfree hr hy hS H
      refine ⟨fun h => (by rw [h] at hr; cases hr), fun j hj => ?_⟩
      by_cases hji : j = i
      · subst hji; exact hy.wpOp hi hS ⟨fun _ => hS, H⟩
      · have hun := (mem_ready.1 hr).1
        have hi2 : listed.getD i false = false := by
          rcases Nat.lt_or_ge i listed.size with h' | h'
          · simp [h'] at hun ⊢; exact hun
          · simp [Array.getElem?_eq_none h'] at hun
        have hjn : j < n0 := by
          rcases Nat.lt_or_ge j n0 with h | h
          · exact h
          · rw [late_waits hl hin h hj] at hi2; cases hi2
        obtain ⟨hjun, oj, hoj, hall⟩ := mem_ready.1 hj
        have hnot : ∀ e ∈ oj.after, Region.binds md e = true → e.on ≠ i := fun e he hb heq => by
          have := hall e he hb
          rw [heq, hi2] at this
          cases this
        refine wpOp_mono (fun a' w' h3 => ⟨fun _ => h3.2.1 hjn, ih (listed.setIfInBounds j true) a' w' (fun k ok hk hki hunk hno => hfree k ok hk hki ?_ hno) (ready_mono hr (Ne.symm hji)) h3.1 (h3.2.1 hjn) ?_⟩)
          (wpOp_putIf hoj (hfree j oj hoj hji hjun hnot) (fun cs b => Region.noSelect_spec hs i oi cs b hi) (fun cs b => Region.noSelect_spec hs j oj cs b hoj) hQ hy (H.2 j (ready_mono hj hji)))
        · by_cases hjk : j = k
          · subst hjk; exact hjun
          · rw [getD_set_ne true hjk] at hunk; exact hunk
        · rw [Array.setIfInBounds_comm _ _ hji]
          exact h3.2.2
  exact fun f listed a w hf hr hy hS H => key f listed a w (Region.free_spec hi hf) hr hy hS H

def wpPt (P : Program) (ops : Array Oper) (S : World → Prop) (n0 : Nat) (Q : Exit → Act → World → Prop) : Plan → Act → World → Prop
  | .done, a, w => Q .normal a w
  | .quiet k p, a, w => ∃ o v, ops[k]? = some o ∧ YieldsIf P ops S o v a ∧ wpPt P ops S n0 Q p (a.put o.dst v) w
  | .one k p, a, w => wpOp P ops Q k (fun a' w' => (k < n0 → S w') ∧ wpPt P ops S n0 Q p a' w') a w
  | .two k1 p1 k2 p2, a, w => wpOp P ops Q k1 (fun a' w' => (k1 < n0 → S w') ∧ wpPt P ops S n0 Q p1 a' w') a w ∧ wpOp P ops Q k2 (fun a' w' => (k2 < n0 → S w') ∧ wpPt P ops S n0 Q p2 a' w') a w

/-- 'ph': the first phase is not yet over -/
def ptB (md : Region.Mode) (ops : Array Oper) (n0 : Nat) : Plan → Array Bool → Bool
  | .done, listed => (Region.ready md ops listed).isEmpty
  | .quiet k p, listed => decide (k < n0) && (Region.ready md ops listed).contains k && Region.free md ops listed k && ptB md ops n0 p (listed.setIfInBounds k true)
  | .one k p, listed => decide (Region.ready md ops listed = [k]) && ptB md ops n0 p (listed.setIfInBounds k true)
  | .two k1 p1 k2 p2, listed => decide (Region.ready md ops listed = [k1, k2]) && decide (p1.len = p2.len) && ptB md ops n0 p1 (listed.setIfInBounds k1 true) && ptB md ops n0 p2 (listed.setIfInBounds k2 true)

/-- the class holds, or the first phase is over -/
def Still (md : Region.Mode) (ops : Array Oper) (S : World → Prop) (n0 : Nat) (listed : Array Bool) (w : World) : Prop := S w ∨ ∀ i, i < n0 → listed.getD i false = true

theorem wpAnyT_plan (hs : Region.noSelect ops = true) (hl : lateB md ops n0 = true) (hQ : ∀ c (a : Act) d v w, Q (.panic c) (a.put d v) w → Q (.panic c) a w) :
    ∀ (p : Plan) (listed : Array Bool) (a : Act) (w : World), ptB md ops n0 p listed = true → Still md ops S n0 listed w → wpPt P ops S n0 Q p a w → wpAnyT P md ops Q S n0 p.len listed a w
  | .done, _, _, _, hB, _, h => ⟨by simpa [ptB] using hB, h⟩
  | .quiet k p, listed, a, w, hB, hS, h => by
    simp only [ptB, Bool.and_eq_true, decide_eq_true_eq] at hB
    obtain ⟨⟨⟨hk, hr⟩, hf⟩, hB'⟩ := hB
    obtain ⟨o, v, h0, hy, hK⟩ := h
    have hr' : k ∈ Region.ready md ops listed := by simpa using hr
    have hSw : S w := by
      rcases hS with h | h
      · exact h
      · have hun := (mem_ready.1 hr').1
        have h1 := h k hk
        rcases Nat.lt_or_ge k listed.size with h' | h'
        · simp [h'] at hun h1; rw [hun] at h1; cases h1
        · simp [Array.getElem?_eq_none h'] at hun
    exact wpAnyT_first h0 hk hl hs (fun c a w => hQ c a _ _ w) _ _ _ _ hf hr' hy hSw (wpAnyT_plan hs hl hQ p _ _ w hB' (.inl hSw) hK)
  | .one k p, listed, a, w, hB, hS, h => by
    simp only [ptB, Bool.and_eq_true, decide_eq_true_eq] at hB
    obtain ⟨hr, hB'⟩ := hB
    refine ⟨fun h0 => (by rw [hr] at h0; cases h0), fun i hi => ?_⟩
    obtain rfl : i = k := by rw [hr] at hi; simpa using hi
    have hst : ∀ w', (i < n0 → S w') → Still md ops S n0 (listed.setIfInBounds i true) w' := fun w' h' => by
      rcases Nat.lt_or_ge i n0 with hin | hin
      · exact .inl (h' hin)
      · exact .inr fun j hj => getD_set_true (late_waits hl hj hin hi)
    exact wpOp_mono (fun a' w' h' => ⟨h'.1, wpAnyT_plan hs hl hQ p _ _ w' hB' (hst w' h'.1) h'.2⟩) h
  | .two k1 p1 k2 p2, listed, a, w, hB, hS, h => by
    simp only [ptB, Bool.and_eq_true, decide_eq_true_eq] at hB
    obtain ⟨⟨⟨hr, hlen⟩, hB1⟩, hB2⟩ := hB
    refine ⟨fun h0 => (by rw [hr] at h0; cases h0), fun i hi => ?_⟩
    have hst : ∀ w', (i < n0 → S w') → Still md ops S n0 (listed.setIfInBounds i true) w' := fun w' h' => by
      rcases Nat.lt_or_ge i n0 with hin | hin
      · exact .inl (h' hin)
      · exact .inr fun j hj => getD_set_true (late_waits hl hj hin hi)
    have hi' : i = k1 ∨ i = k2 := by rw [hr] at hi; simpa using hi
    rcases hi' with rfl | rfl
    · exact wpOp_mono (fun a' w' h' => ⟨h'.1, wpAnyT_plan hs hl hQ p1 _ _ w' hB1 (hst w' h'.1) h'.2⟩) h.1
    · exact wpOp_mono (fun a' w' h' => ⟨h'.1, by show wpAnyT P md ops Q S n0 p1.len _ _ _; rw [hlen]; exact wpAnyT_plan hs hl hQ p2 _ _ w' hB2 (hst w' h'.1) h'.2⟩) h.2

theorem wp_region_pt {id : Nat} {a : Act} {w : World} {l : List Oper} (n0 : Nat) (S : World → Prop) (p : Plan) (hm : P.follows .mixedOrders = true)
    (hB : (Region.noSelect l.toArray && decide (p.len = l.length) && lateB .any l.toArray n0 && ptB .any l.toArray n0 p (Array.replicate l.length false)) = true) (hS : S w.drew)
    (h : wpPt P l.toArray S n0 (NoPanic Q) p a w.drew) : (Code.region id l.toArray true).wp P Q a w := by
  simp only [Bool.and_eq_true, decide_eq_true_eq] at hB
  obtain ⟨⟨⟨h1, h2⟩, h3⟩, h4⟩ := hB
  refine wp_region_noPanic (wp_region_any hm (wpAny_of_T (S := S) (n0 := n0) _ _ _ _ ?_))
  have := wpAnyT_plan (md := .any) (S := S) (Q := NoPanic Q) h1 h3 (fun c a d v w h => h) p (Array.replicate l.length false) a w.drew h4 (.inl hS) h
  rw [h2] at this
  simpa using this

theorem wpPt_quiet {p : Plan} {k : Nat} {o : Oper} {a : Act} {w : World} (v : Value) (ho : ops[k]? = some o) (hg : o.guard = none) (hr : ∀ w', S w' → (execOp a.eval o).run P w' = .ok (.value v) w')
    (h : wpPt P ops S n0 Q p (a.put o.dst v) w) : wpPt P ops S n0 Q (.quiet k p) a w :=
  ⟨o, v, ho, .inl ⟨by unfold Region.wanted; rw [hg], hr⟩, h⟩

theorem wpPt_val {p : Plan} {k : Nat} {o : Oper} {a : Act} {w : World} (ho : ops[k]? = some o) (hg : o.guard = none)
    (h : ∃ v, (∀ w', S w' → (execOp a.eval o).run P w' = .ok (.value v) w') ∧ wpPt P ops S n0 Q p (a.put o.dst v) w) : wpPt P ops S n0 Q (.quiet k p) a w :=
  let ⟨v, h1, h2⟩ := h
  wpPt_quiet v ho hg h1 h2

theorem wpPt_one {p : Plan} {k : Nat} {o : Oper} {a : Act} {w : World} (hi : ops[k]? = some o) (hg : o.guard = none)
    (h : ∀ K : Act → World → Prop, (∀ a' w', (k < n0 → S w') → wpPt P ops S n0 Q p a' w' → K a' w') → o.wp P a w K Q) : wpPt P ops S n0 Q (.one k p) a w :=
  wpOp_of_one hi hg fun K hK => h K fun a' w' h1 h2 => hK a' w' ⟨h1, h2⟩

theorem wpPt_two {p1 p2 : Plan} {k1 k2 : Nat} {o1 o2 : Oper} {a : Act} {w : World} (hi1 : ops[k1]? = some o1) (hg1 : o1.guard = none) (hi2 : ops[k2]? = some o2) (hg2 : o2.guard = none)
    (h1 : ∀ K : Act → World → Prop, (∀ a' w', (k1 < n0 → S w') → wpPt P ops S n0 Q p1 a' w' → K a' w') → o1.wp P a w K Q)
    (h2 : ∀ K : Act → World → Prop, (∀ a' w', (k2 < n0 → S w') → wpPt P ops S n0 Q p2 a' w' → K a' w') → o2.wp P a w K Q) : wpPt P ops S n0 Q (.two k1 p1 k2 p2) a w :=
  ⟨wpOp_of_one hi1 hg1 fun K hK => h1 K fun a' w' h1 h2 => hK a' w' ⟨h1, h2⟩, wpOp_of_one hi2 hg2 fun K hK => h2 K fun a' w' h1 h2 => hK a' w' ⟨h1, h2⟩⟩

end
end Go.Proofs.Ytbedikodiboofaa
