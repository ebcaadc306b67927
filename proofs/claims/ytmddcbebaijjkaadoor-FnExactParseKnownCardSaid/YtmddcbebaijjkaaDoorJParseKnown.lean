/- The law of ParseKnown, for every argument. -/
import Derived.Test.YtmddcbebaijjkaaDoorL5ParseKnown
import Derived.Test.YtmddcbebaijjkaaDoorGn
namespace Go.Proofs.YtmddcbebaijjkaaDoor
open Go.RowKit
set_option linter.unusedVariables false
set_option linter.unusedSimpArgs false

theorem pk_yes {w w' : World} {t : ByteArray} {e : Ending} (h : RetPk w t e w') {o l m : Int} {ps : List Pr} {b la : Int} (hk : kvb o l m ps b la = true) (ht : t = knT o l m ps b la) :
    RetO w (fun a0 c0 => .tuple #[.agg #[.int .i64 o, .int .i64 l, .int .i64 m, .slice a0 ps.length c0, .int .i64 b, .int .i64 la], .bool true]) ps e w' := by
  obtain ⟨o1, l1, m1, qs, b1, la1, ok, hr, _, _, hu⟩ := h
  obtain ⟨rfl, rfl, rfl, rfl, rfl, rfl, rfl⟩ := hu o l m ps b la hk ht
  exact hr

theorem pk_no {w w' : World} {t : ByteArray} {e : Ending} (h : RetPk w t e w') (hn : ∀ (o l m : Int) (ps : List Pr) (b la : Int), kvb o l m ps b la = true → t ≠ knT o l m ps b la) :
    RetO w (fun a0 c0 => .tuple #[.agg #[.int .i64 0, .int .i64 0, .int .i64 0, .slice a0 ([] : List Pr).length c0, .int .i64 0, .int .i64 0], .bool false]) [] e w' := by
  obtain ⟨o1, l1, m1, qs, b1, la1, ok, hr, hy, hz, _⟩ := h
  cases ok with
  | true => exact absurd (hy rfl).2 (hn _ _ _ _ _ _ (hy rfl).1)
  | false =>
    obtain ⟨rfl, rfl, rfl, rfl, rfl, rfl⟩ := hz rfl
    exact hr

theorem lawParseKnown_any (s1 : ByteArray) (w : World) (hm1 : s1.size ≤ maxLen) (hlw : Lw w) :
    Calls Tryd.prog 4 #[.string s1] w fun e w' => e = .returned (.bool true) ∧ Below w.heap.size w w' := by
  by_cases hs : s1.size ≤ 1048576
  · by_cases h : ∃ (o l m : Int) (ps : List Pr) (b la : Int), kvb o l m ps b la = true ∧ s1 = knT o l m ps b la
    · obtain ⟨o, l, m, ps, b, la, hk, ht⟩ := h
      have hl := (kvb_iff.1 hk).nums.1
      exact lawParseKnown_sizes s1 w o l m ps b la true hm1 (by omega) hlw (fun W => (specParseKnown_any s1 W hs).mono fun e w' hr => pk_yes hr hk ht) (fun W hl => (ParseKnown_any s1 W hs hl).mono fun e w' hr => pk_yes hr hk ht)
    · have hn : ∀ (o l m : Int) (ps : List Pr) (b la : Int), kvb o l m ps b la = true → s1 ≠ knT o l m ps b la := fun o l m ps b la hk ht => h ⟨o, l, m, ps, b, la, hk, ht⟩
      exact lawParseKnown_sizes s1 w 0 0 0 [] 0 0 false hm1 (by simp) hlw (fun W => (specParseKnown_any s1 W hs).mono fun e w' hr => pk_no hr hn) (fun W hl => (ParseKnown_any s1 W hs hl).mono fun e w' hr => pk_no hr hn)
  · exact lawParseKnown_long1 s1 w (by omega) (by intro x hx; simp at hx; rw [hx]; exact hm1)

end Go.Proofs.YtmddcbebaijjkaaDoor
