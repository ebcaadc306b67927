/- The law of ParseReader, for every argument. -/
import Derived.Test.YtmddcbebaijjkaaGreatDoorL5ParseReader
import Derived.Test.YtmddcbebaijjkaaGreatDoorPrs
namespace Go.Proofs.YtmddcbebaijjkaaGreatDoor
open Go.RowKit
set_option linter.unusedVariables false
set_option linter.unusedSimpArgs false

theorem rk_yes {w w' : World} {t : ByteArray} {E : Ending} (h : RetRk w t E w') {o l m : Int} {ps : List Pr} {b la : Int} {s : ByteArray} {z c e : Int} (hk : rdb o l m ps b la s z c e = true) (ht : t = rdT o l m ps b la s z c e) :
    RetO w (fun a0 c0 => .tuple #[.agg #[.int .i64 o, .int .i64 l, .int .i64 m, .slice a0 ps.length c0, .int .i64 b, .int .i64 la, .string s, .int .i64 z, .int .i64 c, .int .i64 e], .bool true]) ps E w' := by
  obtain ⟨o1, l1, m1, qs, b1, la1, s1, z1, c1, e1, ok, hr, _, _, hu⟩ := h
  obtain ⟨rfl, rfl, rfl, rfl, rfl, rfl, rfl, rfl, rfl, rfl, rfl⟩ := hu o l m ps b la s z c e hk ht
  exact hr

theorem rk_no {w w' : World} {t : ByteArray} {E : Ending} (h : RetRk w t E w') (hn : ∀ (o l m : Int) (ps : List Pr) (b la : Int) (s : ByteArray) (z c e : Int), rdb o l m ps b la s z c e = true → t ≠ rdT o l m ps b la s z c e) :
    RetO w (fun a0 c0 => .tuple #[.agg #[.int .i64 0, .int .i64 0, .int .i64 0, .slice a0 ([] : List Pr).length c0, .int .i64 0, .int .i64 0, .string ⟨#[]⟩, .int .i64 0, .int .i64 0, .int .i64 0], .bool false]) [] E w' := by
  obtain ⟨o1, l1, m1, qs, b1, la1, s1, z1, c1, e1, ok, hr, hy, hz, _⟩ := h
  cases ok with
  | true => exact absurd (hy rfl).2 (hn _ _ _ _ _ _ _ _ _ _ (hy rfl).1)
  | false =>
    obtain ⟨rfl, rfl, rfl, rfl, rfl, rfl, rfl, rfl, rfl, rfl⟩ := hz rfl
    exact hr

theorem lawParseReader_any (s1 : ByteArray) (w : World) (hm1 : s1.size ≤ maxLen) (hlw : Lw w) :
    Calls Tryz.prog 3 #[.string s1] w fun e w' => e = .returned (.bool true) ∧ Below w.heap.size w w' := by
  by_cases hs : s1.size ≤ 1048576
  · by_cases h : ∃ (o l m : Int) (ps : List Pr) (b la : Int) (s : ByteArray) (z c e : Int), rdb o l m ps b la s z c e = true ∧ s1 = rdT o l m ps b la s z c e
    · obtain ⟨o, l, m, ps, b, la, s, z, c, e, hk, ht⟩ := h
      have hl := (rdb_parts hk).1.nums.1
      exact lawParseReader_sizes s1 w o l m ps b la s z c e true hm1 (by omega) hlw (fun W => (specParseReader_any s1 W hs).mono fun E w' hr => rk_yes hr hk ht) (fun W hl => (ParseReader_any s1 W hs hl).mono fun E w' hr => rk_yes hr hk ht)
    · have hn : ∀ (o l m : Int) (ps : List Pr) (b la : Int) (s : ByteArray) (z c e : Int), rdb o l m ps b la s z c e = true → s1 ≠ rdT o l m ps b la s z c e := fun o l m ps b la s z c e hk ht => h ⟨o, l, m, ps, b, la, s, z, c, e, hk, ht⟩
      exact lawParseReader_sizes s1 w 0 0 0 [] 0 0 ⟨#[]⟩ 0 0 0 false hm1 (by simp) hlw (fun W => (specParseReader_any s1 W hs).mono fun E w' hr => rk_no hr hn) (fun W hl => (ParseReader_any s1 W hs hl).mono fun E w' hr => rk_no hr hn)
  · exact lawParseReader_long1 s1 w (by omega) (by intro x hx; simp at hx; rw [hx]; exact hm1)

end Go.Proofs.YtmddcbebaijjkaaGreatDoor
