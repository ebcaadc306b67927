/- The law StartWith: the walk. -/
import Derived.Test.YtkpmaifdeeecjaaLtr
import Derived.Test.YtkpmaifdeeecjaaSok
namespace Go.Proofs.Ytkpmaifdeeecjaa
open Go.RowKit
set_option linter.unusedVariables false
set_option linter.unusedSimpArgs false

theorem specStartWith_yes0 (o l m : Int) (s : ByteArray) (w : World) (hs : sv o l m = true) (hd : dfB o l m s = true) (hm : s.size ≤ maxLen) (qs : List Pr) (hq : lrn0 l m s = qs) :
    Calls Try.prog 13 #[.agg #[.int .i64 o, .int .i64 l, .int .i64 m], .string s] w (RetO w (fun a0 c0 => .tuple #[.agg #[.int .i64 o, .int .i64 l, .int .i64 m, .slice a0 qs.length c0, .int .i64 qs.length, .int .i64 (-1)], .bool true]) qs) :=
  specStartWith_of o l m s w hs _ _ _ _ _ _ _ fun W => specLearnKnown_yes o l m none 0 [] 0 (-1) s W (rd_none W) hm (kvb_iff.2 (kv_start hs)) hd qs hq

theorem specStartWith_bad (o l m : Int) (s : ByteArray) (w : World) (hm : s.size ≤ maxLen) (h : sv o l m = false ∨ dfB o l m s = false) :
    Calls Try.prog 13 #[.agg #[.int .i64 o, .int .i64 l, .int .i64 m], .string s] w (RetO w (fun a0 c0 => .tuple #[.agg #[.int .i64 0, .int .i64 0, .int .i64 0, .slice a0 ([] : List Pr).length c0, .int .i64 0, .int .i64 0], .bool false]) []) := by
  cases hs : sv o l m
  · exact specStartWith_nos o l m s w hs
  · exact specStartWith_of o l m s w hs _ _ _ _ _ _ _ fun W => specLearnKnown_no o l m none 0 [] 0 (-1) s W (rd_none W) hm (.inr (h.resolve_left (fun e => by rw [hs] at e; cases e)))

/-- the trimmed part teaches the same -/
theorem lrn_trim {o l m : Int} {s : ByteArray} (hs : sv o l m = true) (hd : dfB o l m s = true) {N : Nat} (hN : ned0 l m s = N) (hNs : N ≤ s.size) : lrn0 l m (s.extract 0 N) = lrn0 l m s := by
  obtain ⟨⟨r, h1⟩, h2, _⟩ := lrn_pre hs hd hNs
  have h3 := h2.2 (by omega)
  have e := congrArg List.length h1
  rw [List.length_append] at e
  have : r = [] := List.eq_nil_of_length_eq_zero (by omega)
  rw [h1, this, List.append_nil]

theorem lrn_few0 {o l m base : Int} : ∀ (f : Nat) (ps : List Pr) (last : Int) (d : List UInt8), Tx o l m base ps last d → d.length ≤ f → (lrn l m f ps last d).1.length ≤ ps.length + d.length
  | f, ps, last, [], _, _ => by rw [lrn_nil]; simp
  | 0, _, _, _ :: _, _, h => by simp at h
  | f + 1, ps, last, x :: d, hT, h1 => by
    obtain ⟨n, c, hn, hc, hT'⟩ := hT.step (by simp)
    rw [lrn_step (by simp) hn hc]
    have h2 := hn.1
    have h3 := hn.2.1
    have ih := lrn_few0 f _ _ _ hT' (by rw [List.length_drop]; omega)
    have ha : (aftP l m ps last c).length ≤ ps.length + 1 := by unfold aftP; split <;> simp
    rw [List.length_drop] at ih
    omega

theorem lrn_few {o l m : Int} {s : ByteArray} (hs : sv o l m = true) (hd : dfB o l m s = true) : (lrn0 l m s).length ≤ s.size := by
  have := lrn_few0 s.size [] (-1) s.data.toList ⟨kv_start hs, by rw [bstr_bytes]; exact hd⟩ (by rw [bytes_len]; omega)
  rw [bytes_len] at this
  simpa [lrn0] using this

theorem lrn_empty (l m : Int) : lrn0 l m ⟨#[]⟩ = [] := by
  unfold lrn0
  rw [show (⟨#[]⟩ : ByteArray).data.toList = [] from rfl, lrn_nil]

theorem dfB_empty {o l m : Int} (hs : sv o l m = true) : dfB o l m ⟨#[]⟩ = true := by
  unfold dfB litB
  rw [hs]
  simp
  show (0 : Int) ≤ 2000
  omega

end Go.Proofs.Ytkpmaifdeeecjaa
