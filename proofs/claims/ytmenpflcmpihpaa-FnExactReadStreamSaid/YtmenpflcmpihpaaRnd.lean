/- Walks: ReaderNeeds of the program and of the reference; the laws' sizes and copies of readers. -/
import Derived.Test.YtmenpflcmpihpaaRdr
namespace Go.Proofs.Ytmenpflcmpihpaa
open Go.RowKit
set_option linter.unusedVariables false
set_option linter.unusedSimpArgs false

/-- how many bits a reader needs -/
noncomputable def rnd (o l m : Int) (ps : List Pr) (base last : Int) (s : ByteArray) (z c e : Int) : Int :=
  if rdb o l m ps base last s z c e then if e = 1 then wd l m ps.length last - s.size else 0 else -1

theorem rdb_parts {o l m : Int} {ps : List Pr} {base last : Int} {s : ByteArray} {z c e : Int} (h : rdb o l m ps base last s z c e = true) : KV o l m ps base last ∧ RV l m ps.length last s z c e := by
  unfold rdb at h
  rw [Bool.and_eq_true] at h
  exact ⟨kvb_iff.1 h.1, rvb_iff.1 h.2⟩

theorem szReader_yes (o l m : Int) (a : Option Addr) (cap n : Nat) (base last : Int) (s : ByteArray) (z c e : Int) (left : Int) (w : World) (h0 : (n : Int) + s.size ≤ left) (h1 : left ≤ 9000000000000000000) :
    Calls Try.prog 49 #[.agg #[.int .i64 o, .int .i64 l, .int .i64 m, .slice a n cap, .int .i64 base, .int .i64 last, .string s, .int .i64 z, .int .i64 c, .int .i64 e], .int .i64 left] w (Ret w (.int .i64 (left - n - s.size))) := by
  have q0 : (n : Int) ≤ left := by omega
  have q : decide (left - (n : Int) < 0) = false := by simp; omega
  have q2 : decide (left - (n : Int) - (s.size : Int) < 0) = false := by simp; omega
  go_enter Try.func49, Try.ntmps49
  go_wp2_with (go_at_call 15; refine (szKnown_yes _ _ _ _ _ _ _ _ _ _ q0 h1).mono ?_; rintro e w' ⟨rfl, xc, rfl⟩)
  go_ret
  exact Ret.mk (by repeat (first | exact More.refl _ | apply More.plus | apply More.alloc | apply More.drew | apply More.drewN))

theorem szReader_no (o l m : Int) (a : Option Addr) (cap n : Nat) (base last : Int) (s : ByteArray) (z c e : Int) (left : Int) (w : World) (h0 : left < (n : Int) + s.size) (h9 : left ≤ 9000000000000000000) (h1 : 0 ≤ left) (h2 : n ≤ 9223372036854775807) (h3 : s.size ≤ 9223372036854775807) :
    Calls Try.prog 49 #[.agg #[.int .i64 o, .int .i64 l, .int .i64 m, .slice a n cap, .int .i64 base, .int .i64 last, .string s, .int .i64 z, .int .i64 c, .int .i64 e], .int .i64 left] w (Ret w (.int .i64 (-1))) := by
  by_cases hn : left < (n : Int)
  · go_enter Try.func49, Try.ntmps49
    go_wp2_with (go_at_call 15; refine (szKnown_no _ _ _ _ _ _ _ _ _ _ hn h1 h2).mono ?_; rintro e w' ⟨rfl, xc, rfl⟩)
    go_ret
    exact Ret.mk (by repeat (first | exact More.refl _ | apply More.plus | apply More.alloc | apply More.drew | apply More.drewN))
  · have q0 : (n : Int) ≤ left := by omega
    have q : decide (left - (n : Int) < 0) = false := by simp; omega
    have q2 : decide (left - (n : Int) - (s.size : Int) < 0) = true := by simp; omega
    go_enter Try.func49, Try.ntmps49
    go_wp2_with (go_at_call 15; refine (szKnown_yes _ _ _ _ _ _ _ _ _ _ q0 h9).mono ?_; rintro e w' ⟨rfl, xc, rfl⟩)
    go_ret
    exact Ret.mk (by repeat (first | exact More.refl _ | apply More.plus | apply More.alloc | apply More.drew | apply More.drewN))

/-- what a call leaves that returns a reader with pairs of its own -/
def RetRd (w : World) (o l m : Int) (ps : List Pr) (base last : Int) (s : ByteArray) (z c e : Int) (E : Ending) (w' : World) : Prop :=
  ∃ a cap, E = .returned (.agg #[.int .i64 o, .int .i64 l, .int .i64 m, .slice a ps.length cap, .int .i64 base, .int .i64 last, .string s, .int .i64 z, .int .i64 c, .int .i64 e]) ∧ Own encP 127 w' a cap ps w.heap.size ∧ ∃ x, w' = plus w x

theorem toReader_any (o l m : Int) (a : Option Addr) (cap : Nat) (ps : List Pr) (base last : Int) (s : ByteArray) (z c e : Int) (w : World) (hr : RdP w a cap ps) (hn : ps.length ≤ 2000000) :
    Calls Try.prog 51 #[.agg #[.int .i64 o, .int .i64 l, .int .i64 m, .slice a ps.length cap, .int .i64 base, .int .i64 last, .string s, .int .i64 z, .int .i64 c, .int .i64 e]] w (RetRd w o l m ps base last s z c e) := by
  go_enter Try.func51, Try.ntmps51
  go_wp2_with (go_at_call 17; refine (toKnown_any _ _ _ _ _ ps _ _ _ (by repeat (first | exact hr | apply rd_seq | apply Rd.plus | apply Rd.alloc | apply Rd.drew | apply Rd.drewN | refine rd_patch ?_ _ _ (by intro A hA; first | (cases hA; show _ ≠ _; omega) | (have := hal A hA; omega)))) hn).mono ?_; rintro e w' ⟨a', c', rfl, hown, x, rfl⟩)
  refine bodyPost_ret (v := .agg #[.int .i64 o, .int .i64 l, .int .i64 m, .slice a' ps.length c', .int .i64 base, .int .i64 last, .string s, .int .i64 z, .int .i64 c, .int .i64 e]) (by simp [results, Try.results51, go_sem]) rfl ?_
  exact ⟨a', c', rfl, ((own_swap hown (by simp <;> omega) (by simp <;> omega)).lower (by simp <;> omega)), (by repeat (first | exact More.refl _ | apply More.plus | apply More.alloc | apply More.drew | apply More.drewN))⟩

end Go.Proofs.Ytmenpflcmpihpaa
