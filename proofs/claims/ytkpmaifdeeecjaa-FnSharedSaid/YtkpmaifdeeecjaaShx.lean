/- The exact law of SharedWords walked, and for every argument. -/
import Derived.Test.YtkpmaifdeeecjaaShr
import Derived.Test.YtkpmaifdeeecjaaRng
import Derived.Test.YtkpmaifdeeecjaaGb
import Derived.Test.YtkpmaifdeeecjaaMks
import Derived.Test.YtkpmaifdeeecjaaGa
namespace Go.Proofs.Ytkpmaifdeeecjaa
open Go.RowKit
set_option linter.unusedVariables false
set_option linter.unusedSimpArgs false

/-- what a call leaves that writes marks into strings -/
def RetMs (lo hi : Nat) (w : World) (a : Option Addr) (cap n k : Nat) (e : Ending) (w' : World) : Prop :=
  e = .returned (.int .i64 ((k + n : Nat) : Int)) ∧ RdS w' a cap (smarks k n) ∧ Rng lo hi w w'

/-- the block of an own slice, or one past the heap -/
theorem own_at {α : Type} {E : Enc α} {e : TypeId} {w : World} {a : Option Addr} {cap : Nat} {xs : List α} {lo : Nat} (h : Own E e w a cap xs lo) : ∃ k, (∀ A, a = some A → k ≤ A.block ∧ A.block < k + 1) ∧ ((∃ A, a = some A ∧ A.block = k) ∨ w.heap.size ≤ k) := by
  cases a with
  | none => exact ⟨w.heap.size, (fun A hA => by cases hA), .inr (Nat.le_refl _)⟩
  | some A => exact ⟨A.block, (fun B hB => by cases hB; omega), .inl ⟨A, rfl, rfl⟩⟩

theorem blk_rng {lo hi : Nat} {w w' : World} {k : Nat} {ob : Obj} (h : w.heap[k]? = some ob) (hg : Rng lo hi w w') (hk : k < lo ∨ hi ≤ k) : w'.heap[k]? = some ob :=
  (hg.block k (Array.getElem?_eq_some_iff.1 h).1 hk).trans h

theorem implSharedWords_no (o l m : Int) (a : Option Addr) (cap : Nat) (ps : List Pr) (base last : Int) (o2 l2 m2 : Int) (a2 : Option Addr) (cap2 : Nat) (qs : List Pr) (base2 last2 : Int) (w : World) (hr : RdP w a cap ps) (hr2 : RdP w a2 cap2 qs) (h : kvb o l m ps base last = false ∨ kvb o2 l2 m2 qs base2 last2 = false) :
    Calls Try.prog 5 #[.agg #[.int .i64 o, .int .i64 l, .int .i64 m, .slice a ps.length cap, .int .i64 base, .int .i64 last], .agg #[.int .i64 o2, .int .i64 l2, .int .i64 m2, .slice a2 qs.length cap2, .int .i64 base2, .int .i64 last2]] w (RetS w []) := by
  have HR := Lib.hid (show Rd encP w a cap ps from hr)
  have HR2 := Lib.hid (show Rd encP w a2 cap2 qs from hr2)
  clear hr hr2
  cases hk : kvb o l m ps base last
  · have HK := Lib.hid hk
    clear h hk
    go_enter Try.func5, Try.ntmps5
    go_wp2_with fail
    refine (KnownValid_any o l m a cap ps base last _ (by (try unfold RdP); repeat (first | (with_reducible exact HR.out) | (with_reducible apply rd_seq) | (with_reducible apply Rd.plus) | (with_reducible apply Rd.alloc) | (with_reducible apply Rd.drew) | (with_reducible apply Rd.drewN)))).mono ?_
    rintro e w' ⟨rfl, x1, rfl⟩
    rw [HK.out]
    go_wp2_with fail
    go_ret
    exact ⟨none, 0, rfl, .inl ⟨rfl, rfl, rfl⟩, (by repeat (first | exact More.refl _ | apply More.plus | apply More.alloc | apply More.drew | apply More.drewN))⟩
  · have HK := Lib.hid hk
    have HK2 := Lib.hid (h.resolve_left (by rw [hk]; simp))
    clear h hk
    go_enter Try.func5, Try.ntmps5
    go_wp2_with fail
    refine (KnownValid_any o l m a cap ps base last _ (by (try unfold RdP); repeat (first | (with_reducible exact HR.out) | (with_reducible apply rd_seq) | (with_reducible apply Rd.plus) | (with_reducible apply Rd.alloc) | (with_reducible apply Rd.drew) | (with_reducible apply Rd.drewN)))).mono ?_
    rintro e w' ⟨rfl, x1, rfl⟩
    rw [HK.out]
    go_wp2_with fail
    refine (KnownValid_any o2 l2 m2 a2 cap2 qs base2 last2 _ (by (try unfold RdP); repeat (first | (with_reducible exact HR2.out) | (with_reducible apply rd_seq) | (with_reducible apply Rd.plus) | (with_reducible apply Rd.alloc) | (with_reducible apply Rd.drew) | (with_reducible apply Rd.drewN)))).mono ?_
    rintro e w' ⟨rfl, x2, rfl⟩
    rw [HK2.out]
    go_wp2_with fail
    go_ret
    exact ⟨none, 0, rfl, .inl ⟨rfl, rfl, rfl⟩, (by repeat (first | exact More.refl _ | apply More.plus | apply More.alloc | apply More.drew | apply More.drewN))⟩

theorem specSharedWords_no (o l m : Int) (a : Option Addr) (cap : Nat) (ps : List Pr) (base last : Int) (o2 l2 m2 : Int) (a2 : Option Addr) (cap2 : Nat) (qs : List Pr) (base2 last2 : Int) (w : World) (hr : RdP w a cap ps) (hr2 : RdP w a2 cap2 qs) (h : kvb o l m ps base last = false ∨ kvb o2 l2 m2 qs base2 last2 = false) :
    Calls Try.prog 7 #[.agg #[.int .i64 o, .int .i64 l, .int .i64 m, .slice a ps.length cap, .int .i64 base, .int .i64 last], .agg #[.int .i64 o2, .int .i64 l2, .int .i64 m2, .slice a2 qs.length cap2, .int .i64 base2, .int .i64 last2]] w (RetS w []) := by
  obtain ⟨i0, hi, hz0, hz1, hz2⟩ := info_parts infoString
  have HR := Lib.hid (show Rd encP w a cap ps from hr)
  have HR2 := Lib.hid (show Rd encP w a2 cap2 qs from hr2)
  clear hr hr2
  cases hk : kvb o l m ps base last
  · have HK := Lib.hid hk
    clear h hk
    go_enter Try.func7, Try.ntmps7
    go_wp2_with fail
    refine calls_named (fun X => X.heap[w.heap.size]? = some (.cells #[.int .i64 o, .int .i64 l, .int .i64 m, .slice a ps.length cap, .int .i64 base, .int .i64 last] 27 (0, 0)) ∧ X.heap[w.heap.size + 1]? = some (.cells #[.int .i64 o2, .int .i64 l2, .int .i64 m2, .slice a2 qs.length cap2, .int .i64 base2, .int .i64 last2] 27 (0, 0)) ∧ Own encS 9 X (some ⟨w.heap.size + 2, 0, none⟩) 0 [] (w.heap.size + 2) ∧ Rd encP X a cap ps ∧ Rd encP X a2 cap2 qs ∧ Below w.heap.size w X) ⟨?_, ?_, ?_, (by (try unfold RdP); repeat (first | (with_reducible exact HR.out) | (with_reducible apply rd_seq) | (with_reducible apply Rd.plus) | (with_reducible apply Rd.alloc) | (with_reducible apply Rd.drew) | (with_reducible apply Rd.drewN))), (by (try unfold RdP); repeat (first | (with_reducible exact HR2.out) | (with_reducible apply rd_seq) | (with_reducible apply Rd.plus) | (with_reducible apply Rd.alloc) | (with_reducible apply Rd.drew) | (with_reducible apply Rd.drewN))), (by repeat (first | exact Below.refl _ _ | refine below_plus ?_ (by first | omega | (simp <;> omega)) _ | refine Below.alloc ?_ (by first | omega | (simp <;> omega)) _ | refine below_patch ?_ (by omega) _ | refine Below.drew ?_))⟩ ?_
    · apply blk_alloc; apply blk_alloc; exact push_new _ _ _ rfl
    · apply blk_alloc; exact push_new _ _ _ (by simp)
    · exact Own.newAt (by simp) (by omega) rfl (row_of encS _ _ (fun i x h => by simp at h)) (by simp) (by omega)
    clear HR HR2
    rintro X ⟨hbx, hby, hown, hRA, hRB, hB⟩
    have zw := hB.size
    have cx := cell_of hbx
    have cy := cell_of hby
    have zx := (Array.getElem?_eq_some_iff.1 hbx).1
    have zy := (Array.getElem?_eq_some_iff.1 hby).1
    have HB := Lib.hid hB
    have HO := Lib.hid hown
    have HRA := Lib.hid hRA
    have HRB := Lib.hid hRB
    clear hbx hby hown hRA hRB hB
    refine (specKnownValid_any o l m a cap ps base last _ (by (try unfold RdP); repeat (first | (with_reducible exact HRA.out) | (with_reducible apply rd_seq) | (with_reducible apply Rd.plus) | (with_reducible apply Rd.alloc) | (with_reducible apply Rd.drew) | (with_reducible apply Rd.drewN)))).mono ?_
    rintro e w' ⟨rfl, x1, rfl⟩
    rw [HK.out]
    go_wp2_with fail
    go_ret
    exact ⟨some ⟨w.heap.size + 2, 0, none⟩, 0, rfl, (show Own encS 9 _ _ _ [] (w.heap.size + 2) from (by repeat (first | (with_reducible exact HO.out) | (with_reducible apply own_seq) | (with_reducible apply own_draw) | (with_reducible apply Own.plus) | (with_reducible apply Own.alloc) | (with_reducible apply Own.drew) | (with_reducible apply Own.drewN)))).lower (by omega), below_more (by repeat (first | (with_reducible exact HB.out) | refine below_plus ?_ (by first | omega | (simp <;> omega)) _ | refine Below.alloc ?_ (by first | omega | (simp <;> omega)) _ | refine below_patch ?_ (by omega) _ | refine Below.drew ?_))⟩
  · have HK := Lib.hid hk
    have HK2 := Lib.hid (h.resolve_left (by rw [hk]; simp))
    clear h hk
    go_enter Try.func7, Try.ntmps7
    go_wp2_with fail
    refine calls_named (fun X => X.heap[w.heap.size]? = some (.cells #[.int .i64 o, .int .i64 l, .int .i64 m, .slice a ps.length cap, .int .i64 base, .int .i64 last] 27 (0, 0)) ∧ X.heap[w.heap.size + 1]? = some (.cells #[.int .i64 o2, .int .i64 l2, .int .i64 m2, .slice a2 qs.length cap2, .int .i64 base2, .int .i64 last2] 27 (0, 0)) ∧ Own encS 9 X (some ⟨w.heap.size + 2, 0, none⟩) 0 [] (w.heap.size + 2) ∧ Rd encP X a cap ps ∧ Rd encP X a2 cap2 qs ∧ Below w.heap.size w X) ⟨?_, ?_, ?_, (by (try unfold RdP); repeat (first | (with_reducible exact HR.out) | (with_reducible apply rd_seq) | (with_reducible apply Rd.plus) | (with_reducible apply Rd.alloc) | (with_reducible apply Rd.drew) | (with_reducible apply Rd.drewN))), (by (try unfold RdP); repeat (first | (with_reducible exact HR2.out) | (with_reducible apply rd_seq) | (with_reducible apply Rd.plus) | (with_reducible apply Rd.alloc) | (with_reducible apply Rd.drew) | (with_reducible apply Rd.drewN))), (by repeat (first | exact Below.refl _ _ | refine below_plus ?_ (by first | omega | (simp <;> omega)) _ | refine Below.alloc ?_ (by first | omega | (simp <;> omega)) _ | refine below_patch ?_ (by omega) _ | refine Below.drew ?_))⟩ ?_
    · apply blk_alloc; apply blk_alloc; exact push_new _ _ _ rfl
    · apply blk_alloc; exact push_new _ _ _ (by simp)
    · exact Own.newAt (by simp) (by omega) rfl (row_of encS _ _ (fun i x h => by simp at h)) (by simp) (by omega)
    clear HR HR2
    rintro X ⟨hbx, hby, hown, hRA, hRB, hB⟩
    have zw := hB.size
    have cx := cell_of hbx
    have cy := cell_of hby
    have zx := (Array.getElem?_eq_some_iff.1 hbx).1
    have zy := (Array.getElem?_eq_some_iff.1 hby).1
    have HB := Lib.hid hB
    have HO := Lib.hid hown
    have HRA := Lib.hid hRA
    have HRB := Lib.hid hRB
    clear hbx hby hown hRA hRB hB
    refine (specKnownValid_any o l m a cap ps base last _ (by (try unfold RdP); repeat (first | (with_reducible exact HRA.out) | (with_reducible apply rd_seq) | (with_reducible apply Rd.plus) | (with_reducible apply Rd.alloc) | (with_reducible apply Rd.drew) | (with_reducible apply Rd.drewN)))).mono ?_
    rintro e w' ⟨rfl, x1, rfl⟩
    rw [HK.out]
    go_wp2_with fail
    refine (specKnownValid_any o2 l2 m2 a2 cap2 qs base2 last2 _ (by (try unfold RdP); repeat (first | (with_reducible exact HRB.out) | (with_reducible apply rd_seq) | (with_reducible apply Rd.plus) | (with_reducible apply Rd.alloc) | (with_reducible apply Rd.drew) | (with_reducible apply Rd.drewN)))).mono ?_
    rintro e w' ⟨rfl, x2, rfl⟩
    rw [HK2.out]
    go_wp2_with fail
    go_ret
    exact ⟨some ⟨w.heap.size + 2, 0, none⟩, 0, rfl, (show Own encS 9 _ _ _ [] (w.heap.size + 2) from (by repeat (first | (with_reducible exact HO.out) | (with_reducible apply own_seq) | (with_reducible apply own_draw) | (with_reducible apply Own.plus) | (with_reducible apply Own.alloc) | (with_reducible apply Own.drew) | (with_reducible apply Own.drewN)))).lower (by omega), below_more (by repeat (first | (with_reducible exact HB.out) | refine below_plus ?_ (by first | omega | (simp <;> omega)) _ | refine Below.alloc ?_ (by first | omega | (simp <;> omega)) _ | refine below_patch ?_ (by omega) _ | refine Below.drew ?_))⟩

end Go.Proofs.Ytkpmaifdeeecjaa
