/- The exact law of SharedWords walked, and for every argument. -/
import Derived.Test.YtlihhlihcjncoaaShr
import Derived.Test.YtlihhlihcjncoaaRng
import Derived.Test.YtlihhlihcjncoaaGb
import Derived.Test.YtlihhlihcjncoaaMks
import Derived.Test.YtlihhlihcjncoaaGa
namespace Go.Proofs.Ytlihhlihcjncoaa
open Go.RowKit
set_option linter.unusedVariables false
set_option linter.unusedSimpArgs false

/-- what a call leaves that writes marks into strings -/
def RetMs (lo hi : Nat) (w : World) (a : Option Addr) (cap n k : Nat) (e : Ending) (w' : World) : Prop :=
  e = .returned (.int .i64 ((k + n : Nat) : Int)) ∧ RdS w' a cap (smarks k n) ∧ Rng lo hi w w'

theorem markStringS_own (a : Option Addr) (cap : Nat) (ss : List ByteArray) (k : Nat) (w : World) {lo hi lo' : Nat} (h : Own encS 9 w a cap ss lo') (ha : ∀ A, a = some A → lo ≤ A.block ∧ A.block < hi) (hn2 : ss.length ≤ 2000000) (hk0 : 1 ≤ k) (hk1 : k ≤ 1000000) :
    Calls Try.prog 60 #[.slice a ss.length cap, .int .i64 k] w (RetMs lo hi w a cap ss.length k) := by
  rcases Nat.eq_zero_or_pos ss.length with hz | hz
  · have hr := h.rd
    rw [hz]
    refine (markStringS_nil a cap k w).mono ?_
    rintro e w' ⟨rfl, x, rfl⟩
    refine ⟨by simp, ?_, rng_more (More.refl _ |>.plus x)⟩
    show Rd encS _ a cap _
    have e0 : ss = [] := List.eq_nil_of_length_eq_zero hz
    rw [e0] at hr
    exact hr.plus x
  · obtain ⟨b, cur, rfl, h1, h2, h3, h4, h5, h6, h7⟩ := own_some h hz
    refine (markStringS_some b cap ss.length cur k w h3 (by rw [h4]; exact Nat.mul_one _) h6 hn2 hk0 hk1).mono ?_
    rintro e w' ⟨rfl, cur', x, rfl, c1, c2⟩
    obtain ⟨q1, q2⟩ := ha _ rfl
    refine ⟨rfl, ?_, rng_plus (rng_patch (rng_refl _ _ _) _ q1 q2) x⟩
    exact Rd.plus (rd_patched h2 c2 (by rw [smarks_len]; exact h6) h7) x

/-- the block of an own slice, or one past the heap -/
theorem own_at {α : Type} {E : Enc α} {e : TypeId} {w : World} {a : Option Addr} {cap : Nat} {xs : List α} {lo : Nat} (h : Own E e w a cap xs lo) : ∃ k, (∀ A, a = some A → k ≤ A.block ∧ A.block < k + 1) ∧ ((∃ A, a = some A ∧ A.block = k) ∨ w.heap.size ≤ k) := by
  cases a with
  | none => exact ⟨w.heap.size, (fun A hA => by cases hA), .inr (Nat.le_refl _)⟩
  | some A => exact ⟨A.block, (fun B hB => by cases hB; omega), .inl ⟨A, rfl, rfl⟩⟩

theorem blk_rng {lo hi : Nat} {w w' : World} {k : Nat} {ob : Obj} (h : w.heap[k]? = some ob) (hg : Rng lo hi w w') (hk : k < lo ∨ hi ≤ k) : w'.heap[k]? = some ob :=
  (hg.block k (Array.getElem?_eq_some_iff.1 h).1 hk).trans h

theorem eqS_y (a a' : Option Addr) (cap cap' : Nat) (ss : List ByteArray) (w : World) (hr : Rd encS w a cap ss) (hr' : Rd encS w a' cap' ss) (hn2 : ss.length ≤ 2000000) :
    Calls Try.prog 57 #[.slice a ss.length cap, .slice a' ss.length cap'] w (Ret w (.bool true)) := eqStringS_yes a a' cap cap' ss w hr hr' hn2

set_option maxRecDepth 100000 in
set_option maxHeartbeats 8000000 in
theorem lawSharedWords_fit (o l m : Int) (a : Option Addr) (cap : Nat) (ps : List Pr) (base last : Int) (o2 l2 m2 : Int) (a2 : Option Addr) (cap2 : Nat) (qs : List Pr) (base2 last2 : Int) (w : World) (ws : List ByteArray) (hr : RdP w a cap ps) (hr2 : RdP w a2 cap2 qs) (hn : (ps.length : Int) + qs.length ≤ 1048576) (hws : ws.length ≤ 100000)
    (hS : ∀ (W : World) (a : Option Addr) (cap : Nat) (a2 : Option Addr) (cap2 : Nat), RdP W a cap ps → RdP W a2 cap2 qs → Calls Try.prog 53 #[.agg #[.int .i64 o, .int .i64 l, .int .i64 m, .slice a ps.length cap, .int .i64 base, .int .i64 last], .agg #[.int .i64 o2, .int .i64 l2, .int .i64 m2, .slice a2 qs.length cap2, .int .i64 base2, .int .i64 last2]] W (RetS W ws))
    (hI : ∀ (W : World) (a : Option Addr) (cap : Nat) (a2 : Option Addr) (cap2 : Nat), RdP W a cap ps → RdP W a2 cap2 qs → Calls Try.prog 51 #[.agg #[.int .i64 o, .int .i64 l, .int .i64 m, .slice a ps.length cap, .int .i64 base, .int .i64 last], .agg #[.int .i64 o2, .int .i64 l2, .int .i64 m2, .slice a2 qs.length cap2, .int .i64 base2, .int .i64 last2]] W (RetS W ws)) :
    Calls Try.prog 13 #[.agg #[.int .i64 o, .int .i64 l, .int .i64 m, .slice a ps.length cap, .int .i64 base, .int .i64 last], .agg #[.int .i64 o2, .int .i64 l2, .int .i64 m2, .slice a2 qs.length cap2, .int .i64 base2, .int .i64 last2]] w fun e w' => e = .returned (.bool true) ∧ Below w.heap.size w w' := by
  have HS := Lib.hid hS
  have HI := Lib.hid hI
  have hal := rd_lt hr
  have hal2 := rd_lt hr2
  have HR := Lib.hid (show Rd encP w a cap ps from hr)
  have HR2 := Lib.hid (show Rd encP w a2 cap2 qs from hr2)
  have hn1 : ps.length ≤ 2000000 := by omega
  have hn2 : qs.length ≤ 2000000 := by omega
  have c1 : (ps.length : Int) ≤ 1048576 := by omega
  have c2 : (qs.length : Int) ≤ 1048576 - (ps.length : Int) := by omega
  have q1 : decide ((1048576 : Int) - (ps.length : Int) < 0) = false := by simp; omega
  have q2 : decide ((1048576 : Int) - (ps.length : Int) - (qs.length : Int) < 0) = false := by simp; omega
  clear hS hI hr hr2
  go_enter Try.func13, Try.ntmps13
  go_wp2_with fail
  refine (szKnown_yes _ _ _ _ _ ps.length _ _ _ _ c1 (by omega)).mono ?_
  rintro e w' ⟨rfl, x1, rfl⟩
  go_wp2_with fail
  refine (szKnown_yes _ _ _ _ _ qs.length _ _ _ _ c2 (by omega)).mono ?_
  rintro e w' ⟨rfl, x2, rfl⟩
  go_wp2_with fail
  refine wp_region_pt 5 (fun w' => ∃ y, w' = plus _ y) (Plan.quiet 0 (Plan.quiet 2 (Plan.one 1 (Plan.one 3 (Plan.one 4 (Plan.one 5 Plan.done)))))) (by kernel_rfl) (by kernel_rfl) (⟨_, drew_is_plus _⟩) ?_
  refine wpPt_val rfl rfl ?_
  apply Exists.intro
  refine ⟨fun w' hS => ?_, ?_⟩
  focus (obtain ⟨y3, rfl⟩ := hS; simp [go_sem, ↓IntWalk.iteOmega] <;> first | done | exact rfl | (rw [IntWalk.i64_in _ (by omega)]; exact rfl) | trace_state)
  refine wpPt_val rfl rfl ?_
  apply Exists.intro
  refine ⟨fun w' hS => ?_, ?_⟩
  focus (obtain ⟨y3, rfl⟩ := hS; simp [go_sem, ↓IntWalk.iteOmega] <;> first | done | exact rfl | (rw [IntWalk.i64_in _ (by omega)]; exact rfl) | trace_state)
  refine wpPt_one rfl rfl (fun K hK => ?_)
  go_simp
  refine (toKnown_any _ _ _ _ _ ps _ _ _ (by (try unfold RdP); repeat (first | (with_reducible exact HR.out) | (with_reducible apply rd_seq) | (with_reducible apply Rd.plus) | (with_reducible apply Rd.alloc) | (with_reducible apply Rd.drew) | (with_reducible apply Rd.drewN))) hn1).mono ?_
  rintro e w' ⟨aA, cA, rfl, hA, xA, rfl⟩
  (try simp only [plus_plus] at hA)
  have HA := Lib.hid hA.rd
  clear hA
  refine hK _ _ (fun hkn => (by repeat (first | exact More.refl _ | (with_reducible apply more_seq) | (with_reducible apply more_draw) | apply More.plus | apply More.alloc | apply More.drew))) ?_
  clear hK K
  refine wpPt_one rfl rfl (fun K hK => ?_)
  go_simp
  refine (toKnown_any _ _ _ _ _ qs _ _ _ (by (try unfold RdP); repeat (first | (with_reducible exact HR2.out) | (with_reducible apply rd_seq) | (with_reducible apply Rd.plus) | (with_reducible apply Rd.alloc) | (with_reducible apply Rd.drew) | (with_reducible apply Rd.drewN))) hn2).mono ?_
  rintro e w' ⟨bA, dA, rfl, hA, yA, rfl⟩
  (try simp only [plus_plus] at hA)
  have HA2 := Lib.hid hA.rd
  clear hA
  refine hK _ _ (fun hkn => (by repeat (first | exact More.refl _ | (with_reducible apply more_seq) | (with_reducible apply more_draw) | apply More.plus | apply More.alloc | apply More.drew))) ?_
  clear hK K
  refine wpPt_one rfl rfl (fun K hK => ?_)
  go_simp
  refine (HS.out _ _ _ _ _ (by (try unfold RdP); repeat (first | (with_reducible exact HA.out) | (with_reducible apply rd_seq) | (with_reducible apply Rd.plus) | (with_reducible apply Rd.alloc) | (with_reducible apply Rd.drew) | (with_reducible apply Rd.drewN))) (by (try unfold RdP); repeat (first | (with_reducible exact HA2.out) | (with_reducible apply rd_seq) | (with_reducible apply Rd.plus) | (with_reducible apply Rd.alloc) | (with_reducible apply Rd.drew) | (with_reducible apply Rd.drewN)))).mono ?_
  rintro e w' ⟨aW, cW, rfl, hW, xW, rfl⟩
  (try simp only [plus_plus] at hW)
  have HW := Lib.hid (show Rd encS _ aW cW ws from hW.rd)
  clear hW
  refine hK _ _ (fun hkn => (by repeat (first | exact More.refl _ | (with_reducible apply more_seq) | (with_reducible apply more_draw) | apply More.plus | apply More.alloc | apply More.drew))) ?_
  clear hK K
  refine wpPt_one rfl rfl (fun K hK => ?_)
  go_simp
  refine hK _ _ (fun hkn => absurd hkn (by decide)) ?_
  clear hK K
  refine NoPanic.normal ?_
  go_wp2_with fail
  refine calls_named (fun X => X.heap[w.heap.size]? = some (.cells #[.int .i64 o, .int .i64 l, .int .i64 m, .slice a ps.length cap, .int .i64 base, .int .i64 last] 68 (0, 0)) ∧ X.heap[w.heap.size + 1]? = some (.cells #[.int .i64 o2, .int .i64 l2, .int .i64 m2, .slice a2 qs.length cap2, .int .i64 base2, .int .i64 last2] 68 (0, 0)) ∧ Rd encP X a cap ps ∧ Rd encP X a2 cap2 qs ∧ Rd encS X aW cW ws ∧ Below w.heap.size w X ∧ w.heap.size + 2 ≤ X.heap.size) ⟨?_, ?_, (by (try unfold RdP); repeat (first | (with_reducible exact HR.out) | (with_reducible apply rd_seq) | (with_reducible apply Rd.plus) | (with_reducible apply Rd.alloc) | (with_reducible apply Rd.drew) | (with_reducible apply Rd.drewN))), (by (try unfold RdP); repeat (first | (with_reducible exact HR2.out) | (with_reducible apply rd_seq) | (with_reducible apply Rd.plus) | (with_reducible apply Rd.alloc) | (with_reducible apply Rd.drew) | (with_reducible apply Rd.drewN))), (by (try unfold RdP); repeat (first | (with_reducible exact HW.out) | (with_reducible apply rd_seq) | (with_reducible apply Rd.plus) | (with_reducible apply Rd.alloc) | (with_reducible apply Rd.drew) | (with_reducible apply Rd.drewN))), (by repeat (first | exact Below.refl _ _ | refine below_plus ?_ (by first | omega | (simp <;> omega)) _ | refine Below.alloc ?_ (by first | omega | (simp <;> omega)) _ | refine below_patch ?_ (by omega) _ | refine Below.drew ?_)), by simp <;> omega⟩ ?_
  · (repeat (first | apply blk_plus | apply blk_drew)); apply blk_alloc; exact push_new _ _ _ rfl
  · (repeat (first | apply blk_plus | apply blk_drew)); exact push_new _ _ _ (by simp)
  clear HA HA2 HW HR HR2
  rintro X ⟨hb0, hb1, hR, hR2, hW, hB, zX⟩
  have HB0 := Lib.hid hb0
  have HB1 := Lib.hid hb1
  have r0 := cell_of hb0
  have r1 := cell_of hb1
  have z0 : w.heap.size < X.heap.size := by omega
  have z1 : w.heap.size + 1 < X.heap.size := by omega
  have hWlt := rd_lt hW
  have HR := Lib.hid hR
  have HR2 := Lib.hid hR2
  have HW := Lib.hid hW
  have HB := Lib.hid hB
  clear hb0 hb1 hR hR2 hW hB
  refine (toKnown_any _ _ _ _ _ ps _ _ _ (by (try unfold RdP); repeat (first | (with_reducible exact HR.out) | (with_reducible apply rd_seq) | (with_reducible apply Rd.plus) | (with_reducible apply Rd.alloc) | (with_reducible apply Rd.drew) | (with_reducible apply Rd.drewN))) hn1).mono ?_
  rintro e w' ⟨aX, cX, rfl, hX, xX, rfl⟩
  have HX := Lib.hid hX
  have sX := own_lt hX
  (try simp only [plus_size] at sX)
  clear hX
  go_wp2_with fail
  refine (toKnown_any _ _ _ _ _ qs _ _ _ (by (try unfold RdP); repeat (first | (with_reducible exact HR2.out) | (with_reducible apply rd_seq) | (with_reducible apply Rd.plus) | (with_reducible apply Rd.alloc) | (with_reducible apply Rd.drew) | (with_reducible apply Rd.drewN))) hn2).mono ?_
  rintro e w' ⟨bX, dX, rfl, hX2, yX, rfl⟩
  (try simp only [plus_plus] at hX2)
  have HX2 := Lib.hid hX2
  have sX2 := own_lt hX2
  (try simp at sX2)
  clear hX2
  go_wp2_with fail
  refine (HI.out _ _ _ _ _ (by (try unfold RdP); repeat (first | (with_reducible exact HX.out.rd) | (with_reducible apply rd_seq) | (with_reducible apply Rd.plus) | (with_reducible apply Rd.alloc) | (with_reducible apply Rd.drew) | (with_reducible apply Rd.drewN))) (by (try unfold RdP); repeat (first | (with_reducible exact HX2.out.rd) | (with_reducible apply rd_seq) | (with_reducible apply Rd.plus) | (with_reducible apply Rd.alloc) | (with_reducible apply Rd.drew) | (with_reducible apply Rd.drewN)))).mono ?_
  rintro e w' ⟨aG, cG, rfl, hG, xG, rfl⟩
  (try simp only [plus_plus] at hG)
  have HG := Lib.hid hG
  have sG := own_lt hG
  (try simp at sG)
  clear hG
  go_wp2_with fail
  refine (eqS_y _ _ _ _ ws _ (by (try unfold RdP); repeat (first | (with_reducible exact HG.out.rd) | (with_reducible apply rd_seq) | (with_reducible apply Rd.plus) | (with_reducible apply Rd.alloc) | (with_reducible apply Rd.drew) | (with_reducible apply Rd.drewN))) (by (try unfold RdP); repeat (first | (with_reducible exact HW.out) | (with_reducible apply rd_seq) | (with_reducible apply Rd.plus) | (with_reducible apply Rd.alloc) | (with_reducible apply Rd.drew) | (with_reducible apply Rd.drewN))) (by omega)).mono ?_
  rintro e w' ⟨rfl, xE, rfl⟩
  go_wp2_with fail
  refine wp_region_pu 3 (fun w' => ∃ y, w' = plus _ y) (Plan.quiet 0 (Plan.quiet 1 (Plan.one 2 (Plan.one 3 (Plan.one 4 Plan.done))))) (by kernel_rfl) (by kernel_rfl) (⟨_, drew_is_plus _⟩) ?_
  refine wpPt_val rfl rfl ?_
  apply Exists.intro
  refine ⟨fun w' hS => ?_, ?_⟩
  focus (obtain ⟨y3, rfl⟩ := hS; simp [go_sem, ↓IntWalk.iteOmega, r0, r1] <;> first | done | exact rfl | (rw [IntWalk.i64_in _ (by omega)]; exact rfl) | trace_state)
  refine wpPt_val rfl rfl ?_
  apply Exists.intro
  refine ⟨fun w' hS => ?_, ?_⟩
  focus (obtain ⟨y3, rfl⟩ := hS; simp [go_sem, ↓IntWalk.iteOmega, r0, r1] <;> first | done | exact rfl | (rw [IntWalk.i64_in _ (by omega)]; exact rfl) | trace_state)
  refine wpPt_one rfl rfl (fun K hK => ?_)
  go_simp
  refine (toKnown_any _ _ _ _ _ ps _ _ _ (by (try unfold RdP); repeat (first | (with_reducible exact HR.out) | (with_reducible apply rd_seq) | (with_reducible apply Rd.plus) | (with_reducible apply Rd.alloc) | (with_reducible apply Rd.drew) | (with_reducible apply Rd.drewN))) hn1).mono ?_
  rintro e w' ⟨aY, cY, rfl, hY, xY, rfl⟩
  (try simp only [plus_plus] at hY)
  have HYr := Lib.hid hY.rd
  clear hY
  refine hK _ _ (fun hkn => (by repeat (first | exact More.refl _ | (with_reducible apply more_seq) | (with_reducible apply more_draw) | apply More.plus | apply More.alloc | apply More.drew))) ?_
  clear hK K
  refine wpPt_one rfl rfl (fun K hK => ?_)
  go_simp
  refine (eqKnown_yes _ _ _ _ _ ps _ _ _ _ _ (by (try unfold RdP); repeat (first | (with_reducible exact HX.out.rd) | (with_reducible apply rd_seq) | (with_reducible apply Rd.plus) | (with_reducible apply Rd.alloc) | (with_reducible apply Rd.drew) | (with_reducible apply Rd.drewN))) (by (try unfold RdP); repeat (first | (with_reducible exact HYr.out) | (with_reducible apply rd_seq) | (with_reducible apply Rd.plus) | (with_reducible apply Rd.alloc) | (with_reducible apply Rd.drew) | (with_reducible apply Rd.drewN)))).mono ?_
  rintro e w' ⟨rfl, xF, rfl⟩
  refine hK _ _ (fun hkn => absurd hkn (by decide)) ?_
  clear hK K
  refine wpPt_one rfl rfl (fun K hK => ?_)
  go_simp
  refine hK _ _ (fun hkn => absurd hkn (by decide)) ?_
  clear hK K
  refine NoPanic.normal ?_
  go_wp2_with fail
  refine wp_region_pu 3 (fun w' => ∃ y, w' = plus _ y) (Plan.quiet 0 (Plan.quiet 1 (Plan.one 2 (Plan.one 3 (Plan.one 4 Plan.done))))) (by kernel_rfl) (by kernel_rfl) (⟨_, drew_is_plus _⟩) ?_
  refine wpPt_val rfl rfl ?_
  apply Exists.intro
  refine ⟨fun w' hS => ?_, ?_⟩
  focus (obtain ⟨y3, rfl⟩ := hS; simp [go_sem, ↓IntWalk.iteOmega, r0, r1] <;> first | done | exact rfl | (rw [IntWalk.i64_in _ (by omega)]; exact rfl) | trace_state)
  refine wpPt_val rfl rfl ?_
  apply Exists.intro
  refine ⟨fun w' hS => ?_, ?_⟩
  focus (obtain ⟨y3, rfl⟩ := hS; simp [go_sem, ↓IntWalk.iteOmega, r0, r1] <;> first | done | exact rfl | (rw [IntWalk.i64_in _ (by omega)]; exact rfl) | trace_state)
  refine wpPt_one rfl rfl (fun K hK => ?_)
  go_simp
  refine (toKnown_any _ _ _ _ _ qs _ _ _ (by (try unfold RdP); repeat (first | (with_reducible exact HR2.out) | (with_reducible apply rd_seq) | (with_reducible apply Rd.plus) | (with_reducible apply Rd.alloc) | (with_reducible apply Rd.drew) | (with_reducible apply Rd.drewN))) hn2).mono ?_
  rintro e w' ⟨bY, dY, rfl, hY, yY, rfl⟩
  (try simp only [plus_plus] at hY)
  have HY2r := Lib.hid hY.rd
  clear hY
  refine hK _ _ (fun hkn => (by repeat (first | exact More.refl _ | (with_reducible apply more_seq) | (with_reducible apply more_draw) | apply More.plus | apply More.alloc | apply More.drew))) ?_
  clear hK K
  refine wpPt_one rfl rfl (fun K hK => ?_)
  go_simp
  refine (eqKnown_yes _ _ _ _ _ qs _ _ _ _ _ (by (try unfold RdP); repeat (first | (with_reducible exact HX2.out.rd) | (with_reducible apply rd_seq) | (with_reducible apply Rd.plus) | (with_reducible apply Rd.alloc) | (with_reducible apply Rd.drew) | (with_reducible apply Rd.drewN))) (by (try unfold RdP); repeat (first | (with_reducible exact HY2r.out) | (with_reducible apply rd_seq) | (with_reducible apply Rd.plus) | (with_reducible apply Rd.alloc) | (with_reducible apply Rd.drew) | (with_reducible apply Rd.drewN)))).mono ?_
  rintro e w' ⟨rfl, yF, rfl⟩
  refine hK _ _ (fun hkn => absurd hkn (by decide)) ?_
  clear hK K
  refine wpPt_one rfl rfl (fun K hK => ?_)
  go_simp
  refine hK _ _ (fun hkn => absurd hkn (by decide)) ?_
  clear hK K
  refine NoPanic.normal ?_
  go_wp2_with fail
  refine calls_named (fun Y => Y.heap[w.heap.size]? = some (.cells #[.int .i64 o, .int .i64 l, .int .i64 m, .slice a ps.length cap, .int .i64 base, .int .i64 last] 68 (0, 0)) ∧ Y.heap[w.heap.size + 1]? = some (.cells #[.int .i64 o2, .int .i64 l2, .int .i64 m2, .slice a2 qs.length cap2, .int .i64 base2, .int .i64 last2] 68 (0, 0)) ∧
    Y.heap[X.heap.size + xX.n]? = some (.cells #[.int .i64 o, .int .i64 l, .int .i64 m, .slice aX ps.length cX, .int .i64 base, .int .i64 last] 27 (0, 0)) ∧
    Y.heap[X.heap.size + xX.n + 1 + yX.n]? = some (.cells #[.int .i64 o2, .int .i64 l2, .int .i64 m2, .slice bX qs.length dX, .int .i64 base2, .int .i64 last2] 27 (0, 0)) ∧
    Own encP 44 Y aX cX ps X.heap.size ∧ Own encP 44 Y bX dX qs (X.heap.size + xX.n + 1) ∧ Own encS 9 Y aG cG ws (X.heap.size + xX.n + 1 + yX.n + 1) ∧ Rd encS Y aW cW ws ∧ Rd encP Y a cap ps ∧ Rd encP Y a2 cap2 qs ∧ Below w.heap.size w Y)
    ⟨(by repeat (first | (with_reducible exact HB0.out) | (with_reducible apply blk_seq) | (with_reducible apply blk_draw) | (with_reducible apply blk_plus) | (with_reducible apply blk_alloc) | (with_reducible apply blk_drew) | (with_reducible refine blk_patch ?_ (by omega)) | exact HB0.out)), (by repeat (first | (with_reducible exact HB1.out) | (with_reducible apply blk_seq) | (with_reducible apply blk_draw) | (with_reducible apply blk_plus) | (with_reducible apply blk_alloc) | (with_reducible apply blk_drew) | (with_reducible refine blk_patch ?_ (by omega)) | exact HB1.out)), ?_, ?_, (by repeat (first | (with_reducible exact HX.out.lower (by simp <;> omega)) | (with_reducible apply own_seq) | (with_reducible apply own_draw) | (with_reducible apply Own.plus) | (with_reducible apply Own.alloc) | (with_reducible apply Own.drew))), (by repeat (first | (with_reducible exact HX2.out.lower (by simp <;> omega)) | (with_reducible apply own_seq) | (with_reducible apply own_draw) | (with_reducible apply Own.plus) | (with_reducible apply Own.alloc) | (with_reducible apply Own.drew))), (by repeat (first | (with_reducible exact HG.out.lower (by simp <;> omega)) | (with_reducible apply own_seq) | (with_reducible apply own_draw) | (with_reducible apply Own.plus) | (with_reducible apply Own.alloc) | (with_reducible apply Own.drew))), (by (try unfold RdP); repeat (first | (with_reducible exact HW.out) | (with_reducible apply rd_seq) | (with_reducible apply Rd.plus) | (with_reducible apply Rd.alloc) | (with_reducible apply Rd.drew) | (with_reducible apply Rd.drewN))), (by (try unfold RdP); repeat (first | (with_reducible exact HR.out) | (with_reducible apply rd_seq) | (with_reducible apply Rd.plus) | (with_reducible apply Rd.alloc) | (with_reducible apply Rd.drew) | (with_reducible apply Rd.drewN))), (by (try unfold RdP); repeat (first | (with_reducible exact HR2.out) | (with_reducible apply rd_seq) | (with_reducible apply Rd.plus) | (with_reducible apply Rd.alloc) | (with_reducible apply Rd.drew) | (with_reducible apply Rd.drewN))), (by repeat (first | (with_reducible exact HB.out) | refine below_plus ?_ (by first | omega | (simp <;> omega)) _ | refine Below.alloc ?_ (by first | omega | (simp <;> omega)) _ | refine below_patch ?_ (by omega) _ | refine Below.drew ?_))⟩ ?_
  · (repeat (first | apply blk_plus | apply blk_drew)); apply blk_alloc; (repeat (first | apply blk_plus | apply blk_drew)); exact push_new _ _ _ (by simp <;> omega)
  · (repeat (first | apply blk_plus | apply blk_drew)); exact push_new _ _ _ (by simp <;> omega)
  have hX01 : X.heap.size + xX.n < X.heap.size + xX.n + 1 + yX.n := by omega
  have hXX : X.heap.size ≤ X.heap.size + xX.n := by omega
  revert hX01 hXX sX sX2 sG
  generalize X.heap.size + xX.n + 1 + yX.n = bx1
  generalize X.heap.size + xX.n = bx0
  intro sX sX2 sG hX01 hXX
  clear r0 r1 HX HX2 HG HB0 HB1 HR HR2 HW HB
  rintro Y ⟨hb0, hb1, hx0, hx1, hX, hX2, hG, hW, hR, hR2, hB⟩
  have HB0A := Lib.hid hb0
  have HB1A := Lib.hid hb1
  have HX0A := Lib.hid hx0
  have HX1A := Lib.hid hx1
  have HXA := Lib.hid hX
  have HX2A := Lib.hid hX2
  have HGA := Lib.hid hG
  have HWA := Lib.hid hW
  have HRA := Lib.hid hR
  have HS2A := Lib.hid hR2
  have HBA := Lib.hid hB
  have zYw := hB.size
  have zY1 := (Array.getElem?_eq_some_iff.1 hx1).1
  clear hb0 hb1 hx0 hx1 hX hX2 hG hW hR hR2 hB
  obtain ⟨kX, kX1, kX2⟩ := own_at HXA.out
  have hkX : (X.heap.size ≤ kX ∧ kX < bx0) ∨ Y.heap.size ≤ kX := by
    rcases kX2 with ⟨A, hA, he⟩ | h
    · have := sX A hA; omega
    · exact .inr h
  clear kX2
  have zc : 0 ≤ (1 : Int) + 2 * (ps.length : Int) := by omega
  refine (markKnown_own _ _ _ _ _ ps _ _ 1 _ HXA.out kX1 hn1 (by omega) (by omega)).mono ?_
  rintro e w2 ⟨rfl, hM, hRg⟩
  clear hM
  have HB0B := Lib.hid (blk_rng HB0A.out hRg (by omega))
  have HB1B := Lib.hid (blk_rng HB1A.out hRg (by omega))
  have HX0B := Lib.hid (blk_rng HX0A.out hRg (by omega))
  have HX1B := Lib.hid (blk_rng HX1A.out hRg (by omega))
  have HWB := Lib.hid (rd_rng HWA.out hRg (fun A hA hc => by have := hWlt A hA hc; omega))
  have HRB := Lib.hid (rd_rng HRA.out hRg (fun A hA hc => by have := hal A hA hc; omega))
  have HS2B := Lib.hid (rd_rng HS2A.out hRg (fun A hA hc => by have := hal2 A hA hc; omega))
  have HBB := Lib.hid (HBA.out.trans (hRg.below (B := w.heap.size) (by omega) (by omega)))
  have r0B := cell_of HB0B.out
  have r1B := cell_of HB1B.out
  have x0B := cell_of HX0B.out
  have x1B := cell_of HX1B.out
  have zzB := hRg.size
  have zb0B := (Array.getElem?_eq_some_iff.1 HB0B.out).1
  have zb1B := (Array.getElem?_eq_some_iff.1 HB1B.out).1
  have zx0B := (Array.getElem?_eq_some_iff.1 HX0B.out).1
  have zx1B := (Array.getElem?_eq_some_iff.1 HX1B.out).1
  have HX2B := Lib.hid (own_rng HX2A.out hRg (fun A hA => by have := sX2 A hA; have := (own_lt HX2A.out A hA).2; omega))
  have HGB := Lib.hid (own_rng HGA.out hRg (fun A hA => by have := sG A hA; have := (own_lt HGA.out A hA).2; omega))
  clear HB0A HB1A HX0A HX1A HXA HX2A HGA HWA HRA HS2A HBA hRg
  go_wp2_with fail
  obtain ⟨kB, kB1, kB2⟩ := own_at HX2B.out
  have hkB : (bx0 < kB ∧ kB < bx1) ∨ w2.heap.size ≤ kB := by
    rcases kB2 with ⟨A, hA, he⟩ | h
    · have := sX2 A hA; omega
    · exact .inr h
  clear kB2
  refine (markKnown_own _ _ _ _ _ qs _ _ (1 + 2 * (ps.length : Int)) _ HX2B.out kB1 hn2 (by omega) (by omega)).mono ?_
  rintro e w3 ⟨rfl, hM, hRg⟩
  clear hM
  have HB0C := Lib.hid (blk_rng HB0B.out hRg (by omega))
  have HB1C := Lib.hid (blk_rng HB1B.out hRg (by omega))
  have HX0C := Lib.hid (blk_rng HX0B.out hRg (by omega))
  have HX1C := Lib.hid (blk_rng HX1B.out hRg (by omega))
  have HWC := Lib.hid (rd_rng HWB.out hRg (fun A hA hc => by have := hWlt A hA hc; omega))
  have HRC := Lib.hid (rd_rng HRB.out hRg (fun A hA hc => by have := hal A hA hc; omega))
  have HS2C := Lib.hid (rd_rng HS2B.out hRg (fun A hA hc => by have := hal2 A hA hc; omega))
  have HBC := Lib.hid (HBB.out.trans (hRg.below (B := w.heap.size) (by omega) (by omega)))
  have r0C := cell_of HB0C.out
  have r1C := cell_of HB1C.out
  have x0C := cell_of HX0C.out
  have x1C := cell_of HX1C.out
  have zzC := hRg.size
  have zb0C := (Array.getElem?_eq_some_iff.1 HB0C.out).1
  have zb1C := (Array.getElem?_eq_some_iff.1 HB1C.out).1
  have zx0C := (Array.getElem?_eq_some_iff.1 HX0C.out).1
  have zx1C := (Array.getElem?_eq_some_iff.1 HX1C.out).1
  have HGC := Lib.hid (own_rng HGB.out hRg (fun A hA => by have := sG A hA; have := (own_lt HGB.out A hA).2; omega))
  clear HB0B HB1B HX0B HX1B HX2B HGB HWB HRB HS2B HBB hRg r0B r1B x0B x1B
  have e0 : decide ((1 : Int) + 2 * (ps.length : Int) + 2 * (qs.length : Int) < 0) = false := by simp; omega
  go_wp2_with fail
  refine (eqS_y _ _ _ _ ws _ (by (try unfold RdP); repeat (first | (with_reducible exact HGC.out.rd) | (with_reducible apply rd_seq) | (with_reducible apply Rd.plus) | (with_reducible apply Rd.alloc) | (with_reducible apply Rd.drew) | (with_reducible apply Rd.drewN))) (by (try unfold RdP); repeat (first | (with_reducible exact HWC.out) | (with_reducible apply rd_seq) | (with_reducible apply Rd.plus) | (with_reducible apply Rd.alloc) | (with_reducible apply Rd.drew) | (with_reducible apply Rd.drewN))) (by omega)).mono ?_
  rintro e w' ⟨rfl, xH, rfl⟩
  go_wp2_with fail
  have HGD := Lib.hid (HGC.out.plus xH)
  obtain ⟨kG, kG1, kG2⟩ := own_at HGD.out
  have hkG : bx1 < kG := by
    rcases kG2 with ⟨A, hA, he⟩ | h
    · have := sG A hA; omega
    · simp at h; omega
  clear kG2
  refine (markStringS_own aG cG ws 1 _ HGD.out kG1 (by omega) (by omega) (by omega)).mono ?_
  rintro e w4 ⟨rfl, hM, hRg⟩
  have HMM := Lib.hid (show Rd encS _ aG cG (smarks 1 ws.length) from hM)
  clear hM
  have HB0D := Lib.hid (blk_rng (blk_plus HB0C.out _) hRg (by omega))
  have HB1D := Lib.hid (blk_rng (blk_plus HB1C.out _) hRg (by omega))
  have HWD := Lib.hid (rd_rng (HWC.out.plus _) hRg (fun A hA hc => by have := hWlt A hA hc; omega))
  have HRD := Lib.hid (rd_rng (HRC.out.plus _) hRg (fun A hA hc => by have := hal A hA hc; omega))
  have HS2D := Lib.hid (rd_rng (HS2C.out.plus _) hRg (fun A hA hc => by have := hal2 A hA hc; omega))
  have HBD := Lib.hid ((below_plus HBC.out (by omega) _).trans (hRg.below (B := w.heap.size) (by omega) (by simp <;> omega)))
  have r0D := cell_of HB0D.out
  have r1D := cell_of HB1D.out
  have zb0D := (Array.getElem?_eq_some_iff.1 HB0D.out).1
  have zb1D := (Array.getElem?_eq_some_iff.1 HB1D.out).1
  have zwD := HBD.out.size
  clear HB0C HB1C HX0C HX1C HGC HGD HWC HRC HS2C HBC hRg r0C r1C x0C x1C
  have e2 : (((1 + ws.length : Nat) : Int) != ((1 + ws.length : Nat) : Int)) = false := by simp
  have e3 : decide (((1 + ws.length : Nat) : Int) < 0) = false := by simp; omega
  obtain ⟨nn, hnn⟩ : ∃ nn : Int, ((1 + ws.length : Nat) : Int) = nn := ⟨_, rfl⟩
  rw [hnn] at e2 e3 ⊢
  have HHD := Lib.hid (fun (W : World) (h : Rd encS W aG cG (smarks 1 ws.length)) => heldStringS_yes aG cG ws.length 1 W h (by omega) (by omega) (by omega))
  rw [hnn] at HHD
  clear hnn
  go_wp2_with fail
  refine (HHD.out _ (by (try unfold RdP); repeat (first | (with_reducible exact HMM.out) | (with_reducible apply rd_seq) | (with_reducible apply Rd.plus) | (with_reducible apply Rd.alloc) | (with_reducible apply Rd.drew) | (with_reducible apply Rd.drewN)))).mono ?_
  rintro e w' ⟨rfl, xI, rfl⟩
  go_wp2_with fail
  refine wp_region_pt 5 (fun w' => ∃ y, w' = plus _ y) (Plan.quiet 0 (Plan.quiet 2 (Plan.one 1 (Plan.one 3 (Plan.one 4 (Plan.one 5 Plan.done)))))) (by kernel_rfl) (by kernel_rfl) (⟨_, drew_is_plus _⟩) ?_
  refine wpPt_val rfl rfl ?_
  apply Exists.intro
  refine ⟨fun w' hS => ?_, ?_⟩
  focus (obtain ⟨y3, rfl⟩ := hS; simp [go_sem, ↓IntWalk.iteOmega, r0D, r1D] <;> first | done | exact rfl | (rw [IntWalk.i64_in _ (by omega)]; exact rfl) | trace_state)
  refine wpPt_val rfl rfl ?_
  apply Exists.intro
  refine ⟨fun w' hS => ?_, ?_⟩
  focus (obtain ⟨y3, rfl⟩ := hS; simp [go_sem, ↓IntWalk.iteOmega, r0D, r1D] <;> first | done | exact rfl | (rw [IntWalk.i64_in _ (by omega)]; exact rfl) | trace_state)
  refine wpPt_one rfl rfl (fun K hK => ?_)
  go_simp
  refine (toKnown_any _ _ _ _ _ ps _ _ _ (by (try unfold RdP); repeat (first | (with_reducible exact HRD.out) | (with_reducible apply rd_seq) | (with_reducible apply Rd.plus) | (with_reducible apply Rd.alloc) | (with_reducible apply Rd.drew) | (with_reducible apply Rd.drewN))) hn1).mono ?_
  rintro e w' ⟨aZ, cZ, rfl, hZ, xZ, rfl⟩
  (try simp only [plus_plus] at hZ)
  have HZ := Lib.hid hZ.rd
  clear hZ
  refine hK _ _ (fun hkn => (by repeat (first | exact More.refl _ | (with_reducible apply more_seq) | (with_reducible apply more_draw) | apply More.plus | apply More.alloc | apply More.drew))) ?_
  clear hK K
  refine wpPt_one rfl rfl (fun K hK => ?_)
  go_simp
  refine (toKnown_any _ _ _ _ _ qs _ _ _ (by (try unfold RdP); repeat (first | (with_reducible exact HS2D.out) | (with_reducible apply rd_seq) | (with_reducible apply Rd.plus) | (with_reducible apply Rd.alloc) | (with_reducible apply Rd.drew) | (with_reducible apply Rd.drewN))) hn2).mono ?_
  rintro e w' ⟨bZ, dZ, rfl, hZ, yZ, rfl⟩
  (try simp only [plus_plus] at hZ)
  have HZ2 := Lib.hid hZ.rd
  clear hZ
  refine hK _ _ (fun hkn => (by repeat (first | exact More.refl _ | (with_reducible apply more_seq) | (with_reducible apply more_draw) | apply More.plus | apply More.alloc | apply More.drew))) ?_
  clear hK K
  refine wpPt_one rfl rfl (fun K hK => ?_)
  go_simp
  refine (HI.out _ _ _ _ _ (by (try unfold RdP); repeat (first | (with_reducible exact HZ.out) | (with_reducible apply rd_seq) | (with_reducible apply Rd.plus) | (with_reducible apply Rd.alloc) | (with_reducible apply Rd.drew) | (with_reducible apply Rd.drewN))) (by (try unfold RdP); repeat (first | (with_reducible exact HZ2.out) | (with_reducible apply rd_seq) | (with_reducible apply Rd.plus) | (with_reducible apply Rd.alloc) | (with_reducible apply Rd.drew) | (with_reducible apply Rd.drewN)))).mono ?_
  rintro e w' ⟨aV, cV, rfl, hV, xV, rfl⟩
  (try simp only [plus_plus] at hV)
  have HV := Lib.hid (show Rd encS _ aV cV ws from hV.rd)
  clear hV
  refine hK _ _ (fun hkn => (by repeat (first | exact More.refl _ | (with_reducible apply more_seq) | (with_reducible apply more_draw) | apply More.plus | apply More.alloc | apply More.drew))) ?_
  clear hK K
  refine wpPt_one rfl rfl (fun K hK => ?_)
  go_simp
  refine hK _ _ (fun hkn => absurd hkn (by decide)) ?_
  clear hK K
  refine NoPanic.normal ?_
  go_wp2_with fail
  refine (eqS_y _ _ _ _ ws _ (by (try unfold RdP); repeat (first | (with_reducible exact HV.out) | (with_reducible apply rd_seq) | (with_reducible apply Rd.plus) | (with_reducible apply Rd.alloc) | (with_reducible apply Rd.drew) | (with_reducible apply Rd.drewN))) (by (try unfold RdP); repeat (first | (with_reducible exact HWD.out) | (with_reducible apply rd_seq) | (with_reducible apply Rd.plus) | (with_reducible apply Rd.alloc) | (with_reducible apply Rd.drew) | (with_reducible apply Rd.drewN))) (by omega)).mono ?_
  rintro e w' ⟨rfl, xJ, rfl⟩
  go_wp2_with fail
  refine (HHD.out _ (by (try unfold RdP); repeat (first | (with_reducible exact HMM.out) | (with_reducible apply rd_seq) | (with_reducible apply Rd.plus) | (with_reducible apply Rd.alloc) | (with_reducible apply Rd.drew) | (with_reducible apply Rd.drewN)))).mono ?_
  rintro e w' ⟨rfl, xL, rfl⟩
  go_wp2_with fail
  go_ret
  exact ⟨rfl, (by repeat (first | (with_reducible exact HBD.out) | refine below_plus ?_ (by first | omega | (simp <;> omega)) _ | refine Below.alloc ?_ (by first | omega | (simp <;> omega)) _ | refine below_patch ?_ (by omega) _ | refine Below.drew ?_))⟩

theorem implSharedWords_no (o l m : Int) (a : Option Addr) (cap : Nat) (ps : List Pr) (base last : Int) (o2 l2 m2 : Int) (a2 : Option Addr) (cap2 : Nat) (qs : List Pr) (base2 last2 : Int) (w : World) (hr : RdP w a cap ps) (hr2 : RdP w a2 cap2 qs) (h : kvb o l m ps base last = false ∨ kvb o2 l2 m2 qs base2 last2 = false) :
    Calls Try.prog 51 #[.agg #[.int .i64 o, .int .i64 l, .int .i64 m, .slice a ps.length cap, .int .i64 base, .int .i64 last], .agg #[.int .i64 o2, .int .i64 l2, .int .i64 m2, .slice a2 qs.length cap2, .int .i64 base2, .int .i64 last2]] w (RetS w []) := by
  have HR := Lib.hid (show Rd encP w a cap ps from hr)
  have HR2 := Lib.hid (show Rd encP w a2 cap2 qs from hr2)
  clear hr hr2
  cases hk : kvb o l m ps base last
  · have HK := Lib.hid hk
    clear h hk
    go_enter Try.func51, Try.ntmps51
    go_wp2_with fail
    refine (KnownValid_any o l m a cap ps base last _ (by (try unfold RdP); repeat (first | (with_reducible exact HR.out) | (with_reducible apply rd_seq) | (with_reducible apply Rd.plus) | (with_reducible apply Rd.alloc) | (with_reducible apply Rd.drew) | (with_reducible apply Rd.drewN)))).mono ?_
    rintro e w' ⟨rfl, x1, rfl⟩
    rw [HK.out]
    go_wp2_with fail
    go_ret
    exact ⟨none, 0, rfl, .inl ⟨rfl, rfl, rfl⟩, (by repeat (first | exact More.refl _ | apply More.plus | apply More.alloc | apply More.drew | apply More.drewN))⟩
  · have HK := Lib.hid hk
    have HK2 := Lib.hid (h.resolve_left (by rw [hk]; simp))
    clear h hk
    go_enter Try.func51, Try.ntmps51
    go_wp2_with fail
    refine (KnownValid_any o l m a cap ps base last _ (by (try unfold RdP); repeat (first | (with_reducible exact HR.out) | (with_reducible apply rd_seq) | (with_reducible apply Rd.plus) | (with_reducible apply Rd.alloc) | (with_reducible apply Rd.drew) | (with_reducible apply Rd.drewN)))).mono ?_
    rintro e w' ⟨rfl, x1, rfl⟩
    rw [HK.out]
    go_wp2_with fail
    refine (KnownValid_any o2 l2 m2 a2 cap2 qs base2 last2 _ (by (try unfold RdP); repeat (first | (with_reducible exact HR2.out) | (with_reducible apply rd_seq) | (with_reducible apply Rd.plus) | (with_reducible apply Rd.alloc) | (with_reducible apply Rd.drew) | (with_reducible apply Rd.drewN)))).mono ?_
    rintro e w' ⟨rfl, x2, rfl⟩
    rw [HK2.out]
    go_wp2_with fail
    go_ret
    exact ⟨none, 0, rfl, .inl ⟨rfl, rfl, rfl⟩, (by repeat (first | exact More.refl _ | apply More.plus | apply More.alloc | apply More.drew | apply More.drewN))⟩

theorem specSharedWords_no (o l m : Int) (a : Option Addr) (cap : Nat) (ps : List Pr) (base last : Int) (o2 l2 m2 : Int) (a2 : Option Addr) (cap2 : Nat) (qs : List Pr) (base2 last2 : Int) (w : World) (hr : RdP w a cap ps) (hr2 : RdP w a2 cap2 qs) (h : kvb o l m ps base last = false ∨ kvb o2 l2 m2 qs base2 last2 = false) :
    Calls Try.prog 53 #[.agg #[.int .i64 o, .int .i64 l, .int .i64 m, .slice a ps.length cap, .int .i64 base, .int .i64 last], .agg #[.int .i64 o2, .int .i64 l2, .int .i64 m2, .slice a2 qs.length cap2, .int .i64 base2, .int .i64 last2]] w (RetS w []) := by
  obtain ⟨i0, hi, hz0, hz1, hz2⟩ := info_parts infoString
  have HR := Lib.hid (show Rd encP w a cap ps from hr)
  have HR2 := Lib.hid (show Rd encP w a2 cap2 qs from hr2)
  clear hr hr2
  cases hk : kvb o l m ps base last
  · have HK := Lib.hid hk
    clear h hk
    go_enter Try.func53, Try.ntmps53
    go_wp2_with fail
    refine calls_named (fun X => X.heap[w.heap.size]? = some (.cells #[.int .i64 o, .int .i64 l, .int .i64 m, .slice a ps.length cap, .int .i64 base, .int .i64 last] 27 (0, 0)) ∧ X.heap[w.heap.size + 1]? = some (.cells #[.int .i64 o2, .int .i64 l2, .int .i64 m2, .slice a2 qs.length cap2, .int .i64 base2, .int .i64 last2] 27 (0, 0)) ∧ Own encS 9 X (some ⟨w.heap.size + 2, 0, none⟩) 0 [] (w.heap.size + 2) ∧ Rd encP X a cap ps ∧ Rd encP X a2 cap2 qs ∧ Below w.heap.size w X) ⟨?_, ?_, ?_, (by (try unfold RdP); repeat (first | (with_reducible exact HR.out) | (with_reducible apply rd_seq) | (with_reducible apply Rd.plus) | (with_reducible apply Rd.alloc) | (with_reducible apply Rd.drew) | (with_reducible apply Rd.drewN))), (by (try unfold RdP); repeat (first | (with_reducible exact HR2.out) | (with_reducible apply rd_seq) | (with_reducible apply Rd.plus) | (with_reducible apply Rd.alloc) | (with_reducible apply Rd.drew) | (with_reducible apply Rd.drewN))), (by repeat (first | exact Below.refl _ _ | refine below_plus ?_ (by first | omega | (simp <;> omega)) _ | refine Below.alloc ?_ (by first | omega | (simp <;> omega)) _ | refine below_patch ?_ (by omega) _ | refine Below.drew ?_))⟩ ?_
    · apply blk_alloc; apply blk_alloc; exact push_new _ _ _ rfl
    · apply blk_alloc; exact push_new _ _ _ (by simp)
    · exact Own.newAt (by simp) (by omega) rfl (row_of encS _ _ (fun i x h => by simp at h)) (by simp) (by omega)
    clear HR HR2
    rintro X ⟨hbx, hby, hown, hRA, hRB, hB⟩
    have zw := hB.size
    have cx := cell_of hbx
    have cy := cell_of hby
    have zx := (Array.getElem?_eq_some_iff.1 hbx).1
    have zy := (Array.getElem?_eq_some_iff.1 hby).1
    have HB := Lib.hid hB
    have HO := Lib.hid hown
    have HRA := Lib.hid hRA
    have HRB := Lib.hid hRB
    clear hbx hby hown hRA hRB hB
    refine (specKnownValid_any o l m a cap ps base last _ (by (try unfold RdP); repeat (first | (with_reducible exact HRA.out) | (with_reducible apply rd_seq) | (with_reducible apply Rd.plus) | (with_reducible apply Rd.alloc) | (with_reducible apply Rd.drew) | (with_reducible apply Rd.drewN)))).mono ?_
    rintro e w' ⟨rfl, x1, rfl⟩
    rw [HK.out]
    go_wp2_with fail
    go_ret
    exact ⟨some ⟨w.heap.size + 2, 0, none⟩, 0, rfl, (show Own encS 9 _ _ _ [] (w.heap.size + 2) from (by repeat (first | (with_reducible exact HO.out) | (with_reducible apply own_seq) | (with_reducible apply own_draw) | (with_reducible apply Own.plus) | (with_reducible apply Own.alloc) | (with_reducible apply Own.drew) | (with_reducible apply Own.drewN)))).lower (by omega), below_more (by repeat (first | (with_reducible exact HB.out) | refine below_plus ?_ (by first | omega | (simp <;> omega)) _ | refine Below.alloc ?_ (by first | omega | (simp <;> omega)) _ | refine below_patch ?_ (by omega) _ | refine Below.drew ?_))⟩
  · have HK := Lib.hid hk
    have HK2 := Lib.hid (h.resolve_left (by rw [hk]; simp))
    clear h hk
    go_enter Try.func53, Try.ntmps53
    go_wp2_with fail
    refine calls_named (fun X => X.heap[w.heap.size]? = some (.cells #[.int .i64 o, .int .i64 l, .int .i64 m, .slice a ps.length cap, .int .i64 base, .int .i64 last] 27 (0, 0)) ∧ X.heap[w.heap.size + 1]? = some (.cells #[.int .i64 o2, .int .i64 l2, .int .i64 m2, .slice a2 qs.length cap2, .int .i64 base2, .int .i64 last2] 27 (0, 0)) ∧ Own encS 9 X (some ⟨w.heap.size + 2, 0, none⟩) 0 [] (w.heap.size + 2) ∧ Rd encP X a cap ps ∧ Rd encP X a2 cap2 qs ∧ Below w.heap.size w X) ⟨?_, ?_, ?_, (by (try unfold RdP); repeat (first | (with_reducible exact HR.out) | (with_reducible apply rd_seq) | (with_reducible apply Rd.plus) | (with_reducible apply Rd.alloc) | (with_reducible apply Rd.drew) | (with_reducible apply Rd.drewN))), (by (try unfold RdP); repeat (first | (with_reducible exact HR2.out) | (with_reducible apply rd_seq) | (with_reducible apply Rd.plus) | (with_reducible apply Rd.alloc) | (with_reducible apply Rd.drew) | (with_reducible apply Rd.drewN))), (by repeat (first | exact Below.refl _ _ | refine below_plus ?_ (by first | omega | (simp <;> omega)) _ | refine Below.alloc ?_ (by first | omega | (simp <;> omega)) _ | refine below_patch ?_ (by omega) _ | refine Below.drew ?_))⟩ ?_
    · apply blk_alloc; apply blk_alloc; exact push_new _ _ _ rfl
    · apply blk_alloc; exact push_new _ _ _ (by simp)
    · exact Own.newAt (by simp) (by omega) rfl (row_of encS _ _ (fun i x h => by simp at h)) (by simp) (by omega)
    clear HR HR2
    rintro X ⟨hbx, hby, hown, hRA, hRB, hB⟩
    have zw := hB.size
    have cx := cell_of hbx
    have cy := cell_of hby
    have zx := (Array.getElem?_eq_some_iff.1 hbx).1
    have zy := (Array.getElem?_eq_some_iff.1 hby).1
    have HB := Lib.hid hB
    have HO := Lib.hid hown
    have HRA := Lib.hid hRA
    have HRB := Lib.hid hRB
    clear hbx hby hown hRA hRB hB
    refine (specKnownValid_any o l m a cap ps base last _ (by (try unfold RdP); repeat (first | (with_reducible exact HRA.out) | (with_reducible apply rd_seq) | (with_reducible apply Rd.plus) | (with_reducible apply Rd.alloc) | (with_reducible apply Rd.drew) | (with_reducible apply Rd.drewN)))).mono ?_
    rintro e w' ⟨rfl, x1, rfl⟩
    rw [HK.out]
    go_wp2_with fail
    refine (specKnownValid_any o2 l2 m2 a2 cap2 qs base2 last2 _ (by (try unfold RdP); repeat (first | (with_reducible exact HRB.out) | (with_reducible apply rd_seq) | (with_reducible apply Rd.plus) | (with_reducible apply Rd.alloc) | (with_reducible apply Rd.drew) | (with_reducible apply Rd.drewN)))).mono ?_
    rintro e w' ⟨rfl, x2, rfl⟩
    rw [HK2.out]
    go_wp2_with fail
    go_ret
    exact ⟨some ⟨w.heap.size + 2, 0, none⟩, 0, rfl, (show Own encS 9 _ _ _ [] (w.heap.size + 2) from (by repeat (first | (with_reducible exact HO.out) | (with_reducible apply own_seq) | (with_reducible apply own_draw) | (with_reducible apply Own.plus) | (with_reducible apply Own.alloc) | (with_reducible apply Own.drew) | (with_reducible apply Own.drewN)))).lower (by omega), below_more (by repeat (first | (with_reducible exact HB.out) | refine below_plus ?_ (by first | omega | (simp <;> omega)) _ | refine Below.alloc ?_ (by first | omega | (simp <;> omega)) _ | refine below_patch ?_ (by omega) _ | refine Below.drew ?_))⟩

set_option maxRecDepth 100000 in
theorem lawSharedWords_any (o l m : Int) (a : Option Addr) (cap : Nat) (ps : List Pr) (base last : Int) (o2 l2 m2 : Int) (a2 : Option Addr) (cap2 : Nat) (qs : List Pr) (base2 last2 : Int) (w : World) (hr : RdP w a cap ps) (hr2 : RdP w a2 cap2 qs) :
    Calls Try.prog 13 #[.agg #[.int .i64 o, .int .i64 l, .int .i64 m, .slice a ps.length cap, .int .i64 base, .int .i64 last], .agg #[.int .i64 o2, .int .i64 l2, .int .i64 m2, .slice a2 qs.length cap2, .int .i64 base2, .int .i64 last2]] w fun e w' => e = .returned (.bool true) ∧ Below w.heap.size w w' := by
  have z1 := hr.1
  have z2 := hr.2.1
  have z3 := hr2.1
  have z4 := hr2.2.1
  by_cases hn : (ps.length : Int) + qs.length ≤ 1048576
  · by_cases h : kvb o l m ps base last = false ∨ kvb o2 l2 m2 qs base2 last2 = false
    · exact lawSharedWords_fit o l m a cap ps base last o2 l2 m2 a2 cap2 qs base2 last2 w [] hr hr2 hn (by simp) (fun W a cap a2 cap2 h1 h2 => specSharedWords_no o l m a cap ps base last o2 l2 m2 a2 cap2 qs base2 last2 W h1 h2 h) (fun W a cap a2 cap2 h1 h2 => implSharedWords_no o l m a cap ps base last o2 l2 m2 a2 cap2 qs base2 last2 W h1 h2 h)
    · have hk : kvb o l m ps base last = true := by
        cases hk : kvb o l m ps base last
        · exact absurd (.inl hk) h
        · rfl
      have hk2 : kvb o2 l2 m2 qs base2 last2 = true := by
        cases hk : kvb o2 l2 m2 qs base2 last2
        · exact absurd (.inr hk) h
        · rfl
      have hl := shr_len (wordsL l2 qs) (wordsL l ps) []
      rw [wordsL_len] at hl
      have hpl := kv_len hk
      exact lawSharedWords_fit o l m a cap ps base last o2 l2 m2 a2 cap2 qs base2 last2 w _ hr hr2 hn (by simp at hl; omega) (fun W a cap a2 cap2 h1 h2 => specSharedWords_yes o l m a cap ps base last o2 l2 m2 a2 cap2 qs base2 last2 W h1 h2 hk hk2 _ rfl) (fun W a cap a2 cap2 h1 h2 => implSharedWords_yes o l m a cap ps base last o2 l2 m2 a2 cap2 qs base2 last2 W h1 h2 hk hk2 _ rfl)
  · by_cases hp : (ps.length : Int) ≤ 1048576
    · have q1 : decide ((1048576 : Int) - (ps.length : Int) < 0) = false := by simp; omega
      go_enter Try.func13, Try.ntmps13
      go_wp2_with fail
      refine (szKnown_yes _ _ _ _ _ ps.length _ _ _ _ hp (by omega)).mono ?_
      rintro e w' ⟨rfl, x1, rfl⟩
      go_wp2_with fail
      refine (szKnown_no _ _ _ _ _ _ _ _ _ _ (by omega) (by omega) (by omega)).mono ?_
      rintro e w' ⟨rfl, x2, rfl⟩
      go_wp2_with fail
      go_ret
      exact ⟨rfl, (by repeat (first | exact Below.refl _ _ | refine below_plus ?_ (by first | omega | (simp <;> omega)) _ | refine Below.alloc ?_ (by first | omega | (simp <;> omega)) _ | refine below_patch ?_ (by omega) _ | refine Below.drew ?_))⟩
    · go_enter Try.func13, Try.ntmps13
      go_wp2_with fail
      refine (szKnown_no _ _ _ _ _ _ _ _ _ _ (by omega) (by omega) (by omega)).mono ?_
      rintro e w' ⟨rfl, x1, rfl⟩
      go_wp2_with fail
      go_ret
      exact ⟨rfl, (by repeat (first | exact Below.refl _ _ | refine below_plus ?_ (by first | omega | (simp <;> omega)) _ | refine Below.alloc ?_ (by first | omega | (simp <;> omega)) _ | refine below_patch ?_ (by omega) _ | refine Below.drew ?_))⟩

end Go.Proofs.Ytlihhlihcjncoaa
