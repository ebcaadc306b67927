/- Draws: l2Bad. -/
import Derived.Test.YtmddcbebaijjkaaGreatDoorGj2
namespace Go.Proofs.YtmddcbebaijjkaaGreatDoor
open Go.RowKit
set_option linter.unusedVariables false
set_option linter.unusedSimpArgs false

/-- append of what lies somewhere onto an empty own slice: one operation -/
theorem oper_append_src {P : Program} {o : Oper} {a : Act} {w : World} {K : Act → World → Prop} {Q : Exit → Act → World → Prop} {α : Type} (E : Enc α) (s x : Operand) (t e : TypeId) (i : TypeInfo) (z : Value) (bytes : Nat)
    (ho : o.op = .call { callee := .builtin .append, args := #[s, x], argTypes := #[t, t] }) (ht : P.underlying t = some (.slice e)) (hi : P.info? e = some i) (hz : i.zero = some z) (hsz : i.size = E.sz) (hby : i.bytes = bytes)
    (hzs : z.cells.size = E.sz) (xs : List α) (A : Option Addr) (cap : Nat) (hr : Rd E w A cap xs) (D : Option Addr) (lo : Nat) (hown : Own E e w D 0 [] lo) (hlo : lo ≤ w.heap.size) (hs : a.eval s = .slice D 0 0) (hx : a.eval x = .slice A xs.length cap)
    (hbd : xs.length * bytes ≤ 140737488355328) (hlen : xs.length ≤ 140737488355328)
    (h : ∀ (A' : Option Addr) (c' : Nat) (y : Ext), Own E e (plus w y) A' c' xs lo → K (a.put o.dst (.slice A' xs.length c')) (plus w y)) :
    o.wp P a w K Q := by
  rcases Nat.eq_zero_or_pos xs.length with h0 | h0
  · obtain rfl : xs = [] := List.eq_nil_of_length_eq_zero h0
    refine oper_append_none s x t e i ho ht hi A D cap hs hx ?_
    have := h D 0 ⟨#[], w.drawn⟩ (hown.plus _)
    rwa [plus_self] at this
  · refine oper_append_new E s x t e i z bytes ho ht hi hz hsz hby hzs xs A cap hr h0 D hs hx hbd hlen ?_
    intro c cur h1 h2 h3 h4
    have e1 : w.drew.alloc (.cells cur e) = plus w ⟨#[.cells cur e], w.drawn + 1⟩ := by rw [alloc_plus, drew_is_plus, plus_plus]; simp [Ext.seq, plus]
    rw [e1]
    refine h _ _ _ ?_
    rw [← e1]
    exact Own.new (w := w.drew) hlo h4 h1 h2 h3

theorem grew_own {B : Nat} {A : Option Addr} {w w7 w8 : World} (h : Grew (some ⟨B, 0, none⟩) w w7) (k : Grew A w7 w8) (ha : ∀ X, A = some X → w.heap.size ≤ X.block) : Grew (some ⟨B, 0, none⟩) w w8 :=
  ⟨k.os.trans h.os, k.tape.trans h.tape, k.output.trans h.output, Nat.le_trans h.size k.size, fun j hj hb => by
    have := h.size
    rw [k.block j (by omega) (fun X hX e => by have := ha X hX; omega)]
    exact h.block j hj hb⟩

/-- a draw of what may be known -/
def RetKA (w : World) (B n : Nat) (pa0 : Option Addr) (e : Ending) (w' : World) : Prop := ∃ (o l m : Int) (pa : Option Addr) (pc : Nat) (ps : List Pr) (base last : Int),
  e = .returned (.agg #[.int .i64 o, .int .i64 l, .int .i64 m, .slice pa ps.length pc, .int .i64 base, .int .i64 last]) ∧ ps.length ≤ 3000 ∧ RdP w' pa pc ps ∧ (∀ X, pa = some X → pa0 = some X ∨ w.heap.size ≤ X.block) ∧ Drn w B n w'

set_option maxRecDepth 100000 in
set_option maxHeartbeats 4000000 in
theorem l2Bad_d (B n : Nat) (o l m : Int) (pa : Option Addr) (pc : Nat) (ps : List Pr) (b : Nat) (last : Int) (w : World) (hd : Dsrc w B n) (hn : n ≤ 700000) (hs : sv o l m = true) (hr : RdP w pa pc ps) (hoff : ∀ X, pa = some X → X.block ≠ B) (hlen : ps.length ≤ 2000) :
    Calls Tryz.prog 85 #[.pointer (some ⟨B, 0, none⟩), .agg #[.int .i64 o, .int .i64 l, .int .i64 m, .slice pa ps.length pc, .int .i64 b, .int .i64 last]] w (RetKA w B (n + 3) pa) := by
  have hB := hd.B_lt
  have HD := Lib.hid hd
  have HRP := Lib.hid (show Rd encP w pa pc ps from hr)
  have HOF := Lib.hid hoff
  obtain ⟨_, l1, l2, l3, l4⟩ := sv_iff.1 hs
  obtain ⟨t1, t2⟩ := two_lit l1 l2
  have l0 : 0 ≤ l := by omega
  have l10 : l ≤ 10 := by omega
  have hcap := hr.1
  have hcap2 := hr.2.1
  obtain ⟨i0, hi, hz0, hz1, hz2⟩ := info_parts infoPair
  clear hd hr hoff
  go_enter Tryz.func85, Tryz.ntmps85
  go_wp2_with fail
  refine (pick_d B n _ _ (by repeat (first | (with_reducible exact HD.out) | (with_reducible apply dsrc_seq) | (with_reducible apply dsrc_draw) | (with_reducible apply Dsrc.plus) | (with_reducible apply Dsrc.alloc) | (with_reducible apply Dsrc.drew))) (by omega)).mono ?_
  rintro e w' ⟨v, rfl, hv, hdn⟩
  obtain ⟨hd1, cur1, x1, rfl⟩ := hdn
  have HD1 := Lib.hid hd1
  clear hd1
  rcases (by omega : v = 0 ∨ v = 1 ∨ v = 2 ∨ v = 3 ∨ v = 4 ∨ 4 < v) with hv0 | hv0 | hv0 | hv0 | hv0 | hv0
  · have q0 : ((v : Int) == 0) = true := by simp; omega
    clear hv0
    go_wp2_with fail
    refine (l1Bad_d B (n + 1) o l m _ (by repeat (first | (with_reducible exact HD1.out) | (with_reducible apply dsrc_seq) | (with_reducible apply dsrc_draw) | (with_reducible apply Dsrc.plus) | (with_reducible apply Dsrc.alloc) | (with_reducible apply Dsrc.drew))) (by omega) (by omega) (by omega)).mono ?_
    rintro e w' ⟨o2, l2', m2, rfl, hdn⟩
    obtain ⟨hd2, cur2, x2, rfl⟩ := hdn
    have HD2 := Lib.hid hd2
    clear hd2
    go_wp2_with fail
    all_goals exact bodyPost_ret (v := .agg #[.int .i64 o2, .int .i64 l2', .int .i64 m2, .slice pa ps.length pc, .int .i64 b, .int .i64 last]) (by simp [results, Tryz.results85, go_sem, ↓IntWalk.iteOmega]) rfl ⟨o2, l2', m2, pa, pc, ps, b, last, rfl, by omega, rd_grew HRP.out (A := some ⟨B, 0, none⟩) (by repeat (first | (with_reducible exact grew_refl _ _) | (with_reducible apply grew_plus) | (with_reducible apply grew_alloc) | (with_reducible apply grew_drew) | (with_reducible apply grew_pat))) (fun X Y hX hY => by cases hX; exact (HOF.out Y hY).symm), (fun X hX => .inl hX), drn_of ((Dsrc.mono HD2.out (by omega)).sl (by repeat (first | (with_reducible exact sl_refl _ _) | (with_reducible apply sl_plus) | (with_reducible apply sl_patch) | (with_reducible apply sl_drew) | (with_reducible refine sl_alloc2 ?_ (by simp <;> omega) _ _))) hB) (by repeat (first | (with_reducible exact grew_refl _ _) | (with_reducible apply grew_plus) | (with_reducible apply grew_alloc) | (with_reducible apply grew_drew) | (with_reducible apply grew_pat))) hB⟩
  · have q0 : ((v : Int) == 0) = false := by simp; omega
    have q1 : ((v : Int) == 1) = true := by simp; omega
    clear hv0
    go_wp2_with fail
    refine (num_d B (n + 1) _ (by repeat (first | (with_reducible exact HD1.out) | (with_reducible apply dsrc_seq) | (with_reducible apply dsrc_draw) | (with_reducible apply Dsrc.plus) | (with_reducible apply Dsrc.alloc) | (with_reducible apply Dsrc.drew))) (by omega) _ _ [-1, (ps.length : Int) + 1, 9223372036854775807] (by exact rd_lit _ _ _ _ _ (by simp <;> omega) rfl (by simp)) (fun X hX => by cases hX; simp <;> omega) (by simp)).mono ?_
    rintro e w' ⟨z, rfl, hz, hdn⟩
    obtain ⟨hd2, cur2, x2, rfl⟩ := hdn
    have HD2 := Lib.hid hd2
    clear hd2
    clear hz
    go_wp2_with fail
    all_goals exact bodyPost_ret (v := .agg #[.int .i64 o, .int .i64 l, .int .i64 m, .slice pa ps.length pc, .int .i64 z, .int .i64 last]) (by simp [results, Tryz.results85, go_sem, ↓IntWalk.iteOmega]) rfl ⟨o, l, m, pa, pc, ps, z, last, rfl, by omega, rd_grew HRP.out (A := some ⟨B, 0, none⟩) (by repeat (first | (with_reducible exact grew_refl _ _) | (with_reducible apply grew_plus) | (with_reducible apply grew_alloc) | (with_reducible apply grew_drew) | (with_reducible apply grew_pat))) (fun X Y hX hY => by cases hX; exact (HOF.out Y hY).symm), (fun X hX => .inl hX), drn_of ((Dsrc.mono HD2.out (by omega)).sl (by repeat (first | (with_reducible exact sl_refl _ _) | (with_reducible apply sl_plus) | (with_reducible apply sl_patch) | (with_reducible apply sl_drew) | (with_reducible refine sl_alloc2 ?_ (by simp <;> omega) _ _))) hB) (by repeat (first | (with_reducible exact grew_refl _ _) | (with_reducible apply grew_plus) | (with_reducible apply grew_alloc) | (with_reducible apply grew_drew) | (with_reducible apply grew_pat))) hB⟩
  · have q0 : ((v : Int) == 0) = false := by simp; omega
    have q1 : ((v : Int) == 1) = false := by simp; omega
    have q2 : ((v : Int) == 2) = true := by simp; omega
    clear hv0
    go_wp2_with fail
    refine wp_region_pt 11 (fun w' => w'.heap[w.heap.size]? = some (.cells #[.int .i64 o, .int .i64 l, .int .i64 m, .slice pa ps.length pc, .int .i64 b, .int .i64 last] 26 (0, 0))) (Plan.quiet 0 (Plan.quiet 1 (Plan.quiet 2 (Plan.quiet 4 (Plan.quiet 5 (Plan.quiet 7 (Plan.one 3 (Plan.one 6 (Plan.one 8 (Plan.one 9 (Plan.one 10 (Plan.one 11 (Plan.one 12 Plan.done))))))))))))) (by kernel_rfl) (by kernel_rfl) ((by repeat (first | (with_reducible exact push_new _ _ _ rfl) | (with_reducible exact push_new _ _ _ (by simp)) | (with_reducible apply blk_plus) | (with_reducible apply blk_alloc) | (with_reducible apply blk_drew) | (with_reducible refine blk_patch ?_ (by omega))))) ?_
    refine wpPt_val rfl rfl ?_
    apply Exists.intro
    refine ⟨fun w' hS => ?_, ?_⟩
    focus (have rS := cell_of hS; simp [go_sem, ↓IntWalk.iteOmega, rS] <;> first | done | exact rfl | (rw [IntWalk.i64_in _ (by omega)]; exact rfl) | trace_state)
    refine wpPt_val rfl rfl ?_
    apply Exists.intro
    refine ⟨fun w' hS => ?_, ?_⟩
    focus (have rS := cell_of hS; simp [go_sem, ↓IntWalk.iteOmega, rS] <;> first | done | exact rfl | (rw [IntWalk.i64_in _ (by omega)]; exact rfl) | trace_state)
    refine wpPt_val rfl rfl ?_
    apply Exists.intro
    refine ⟨fun w' hS => ?_, ?_⟩
    focus (have rS := cell_of hS; simp [go_sem, ↓IntWalk.iteOmega, rS] <;> first | done | exact rfl | (rw [IntWalk.i64_in _ (by omega)]; exact rfl) | trace_state)
    refine wpPt_val rfl rfl ?_
    apply Exists.intro
    refine ⟨fun w' hS => ?_, ?_⟩
    focus (have rS := cell_of hS; simp [go_sem, ↓IntWalk.iteOmega, rS] <;> first | done | exact rfl | (rw [IntWalk.i64_in _ (by omega)]; exact rfl) | trace_state)
    refine wpPt_val rfl rfl ?_
    apply Exists.intro
    refine ⟨fun w' hS => ?_, ?_⟩
    focus (have rS := cell_of hS; simp [go_sem, ↓IntWalk.iteOmega, rS] <;> first | done | exact rfl | (rw [IntWalk.i64_in _ (by omega)]; exact rfl) | trace_state)
    refine wpPt_val rfl rfl ?_
    apply Exists.intro
    refine ⟨fun w' hS => ?_, ?_⟩
    focus (have rS := cell_of hS; simp [go_sem, ↓IntWalk.iteOmega, rS] <;> first | done | exact rfl | (rw [IntWalk.i64_in _ (by omega)]; exact rfl) | trace_state)
    refine wpPt_one rfl rfl (fun K hK => ?_)
    go_simp
    refine (l1Clear_any _ _ _ l0 l10 _).mono ?_
    rintro e w' ⟨rfl, x3, rfl⟩
    refine hK _ _ (fun hkn => (by repeat (first | (with_reducible exact push_new _ _ _ rfl) | (with_reducible exact push_new _ _ _ (by simp)) | (with_reducible apply blk_plus) | (with_reducible apply blk_alloc) | (with_reducible apply blk_drew) | (with_reducible refine blk_patch ?_ (by omega))))) ?_
    clear hK K
    refine wpPt_one rfl rfl (fun K hK => ?_)
    go_simp
    refine (l1End_any _ _ _ l0 l10 _).mono ?_
    rintro e w' ⟨rfl, x6, rfl⟩
    refine hK _ _ (fun hkn => (by repeat (first | (with_reducible exact push_new _ _ _ rfl) | (with_reducible exact push_new _ _ _ (by simp)) | (with_reducible apply blk_plus) | (with_reducible apply blk_alloc) | (with_reducible apply blk_drew) | (with_reducible refine blk_patch ?_ (by omega))))) ?_
    clear hK K
    refine wpPt_one rfl rfl (fun K hK => ?_)
    go_simp
    refine (l2Next_any o l m pa ps.length pc b last _ hs (by omega)).mono ?_
    rintro e w' ⟨rfl, x8, rfl⟩
    refine hK _ _ (fun hkn => (by repeat (first | (with_reducible exact push_new _ _ _ rfl) | (with_reducible exact push_new _ _ _ (by simp)) | (with_reducible apply blk_plus) | (with_reducible apply blk_alloc) | (with_reducible apply blk_drew) | (with_reducible refine blk_patch ?_ (by omega))))) ?_
    clear hK K
    refine wpPt_one rfl rfl (fun K hK => ?_)
    go_simp
    refine hK _ _ (fun hkn => (by repeat (first | (with_reducible exact push_new _ _ _ rfl) | (with_reducible exact push_new _ _ _ (by simp)) | (with_reducible apply blk_plus) | (with_reducible apply blk_alloc) | (with_reducible apply blk_drew) | (with_reducible refine blk_patch ?_ (by omega))))) ?_
    clear hK K
    refine wpPt_one rfl rfl (fun K hK => ?_)
    go_simp
    refine (num_d B (n + 1) _ (by repeat (first | (with_reducible exact HD1.out) | (with_reducible apply dsrc_seq) | (with_reducible apply dsrc_draw) | (with_reducible apply Dsrc.plus) | (with_reducible apply Dsrc.alloc) | (with_reducible apply Dsrc.drew))) (by omega) _ _ [-1, -2, two l, two l + 1, nw l ps.length, 9223372036854775807] (by exact rd_lit _ _ _ _ _ (by simp <;> omega) rfl (by simp)) (fun X hX => by cases hX; simp <;> omega) (by simp)).mono ?_
    rintro e w2 ⟨z, rfl, hz, hdn⟩
    have HGX := Lib.hid (grew_trans (show Grew (some ⟨B, 0, none⟩) w _ from (by repeat (first | (with_reducible exact grew_refl _ _) | (with_reducible apply grew_plus) | (with_reducible apply grew_alloc) | (with_reducible apply grew_drew) | (with_reducible apply grew_pat)))) hdn.grew)
    have HDX := Lib.hid hdn.1
    have hgd := hdn.grew
    have HC2 := Lib.hid (show w2.heap[w.heap.size + 1]? = some (.cells #[.int .i64 0, .int .i64 0, .int .i64 0, .slice none 0 0, .int .i64 0, .int .i64 0] 26 (0, 0)) from blk_grew hgd (by repeat (first | (with_reducible exact push_new _ _ _ rfl) | (with_reducible exact push_new _ _ _ (by simp)) | (with_reducible apply blk_plus) | (with_reducible apply blk_alloc) | (with_reducible apply blk_drew) | (with_reducible refine blk_patch ?_ (by omega)))) (fun X hX e => by (cases hX; simp at e; omega)))
    have HB2 := Lib.hid (show w2.heap[w.heap.size]? = some (.cells #[.int .i64 o, .int .i64 l, .int .i64 m, .slice pa ps.length pc, .int .i64 b, .int .i64 last] 26 (0, 0)) from blk_grew hgd (by repeat (first | (with_reducible exact push_new _ _ _ rfl) | (with_reducible exact push_new _ _ _ (by simp)) | (with_reducible apply blk_plus) | (with_reducible apply blk_alloc) | (with_reducible apply blk_drew) | (with_reducible refine blk_patch ?_ (by omega)))) (fun X hX e => by (cases hX; simp at e; omega)))
    have r2 := cell_of HB2.out
    have f2 := free_of HB2.out
    have s2 := fun i v => setCell_patch HB2.out i v
    have rc2 := cell_of HC2.out
    have fc2 := free_of HC2.out
    have sc2 := fun i v => setCell_patch HC2.out i v
    have hl2 : w.heap.size < w2.heap.size := (Array.getElem?_eq_some_iff.1 HB2.out).1
    have hm2 : w.heap.size + 1 < w2.heap.size := (Array.getElem?_eq_some_iff.1 HC2.out).1
    clear hz hdn hgd
    refine hK _ _ (fun hkn => HB2.out) ?_
    clear hK K
    refine wpPt_one rfl rfl (fun K hK => ?_)
    go_simp
    refine hK _ _ (fun hkn => absurd hkn (by decide)) ?_
    clear hK K
    refine wpPt_one rfl rfl (fun K hK => ?_)
    go_simp
    refine hK _ _ (fun hkn => absurd hkn (by decide)) ?_
    clear hK K
    refine NoPanic.normal ?_
    go_wp2_with fail
    exact bodyPost_ret (v := .agg #[.int .i64 o, .int .i64 l, .int .i64 m, .slice pa (ps).length pc, .int .i64 b, .int .i64 z]) (by simp [results, Tryz.results85, go_sem, ↓IntWalk.iteOmega]) rfl ⟨o, l, m, pa, pc, ps, b, z, rfl, (by first | omega | (simp; omega)), (rd_grew HRP.out (A := some ⟨B, 0, none⟩) (grew_hi (grew_hi HGX.out (by omega) _) (by omega) _) (fun X Y hX hY => by cases hX; exact (HOF.out Y hY).symm)), (fun X hX => .inl hX), drn_of (Dsrc.mono (Dsrc.sn (D1 := w.heap.size) (D2 := w.heap.size + 1) HDX.out (by repeat (first | (with_reducible exact sn_refl _ _ _) | (with_reducible apply sn_plus) | (with_reducible apply sn_patch) | (with_reducible apply sn_drew) | (with_reducible refine sn_right ?_ (by first | exact .inl rfl | exact .inr rfl | omega) _) | (with_reducible refine sn_left ?_ (by first | exact .inl rfl | exact .inr rfl | omega) _) | (with_reducible refine sn_alloc2 ?_ (by simp <;> omega) _ _) | (with_reducible apply sn_alloc))) (by omega)) (by omega)) (by repeat (first | (with_reducible exact HGX.out) | (with_reducible refine grew_hi ?_ (by omega) _))) hB⟩
  · have q0 : ((v : Int) == 0) = false := by simp; omega
    have q1 : ((v : Int) == 1) = false := by simp; omega
    have q2 : ((v : Int) == 2) = false := by simp; omega
    have q3 : ((v : Int) == 3) = true := by simp; omega
    clear hv0
    go_wp2_with fail
    refine wp_region_pt 9 (fun w' => w'.heap[w.heap.size]? = some (.cells #[.int .i64 o, .int .i64 l, .int .i64 m, .slice pa ps.length pc, .int .i64 b, .int .i64 last] 26 (0, 0))) (Plan.quiet 1 (Plan.quiet 2 (Plan.quiet 4 (Plan.one 0 (Plan.one 3 (Plan.one 5 (Plan.quiet 6 (Plan.one 7 (Plan.one 8 (Plan.one 9 (Plan.one 10 Plan.done))))))))))) (by kernel_rfl) (by kernel_rfl) ((by repeat (first | (with_reducible exact push_new _ _ _ rfl) | (with_reducible exact push_new _ _ _ (by simp)) | (with_reducible apply blk_plus) | (with_reducible apply blk_alloc) | (with_reducible apply blk_drew) | (with_reducible refine blk_patch ?_ (by omega))))) ?_
    refine wpPt_val rfl rfl ?_
    apply Exists.intro
    refine ⟨fun w' hS => ?_, ?_⟩
    focus (have rS := cell_of hS; simp [go_sem, ↓IntWalk.iteOmega, rS] <;> first | done | exact rfl | (rw [IntWalk.i64_in _ (by omega)]; exact rfl) | trace_state)
    refine wpPt_val rfl rfl ?_
    apply Exists.intro
    refine ⟨fun w' hS => ?_, ?_⟩
    focus (have rS := cell_of hS; simp [go_sem, ↓IntWalk.iteOmega, rS] <;> first | done | exact rfl | (rw [IntWalk.i64_in _ (by omega)]; exact rfl) | trace_state)
    refine wpPt_val rfl rfl ?_
    apply Exists.intro
    refine ⟨fun w' hS => ?_, ?_⟩
    focus (have rS := cell_of hS; simp [go_sem, ↓IntWalk.iteOmega, rS] <;> first | done | exact rfl | (rw [IntWalk.i64_in _ (by omega)]; exact rfl) | trace_state)
    refine wpPt_one rfl rfl (fun K hK => ?_)
    go_simp
    refine hK _ _ (fun hkn => (by repeat (first | (with_reducible exact push_new _ _ _ rfl) | (with_reducible exact push_new _ _ _ (by simp)) | (with_reducible apply blk_plus) | (with_reducible apply blk_alloc) | (with_reducible apply blk_drew) | (with_reducible refine blk_patch ?_ (by omega))))) ?_
    clear hK K
    refine wpPt_one rfl rfl (fun K hK => ?_)
    refine oper_append_src encP _ _ _ _ i0 _ 16 rfl Tryz.underlying24 hi hz0 hz1 hz2 rfl ps pa pc (rd_grew HRP.out (A := some ⟨B, 0, none⟩) (by repeat (first | (with_reducible exact grew_refl _ _) | (with_reducible apply grew_plus) | (with_reducible apply grew_alloc) | (with_reducible apply grew_drew) | (with_reducible apply grew_pat))) (fun X Y hX hY => by cases hX; exact (HOF.out Y hY).symm)) (some ⟨w.heap.size + 1 + 1 + x1.n, 0, none⟩) (w.heap.size + 2) (Own.newAt (by simp) (by omega) rfl (row_of encP _ _ (fun i x h => by simp at h)) (by simp) (by omega)) (by simp <;> omega) rfl rfl (by omega) (by omega) ?_
    intro A3 c3 y3 ho3
    have HO3 := Lib.hid ho3
    have hlo3 := own_lo ho3
    have HOB := Lib.hid (show Off A3 B from fun X hX e => by have := hlo3 X hX; omega)
    clear ho3
    refine hK _ _ (fun hkn => (by repeat (first | (with_reducible exact push_new _ _ _ rfl) | (with_reducible exact push_new _ _ _ (by simp)) | (with_reducible apply blk_plus) | (with_reducible apply blk_alloc) | (with_reducible apply blk_drew) | (with_reducible refine blk_patch ?_ (by omega))))) ?_
    clear hK K
    refine wpPt_one rfl rfl (fun K hK => ?_)
    go_simp
    refine (l2Next_any o l m pa ps.length pc b last _ hs (by omega)).mono ?_
    rintro e w' ⟨rfl, x5, rfl⟩
    refine hK _ _ (fun hkn => (by repeat (first | (with_reducible exact push_new _ _ _ rfl) | (with_reducible exact push_new _ _ _ (by simp)) | (with_reducible apply blk_plus) | (with_reducible apply blk_alloc) | (with_reducible apply blk_drew) | (with_reducible refine blk_patch ?_ (by omega))))) ?_
    clear hK K
    refine wpPt_val rfl rfl ?_
    apply Exists.intro
    refine ⟨fun w' hS => ?_, ?_⟩
    focus (have rS := cell_of hS; simp [go_sem, ↓IntWalk.iteOmega, rS] <;> first | done | exact rfl | (rw [IntWalk.i64_in _ (by omega)]; exact rfl) | trace_state)
    refine wpPt_one rfl rfl (fun K hK => ?_)
    go_simp
    refine hK _ _ (fun hkn => (by repeat (first | (with_reducible exact push_new _ _ _ rfl) | (with_reducible exact push_new _ _ _ (by simp)) | (with_reducible apply blk_plus) | (with_reducible apply blk_alloc) | (with_reducible apply blk_drew) | (with_reducible refine blk_patch ?_ (by omega))))) ?_
    clear hK K
    refine wpPt_one rfl rfl (fun K hK => ?_)
    refine oper_append_at encP _ _ _ _ i0 _ 16 rfl Tryz.underlying24 hi hz0 hz1 hz2 rfl (by decide) ps A3 c3 (w.heap.size + 2) (by repeat (first | (with_reducible exact HO3.out) | (with_reducible apply own_seq) | (with_reducible apply own_draw) | (with_reducible apply Own.plus) | (with_reducible apply Own.alloc) | (with_reducible apply Own.drew) | (with_reducible apply Own.drewN))) rfl [⟨nw l ps.length, 0⟩] _ 0 1 (new_cells encP ⟨nw l ps.length, 0⟩ _ _ (by simp <;> omega)) rfl (by first | omega | rfl | (simp <;> omega) | (simp only [List.length_cons, List.length_nil, plus_size, World.size_alloc]; omega)) (by first | omega | rfl | (simp <;> omega) | (simp only [List.length_cons, List.length_nil, plus_size, World.size_alloc]; omega)) (by simp <;> omega) ?_
    intro A8 c8 w8 ho8 hg8 hx8
    have HGX := Lib.hid (grew_own (B := B) (w := w) (by repeat (first | (with_reducible exact grew_refl _ _) | (with_reducible apply grew_plus) | (with_reducible apply grew_alloc) | (with_reducible apply grew_drew) | (with_reducible apply grew_pat))) hg8 (fun X hX => by have := hlo3 X hX; omega))
    have HDX := Lib.hid (Dsrc.grew (B := B) (n := n + 1) (by repeat (first | (with_reducible exact HD1.out) | (with_reducible apply dsrc_seq) | (with_reducible apply dsrc_draw) | (with_reducible apply Dsrc.plus) | (with_reducible apply Dsrc.alloc) | (with_reducible apply Dsrc.drew))) hg8 (fun X hX => by have := hlo3 X hX; omega))
    have HO8 := Lib.hid ho8
    have hlo8 := own_lo ho8
    have HC8 := Lib.hid (show w8.heap[w.heap.size + 1]? = some (.cells #[.int .i64 0, .int .i64 0, .int .i64 0, .slice none 0 0, .int .i64 0, .int .i64 0] 26 (0, 0)) from blk_grew hg8 (by repeat (first | (with_reducible exact push_new _ _ _ rfl) | (with_reducible exact push_new _ _ _ (by simp)) | (with_reducible apply blk_plus) | (with_reducible apply blk_alloc) | (with_reducible apply blk_drew) | (with_reducible refine blk_patch ?_ (by omega)))) (fun X hX e => by (have := hlo3 X hX; omega)))
    have HB8 := Lib.hid (show w8.heap[w.heap.size]? = some (.cells #[.int .i64 o, .int .i64 l, .int .i64 m, .slice pa ps.length pc, .int .i64 b, .int .i64 last] 26 (0, 0)) from blk_grew hg8 (by repeat (first | (with_reducible exact push_new _ _ _ rfl) | (with_reducible exact push_new _ _ _ (by simp)) | (with_reducible apply blk_plus) | (with_reducible apply blk_alloc) | (with_reducible apply blk_drew) | (with_reducible refine blk_patch ?_ (by omega)))) (fun X hX e => by (have := hlo3 X hX; omega)))
    have r8 := cell_of HB8.out
    have f8 := free_of HB8.out
    have s8 := fun i v => setCell_patch HB8.out i v
    have rc8 := cell_of HC8.out
    have fc8 := free_of HC8.out
    have sc8 := fun i v => setCell_patch HC8.out i v
    have hl8 : w.heap.size < w8.heap.size := (Array.getElem?_eq_some_iff.1 HB8.out).1
    have hm8 : w.heap.size + 1 < w8.heap.size := (Array.getElem?_eq_some_iff.1 HC8.out).1
    clear ho8 hg8 hx8
    refine hK _ _ (fun hkn => HB8.out) ?_
    clear hK K
    refine wpPt_one rfl rfl (fun K hK => ?_)
    go_simp
    refine hK _ _ (fun hkn => absurd hkn (by decide)) ?_
    clear hK K
    refine wpPt_one rfl rfl (fun K hK => ?_)
    go_simp
    refine hK _ _ (fun hkn => absurd hkn (by decide)) ?_
    clear hK K
    refine NoPanic.normal ?_
    go_wp2_with fail
    exact bodyPost_ret (v := .agg #[.int .i64 o, .int .i64 l, .int .i64 m, .slice A8 (ps ++ [(⟨nw l ps.length, 0⟩ : Pr)]).length c8, .int .i64 b, .int .i64 last]) (by simp [results, Tryz.results85, go_sem, ↓IntWalk.iteOmega]) rfl ⟨o, l, m, A8, c8, ps ++ [(⟨nw l ps.length, 0⟩ : Pr)], b, last, rfl, (by first | omega | (simp; omega)), (rd_sn (D1 := w.heap.size) (D2 := w.heap.size + 1) HO8.out.rd (by repeat (first | (with_reducible exact sn_refl _ _ _) | (with_reducible apply sn_plus) | (with_reducible apply sn_patch) | (with_reducible apply sn_drew) | (with_reducible refine sn_right ?_ (by first | exact .inl rfl | exact .inr rfl | omega) _) | (with_reducible refine sn_left ?_ (by first | exact .inl rfl | exact .inr rfl | omega) _) | (with_reducible refine sn_alloc2 ?_ (by simp <;> omega) _ _) | (with_reducible apply sn_alloc))) (fun X hX => by have := hlo8 X hX; omega)), (fun X hX => .inr (by have := hlo8 X hX; omega)), drn_of (Dsrc.mono (Dsrc.sn (D1 := w.heap.size) (D2 := w.heap.size + 1) HDX.out (by repeat (first | (with_reducible exact sn_refl _ _ _) | (with_reducible apply sn_plus) | (with_reducible apply sn_patch) | (with_reducible apply sn_drew) | (with_reducible refine sn_right ?_ (by first | exact .inl rfl | exact .inr rfl | omega) _) | (with_reducible refine sn_left ?_ (by first | exact .inl rfl | exact .inr rfl | omega) _) | (with_reducible refine sn_alloc2 ?_ (by simp <;> omega) _ _) | (with_reducible apply sn_alloc))) (by omega)) (by omega)) (by repeat (first | (with_reducible exact HGX.out) | (with_reducible refine grew_hi ?_ (by omega) _))) hB⟩
  · have q0 : ((v : Int) == 0) = false := by simp; omega
    have q1 : ((v : Int) == 1) = false := by simp; omega
    have q2 : ((v : Int) == 2) = false := by simp; omega
    have q3 : ((v : Int) == 3) = false := by simp; omega
    have q4 : ((v : Int) == 4) = true := by simp; omega
    clear hv0
    go_wp2_with fail
    refine wp_region_pt 13 (fun w' => w'.heap[w.heap.size]? = some (.cells #[.int .i64 o, .int .i64 l, .int .i64 m, .slice pa ps.length pc, .int .i64 b, .int .i64 last] 26 (0, 0))) (Plan.quiet 1 (Plan.quiet 2 (Plan.quiet 4 (Plan.quiet 5 (Plan.quiet 6 (Plan.one 0 (Plan.one 3 (Plan.one 7 (Plan.one 8 (Plan.one 9 (Plan.quiet 10 (Plan.one 11 (Plan.one 12 (Plan.one 13 (Plan.one 14 Plan.done))))))))))))))) (by kernel_rfl) (by kernel_rfl) ((by repeat (first | (with_reducible exact push_new _ _ _ rfl) | (with_reducible exact push_new _ _ _ (by simp)) | (with_reducible apply blk_plus) | (with_reducible apply blk_alloc) | (with_reducible apply blk_drew) | (with_reducible refine blk_patch ?_ (by omega))))) ?_
    refine wpPt_val rfl rfl ?_
    apply Exists.intro
    refine ⟨fun w' hS => ?_, ?_⟩
    focus (have rS := cell_of hS; simp [go_sem, ↓IntWalk.iteOmega, rS] <;> first | done | exact rfl | (rw [IntWalk.i64_in _ (by omega)]; exact rfl) | trace_state)
    refine wpPt_val rfl rfl ?_
    apply Exists.intro
    refine ⟨fun w' hS => ?_, ?_⟩
    focus (have rS := cell_of hS; simp [go_sem, ↓IntWalk.iteOmega, rS] <;> first | done | exact rfl | (rw [IntWalk.i64_in _ (by omega)]; exact rfl) | trace_state)
    refine wpPt_val rfl rfl ?_
    apply Exists.intro
    refine ⟨fun w' hS => ?_, ?_⟩
    focus (have rS := cell_of hS; simp [go_sem, ↓IntWalk.iteOmega, rS] <;> first | done | exact rfl | (rw [IntWalk.i64_in _ (by omega)]; exact rfl) | trace_state)
    refine wpPt_val rfl rfl ?_
    apply Exists.intro
    refine ⟨fun w' hS => ?_, ?_⟩
    focus (have rS := cell_of hS; simp [go_sem, ↓IntWalk.iteOmega, rS] <;> first | done | exact rfl | (rw [IntWalk.i64_in _ (by omega)]; exact rfl) | trace_state)
    refine wpPt_val rfl rfl ?_
    apply Exists.intro
    refine ⟨fun w' hS => ?_, ?_⟩
    focus (have rS := cell_of hS; simp [go_sem, ↓IntWalk.iteOmega, rS] <;> first | done | exact rfl | (rw [IntWalk.i64_in _ (by omega)]; exact rfl) | trace_state)
    refine wpPt_one rfl rfl (fun K hK => ?_)
    go_simp
    refine hK _ _ (fun hkn => (by repeat (first | (with_reducible exact push_new _ _ _ rfl) | (with_reducible exact push_new _ _ _ (by simp)) | (with_reducible apply blk_plus) | (with_reducible apply blk_alloc) | (with_reducible apply blk_drew) | (with_reducible refine blk_patch ?_ (by omega))))) ?_
    clear hK K
    refine wpPt_one rfl rfl (fun K hK => ?_)
    refine oper_append_src encP _ _ _ _ i0 _ 16 rfl Tryz.underlying24 hi hz0 hz1 hz2 rfl ps pa pc (rd_grew HRP.out (A := some ⟨B, 0, none⟩) (by repeat (first | (with_reducible exact grew_refl _ _) | (with_reducible apply grew_plus) | (with_reducible apply grew_alloc) | (with_reducible apply grew_drew) | (with_reducible apply grew_pat))) (fun X Y hX hY => by cases hX; exact (HOF.out Y hY).symm)) (some ⟨w.heap.size + 1 + 1 + x1.n, 0, none⟩) (w.heap.size + 2) (Own.newAt (by simp) (by omega) rfl (row_of encP _ _ (fun i x h => by simp at h)) (by simp) (by omega)) (by simp <;> omega) rfl rfl (by omega) (by omega) ?_
    intro A3 c3 y3 ho3
    have HO3 := Lib.hid ho3
    have hlo3 := own_lo ho3
    have HOB := Lib.hid (show Off A3 B from fun X hX e => by have := hlo3 X hX; omega)
    clear ho3
    refine hK _ _ (fun hkn => (by repeat (first | (with_reducible exact push_new _ _ _ rfl) | (with_reducible exact push_new _ _ _ (by simp)) | (with_reducible apply blk_plus) | (with_reducible apply blk_alloc) | (with_reducible apply blk_drew) | (with_reducible refine blk_patch ?_ (by omega))))) ?_
    clear hK K
    refine wpPt_one rfl rfl (fun K hK => ?_)
    go_simp
    refine (l1Clear_any _ _ _ l0 l10 _).mono ?_
    rintro e w' ⟨rfl, x7, rfl⟩
    refine hK _ _ (fun hkn => (by repeat (first | (with_reducible exact push_new _ _ _ rfl) | (with_reducible exact push_new _ _ _ (by simp)) | (with_reducible apply blk_plus) | (with_reducible apply blk_alloc) | (with_reducible apply blk_drew) | (with_reducible refine blk_patch ?_ (by omega))))) ?_
    clear hK K
    refine wpPt_one rfl rfl (fun K hK => ?_)
    go_simp
    refine hK _ _ (fun hkn => (by repeat (first | (with_reducible exact push_new _ _ _ rfl) | (with_reducible exact push_new _ _ _ (by simp)) | (with_reducible apply blk_plus) | (with_reducible apply blk_alloc) | (with_reducible apply blk_drew) | (with_reducible refine blk_patch ?_ (by omega))))) ?_
    clear hK K
    refine wpPt_one rfl rfl (fun K hK => ?_)
    go_simp
    refine (num_d B (n + 1) _ (by repeat (first | (with_reducible exact HD1.out) | (with_reducible apply dsrc_seq) | (with_reducible apply dsrc_draw) | (with_reducible apply Dsrc.plus) | (with_reducible apply Dsrc.alloc) | (with_reducible apply Dsrc.drew))) (by omega) _ _ [-1, two l] (by exact rd_lit _ _ _ _ _ (by simp <;> omega) rfl (by simp)) (fun X hX => by cases hX; simp <;> omega) (by simp)).mono ?_
    rintro e w' ⟨z, rfl, hz, hdn⟩
    obtain ⟨hd9, cur9, x9, rfl⟩ := hdn
    have HD9 := Lib.hid hd9
    clear hd9 hz
    refine hK _ _ (fun hkn => (by repeat (first | (with_reducible exact push_new _ _ _ rfl) | (with_reducible exact push_new _ _ _ (by simp)) | (with_reducible apply blk_plus) | (with_reducible apply blk_alloc) | (with_reducible apply blk_drew) | (with_reducible refine blk_patch ?_ (by omega))))) ?_
    clear hK K
    refine wpPt_val rfl rfl ?_
    apply Exists.intro
    refine ⟨fun w' hS => ?_, ?_⟩
    focus (have rS := cell_of hS; simp [go_sem, ↓IntWalk.iteOmega, rS] <;> first | done | exact rfl | (rw [IntWalk.i64_in _ (by omega)]; exact rfl) | trace_state)
    refine wpPt_one rfl rfl (fun K hK => ?_)
    go_simp
    refine hK _ _ (fun hkn => (by repeat (first | (with_reducible exact push_new _ _ _ rfl) | (with_reducible exact push_new _ _ _ (by simp)) | (with_reducible apply blk_plus) | (with_reducible apply blk_alloc) | (with_reducible apply blk_drew) | (with_reducible refine blk_patch ?_ (by omega))))) ?_
    clear hK K
    refine wpPt_one rfl rfl (fun K hK => ?_)
    refine oper_append_at encP _ _ _ _ i0 _ 16 rfl Tryz.underlying24 hi hz0 hz1 hz2 rfl (by decide) ps A3 c3 (w.heap.size + 2) (by repeat (first | (with_reducible exact HO3.out) | (with_reducible apply own_seq) | (with_reducible apply own_draw) | (with_reducible apply Own.plus) | (with_reducible apply Own.alloc) | (with_reducible apply Own.drew) | (with_reducible refine own_patch ?_ HOB.out))) rfl [⟨0, z⟩] _ 0 1 (new_cells encP ⟨0, z⟩ _ _ (by simp <;> omega)) rfl (by first | omega | rfl | (simp <;> omega) | (simp only [List.length_cons, List.length_nil, plus_size, World.size_alloc]; omega)) (by first | omega | rfl | (simp <;> omega) | (simp only [List.length_cons, List.length_nil, plus_size, World.size_alloc]; omega)) (by simp <;> omega) ?_
    intro A8 c8 w8 ho8 hg8 hx8
    have HGX := Lib.hid (grew_own (B := B) (w := w) (by repeat (first | (with_reducible exact grew_refl _ _) | (with_reducible apply grew_plus) | (with_reducible apply grew_alloc) | (with_reducible apply grew_drew) | (with_reducible apply grew_pat))) hg8 (fun X hX => by have := hlo3 X hX; omega))
    have HDX := Lib.hid (Dsrc.grew (B := B) (n := n + 2) (by repeat (first | (with_reducible exact HD9.out) | (with_reducible apply dsrc_seq) | (with_reducible apply dsrc_draw) | (with_reducible apply Dsrc.plus) | (with_reducible apply Dsrc.alloc) | (with_reducible apply Dsrc.drew))) hg8 (fun X hX => by have := hlo3 X hX; omega))
    have HO8 := Lib.hid ho8
    have hlo8 := own_lo ho8
    have HC8 := Lib.hid (show w8.heap[w.heap.size + 1]? = some (.cells #[.int .i64 0, .int .i64 0, .int .i64 0, .slice none 0 0, .int .i64 0, .int .i64 0] 26 (0, 0)) from blk_grew hg8 (by repeat (first | (with_reducible exact push_new _ _ _ rfl) | (with_reducible exact push_new _ _ _ (by simp)) | (with_reducible apply blk_plus) | (with_reducible apply blk_alloc) | (with_reducible apply blk_drew) | (with_reducible refine blk_patch ?_ (by omega)))) (fun X hX e => by (have := hlo3 X hX; omega)))
    have HB8 := Lib.hid (show w8.heap[w.heap.size]? = some (.cells #[.int .i64 o, .int .i64 l, .int .i64 m, .slice pa ps.length pc, .int .i64 b, .int .i64 last] 26 (0, 0)) from blk_grew hg8 (by repeat (first | (with_reducible exact push_new _ _ _ rfl) | (with_reducible exact push_new _ _ _ (by simp)) | (with_reducible apply blk_plus) | (with_reducible apply blk_alloc) | (with_reducible apply blk_drew) | (with_reducible refine blk_patch ?_ (by omega)))) (fun X hX e => by (have := hlo3 X hX; omega)))
    have r8 := cell_of HB8.out
    have f8 := free_of HB8.out
    have s8 := fun i v => setCell_patch HB8.out i v
    have rc8 := cell_of HC8.out
    have fc8 := free_of HC8.out
    have sc8 := fun i v => setCell_patch HC8.out i v
    have hl8 : w.heap.size < w8.heap.size := (Array.getElem?_eq_some_iff.1 HB8.out).1
    have hm8 : w.heap.size + 1 < w8.heap.size := (Array.getElem?_eq_some_iff.1 HC8.out).1
    clear ho8 hg8 hx8
    refine hK _ _ (fun hkn => HB8.out) ?_
    clear hK K
    refine wpPt_one rfl rfl (fun K hK => ?_)
    go_simp
    refine hK _ _ (fun hkn => absurd hkn (by decide)) ?_
    clear hK K
    refine wpPt_one rfl rfl (fun K hK => ?_)
    go_simp
    refine hK _ _ (fun hkn => absurd hkn (by decide)) ?_
    clear hK K
    refine NoPanic.normal ?_
    go_wp2_with fail
    exact bodyPost_ret (v := .agg #[.int .i64 o, .int .i64 l, .int .i64 m, .slice A8 (ps ++ [(⟨0, z⟩ : Pr)]).length c8, .int .i64 b, .int .i64 last]) (by simp [results, Tryz.results85, go_sem, ↓IntWalk.iteOmega]) rfl ⟨o, l, m, A8, c8, ps ++ [(⟨0, z⟩ : Pr)], b, last, rfl, (by first | omega | (simp; omega)), (rd_sn (D1 := w.heap.size) (D2 := w.heap.size + 1) HO8.out.rd (by repeat (first | (with_reducible exact sn_refl _ _ _) | (with_reducible apply sn_plus) | (with_reducible apply sn_patch) | (with_reducible apply sn_drew) | (with_reducible refine sn_right ?_ (by first | exact .inl rfl | exact .inr rfl | omega) _) | (with_reducible refine sn_left ?_ (by first | exact .inl rfl | exact .inr rfl | omega) _) | (with_reducible refine sn_alloc2 ?_ (by simp <;> omega) _ _) | (with_reducible apply sn_alloc))) (fun X hX => by have := hlo8 X hX; omega)), (fun X hX => .inr (by have := hlo8 X hX; omega)), drn_of (Dsrc.mono (Dsrc.sn (D1 := w.heap.size) (D2 := w.heap.size + 1) HDX.out (by repeat (first | (with_reducible exact sn_refl _ _ _) | (with_reducible apply sn_plus) | (with_reducible apply sn_patch) | (with_reducible apply sn_drew) | (with_reducible refine sn_right ?_ (by first | exact .inl rfl | exact .inr rfl | omega) _) | (with_reducible refine sn_left ?_ (by first | exact .inl rfl | exact .inr rfl | omega) _) | (with_reducible refine sn_alloc2 ?_ (by simp <;> omega) _ _) | (with_reducible apply sn_alloc))) (by omega)) (by omega)) (by repeat (first | (with_reducible exact HGX.out) | (with_reducible refine grew_hi ?_ (by omega) _))) hB⟩
  · have q0 : ((v : Int) == 0) = false := by simp; omega
    have q1 : ((v : Int) == 1) = false := by simp; omega
    have q2 : ((v : Int) == 2) = false := by simp; omega
    have q3 : ((v : Int) == 3) = false := by simp; omega
    have q4 : ((v : Int) == 4) = false := by simp; omega
    clear hv0
    go_wp2_with fail
    all_goals exact bodyPost_ret (v := .agg #[.int .i64 o, .int .i64 l, .int .i64 m, .slice pa ps.length pc, .int .i64 b, .int .i64 last]) (by simp [results, Tryz.results85, go_sem, ↓IntWalk.iteOmega]) rfl ⟨o, l, m, pa, pc, ps, b, last, rfl, by omega, rd_grew HRP.out (A := some ⟨B, 0, none⟩) (by repeat (first | (with_reducible exact grew_refl _ _) | (with_reducible apply grew_plus) | (with_reducible apply grew_alloc) | (with_reducible apply grew_drew) | (with_reducible apply grew_pat))) (fun X Y hX hY => by cases hX; exact (HOF.out Y hY).symm), (fun X hX => .inl hX), drn_of ((Dsrc.mono HD1.out (by omega)).sl (by repeat (first | (with_reducible exact sl_refl _ _) | (with_reducible apply sl_plus) | (with_reducible apply sl_patch) | (with_reducible apply sl_drew) | (with_reducible refine sl_alloc2 ?_ (by simp <;> omega) _ _))) hB) (by repeat (first | (with_reducible exact grew_refl _ _) | (with_reducible apply grew_plus) | (with_reducible apply grew_alloc) | (with_reducible apply grew_drew) | (with_reducible apply grew_pat))) hB⟩

end Go.Proofs.YtmddcbebaijjkaaGreatDoor
