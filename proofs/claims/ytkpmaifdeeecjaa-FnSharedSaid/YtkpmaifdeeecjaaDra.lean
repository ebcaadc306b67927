/- Draws: what a draw leaves of the world; num, l1Some. -/
import Derived.Test.YtkpmaifdeeecjaaDrb
import Derived.Test.YtkpmaifdeeecjaaGc
namespace Go.Proofs.Ytkpmaifdeeecjaa
open Go.RowKit
set_option linter.unusedVariables false
set_option linter.unusedSimpArgs false

theorem grew_form {w w' : World} {B : Nat} {ob : Obj} (h : Grew (some ⟨B, 0, none⟩) w w') (hob : w'.heap[B]? = some ob) (hB : B < w.heap.size) : ∃ x, w' = plus (patch w B ob) x := by
  refine ⟨⟨w'.heap.extract w.heap.size w'.heap.size, w'.drawn⟩, world_ext (fun k => ?_) h.tape rfl h.os h.output⟩
  show w'.heap[k]? = ((patch w B ob).heap ++ w'.heap.extract w.heap.size w'.heap.size)[k]?
  rw [Array.getElem?_append, patch_size]
  have hz := h.size
  by_cases hk : k < w.heap.size
  · rw [if_pos hk]
    by_cases hkB : k = B
    · subst hkB
      rw [hob, patch_at _ _ _ hk]
    · rw [patch_other _ _ _ hkB]
      exact h.block k hk fun A hA e => by cases hA; exact hkB e.symm
  · rw [if_neg hk, Array.getElem?_extract]
    by_cases hk2 : k < w'.heap.size
    · rw [if_pos (by omega), show w.heap.size + (k - w.heap.size) = k by omega]
    · rw [if_neg (by omega)]; exact Array.getElem?_eq_none (by omega)

/-- behind draws: the source goes on, its block has turned, and blocks are added -/
def Drn (w : World) (B n : Nat) (w' : World) : Prop := Dsrc w' B n ∧ ∃ cur x, w' = plus (patch w B (.cells cur 51)) x

theorem drn_of {w w' : World} {B n : Nat} (hd : Dsrc w' B n) (hg : Grew (some ⟨B, 0, none⟩) w w') (hB : B < w.heap.size) : Drn w B n w' := by
  have hd2 := hd
  obtain ⟨ba, bc, bs, p, hb, _⟩ := hd
  obtain ⟨x, hx⟩ := grew_form hg hb hB
  exact ⟨hd2, _, x, hx⟩

theorem grew_pat {w w' : World} {B : Nat} (h : Grew (some ⟨B, 0, none⟩) w w') (o : Obj) : Grew (some ⟨B, 0, none⟩) w (patch w' B o) := grew_trans h (grew_patch w' B o)

theorem Drn.grew {w w' : World} {B n : Nat} (h : Drn w B n w') : Grew (some ⟨B, 0, none⟩) w w' := by
  obtain ⟨_, cur, x, rfl⟩ := h
  exact grew_plus (grew_patch _ _ _) _

theorem pick_d (B n : Nat) (m : Int) (w : World) (hd : Dsrc w B n) (hn : n ≤ 1000000) :
    Calls Try.prog 25 #[.pointer (some ⟨B, 0, none⟩), .int .i64 m] w (fun e w' => ∃ v : Nat, e = .returned (.int .i64 v) ∧ ((v : Int) < m ∨ v = 0) ∧ Drn w B (n + 1) w') := by
  refine (pick_any B n m w hd hn).mono ?_
  rintro e w' ⟨v, rfl, h0, h1, h2, h3⟩
  obtain ⟨v, rfl⟩ : ∃ v' : Nat, v = v' := ⟨v.toNat, by omega⟩
  exact ⟨v, rfl, by omega, drn_of h2 h3 hd.B_lt⟩

theorem rdN_open {w : World} {a : Option Addr} {cap : Nat} {xs : List Int} (h : Rd encI w a cap xs) (h0 : 0 < xs.length) : xs.length ≤ cap ∧ cap ≤ 9223372036854775807 ∧ ∃ b off, a = some ⟨b, off, none⟩ ∧ b < w.heap.size ∧
    ∀ i x, xs[i]? = some x → w.cell? ⟨b, off + i, none⟩ = some (.int .i64 x) := by
  obtain ⟨h1, h2, h3⟩ := h
  refine ⟨h1, h2, ?_⟩
  rcases h3 with h3 | ⟨b, off, rfl, hb, hc⟩
  · omega
  · refine ⟨b, off, rfl, hb, fun i x hx => ?_⟩
    have := hc (i * 1 + 0) _ (flat_get encI xs i x hx 0 (by decide))
    simpa using this

/-- a list of numbers, spelled out -/
theorem rd_lit (xs : List Int) (W : World) (e : TypeId) (cur : Array Value) (b : Nat) (hb : b = W.heap.size) (h : cur = (xs.map (Value.int .i64)).toArray) (hx : xs.length ≤ 1000) : Rd encI (W.alloc (.cells cur e)) (some ⟨b, 0, none⟩) xs.length xs := by
  subst h hb
  refine Rd.of_row (push_new _ _ _ rfl) ?_ (Nat.le_refl _) (by omega)
  exact row_of encI _ _ fun i x hx j hj => by
    obtain rfl : j = 0 := by have : j < 1 := hj; omega
    have e1 : i * encI.sz + 0 = i := by show i * 1 + 0 = i; omega
    rw [e1]
    simp [hx]
    rfl

set_option maxRecDepth 100000 in
set_option maxHeartbeats 2000000 in
theorem num_d (B n : Nat) (w : World) (hd : Dsrc w B n) (hn : n ≤ 1000000) (la : Option Addr) (lcap : Nat) (xs : List Int) (hr : Rd encI w la lcap xs) (hla : ∀ X, la = some X → X.block ≠ B) (h0 : 0 < xs.length) :
    Calls Try.prog 24 #[.pointer (some ⟨B, 0, none⟩), .slice la xs.length lcap] w (fun e w' => ∃ v, e = .returned (.int .i64 v) ∧ v ∈ xs ∧ Drn w B (n + 1) w') := by
  obtain ⟨h1, h2, b, off, rfl, hb, hc⟩ := rdN_open hr h0
  have hne : b ≠ B := hla _ rfl
  have hB := hd.B_lt
  have HD := Lib.hid hd
  have HC := Lib.hid hc
  clear hd hr hla hc
  go_enter Try.func24, Try.ntmps24
  go_wp2_with fail
  refine (pick_d B n _ _ HD.out hn).mono ?_
  rintro e w' ⟨v, rfl, hv, hdn⟩
  have HG := Lib.hid hdn
  obtain ⟨_, cur, x, rfl⟩ := hdn
  have hvl : v < xs.length := by omega
  obtain ⟨z, hz⟩ : ∃ z, xs[v]? = some z := ⟨_, List.getElem?_eq_getElem hvl⟩
  have c1 := HC.out v z hz
  have hm := List.mem_of_getElem? hz
  clear hz
  go_wp2_with fail
  go_ret
  exact ⟨z, rfl, hm, HG.out⟩

/-- two worlds that are the same below L -/
def SameL (L : Nat) (w1 w2 : World) : Prop := w1.heap.size = w2.heap.size ∧ ∀ k, k < L → w1.heap[k]? = w2.heap[k]?

theorem sl_refl (L : Nat) (w : World) : SameL L w w := ⟨rfl, fun _ _ => rfl⟩

theorem sl_alloc2 {L : Nat} {w1 w2 : World} (h : SameL L w1 w2) (hL : L ≤ w1.heap.size) (o o' : Obj) : SameL L (w1.alloc o) (w2.alloc o') := ⟨by simp [h.1], fun k hk => by
  have := h.1
  rw [push_at, push_at, if_pos (by omega), if_pos (by omega)]
  exact h.2 k hk⟩

theorem sl_plus {L : Nat} {w1 w2 : World} (h : SameL L w1 w2) (x : Ext) : SameL L (plus w1 x) (plus w2 x) := ⟨by simp [h.1], fun k hk => by
  show (w1.heap ++ x.os)[k]? = (w2.heap ++ x.os)[k]?
  rw [Array.getElem?_append, Array.getElem?_append, h.1, h.2 k hk]⟩

theorem sl_drew {L : Nat} {w1 w2 : World} (h : SameL L w1 w2) : SameL L w1.drew w2.drew := h

theorem sl_patch {L : Nat} {w1 w2 : World} (h : SameL L w1 w2) (b : Nat) (o : Obj) : SameL L (patch w1 b o) (patch w2 b o) := ⟨by simp [h.1], fun k hk => by
  rw [patch_heap, patch_heap, h.1, h.2 k hk]⟩

theorem Dsrc.sl {L : Nat} {w1 w2 : World} {B n : Nat} (h : Dsrc w1 B n) (hs : SameL L w1 w2) (hL : B < L) : Dsrc w2 B n :=
  h.of_block (fun k hk _ => (hs.2 k (by omega)).symm) (by rw [hs.1]; exact Nat.le_refl _)

theorem rd_sl {α : Type} {E : Enc α} {L : Nat} {w1 w2 : World} {a : Option Addr} {cap : Nat} {xs : List α} (h : Rd E w1 a cap xs) (hs : SameL L w1 w2) (ha : ∀ X, a = some X → X.block < L) : Rd E w2 a cap xs :=
  h.of_block fun A hA hl => ⟨by rw [← hs.1]; exact hl, (hs.2 _ (ha A hA)).symm⟩

set_option maxRecDepth 100000 in
set_option maxHeartbeats 4000000 in
theorem l1Some_d (B n : Nat) (w : World) (hd : Dsrc w B n) (hn : n ≤ 900000) :
    Calls Try.prog 12 #[.pointer (some ⟨B, 0, none⟩)] w (fun e w' => ∃ o l m : Int, e = .returned (.agg #[.int .i64 o, .int .i64 l, .int .i64 m]) ∧ sv o l m = true ∧ Drn w B (n + 5) w') := by
  have hB := hd.B_lt
  have HD := Lib.hid hd
  clear hd
  go_enter Try.func12, Try.ntmps12
  go_wp2_with fail
  refine (num_d B n _ (by repeat (first | (with_reducible exact HD.out) | (with_reducible apply dsrc_seq) | (with_reducible apply dsrc_draw) | (with_reducible apply Dsrc.plus) | (with_reducible apply Dsrc.alloc) | (with_reducible apply Dsrc.drew))) (by omega) _ _ [2, 3, 2, 1, 8, 5] (by exact rd_lit _ _ _ _ _ (by simp <;> omega) rfl (by decide)) (fun X hX => by cases hX; simp <;> omega) (by decide)).mono ?_
  rintro e w' ⟨v, rfl, hv, hdn⟩
  obtain ⟨hd1, cur1, x1, rfl⟩ := hdn
  have HD1 := Lib.hid hd1
  clear hd1
  have hv1 : 1 ≤ v ∧ v ≤ 8 := by simp at hv; omega
  clear hv
  go_wp2_with fail
  refine (pick_d B (n + 1) _ _ (by repeat (first | (with_reducible exact HD1.out) | (with_reducible apply dsrc_seq) | (with_reducible apply dsrc_draw) | (with_reducible apply Dsrc.plus) | (with_reducible apply Dsrc.alloc) | (with_reducible apply Dsrc.drew))) (by omega)).mono ?_
  rintro e w' ⟨v2, rfl, hv2, hdn⟩
  obtain ⟨hd2, cur2, x2, rfl⟩ := hdn
  have HD2 := Lib.hid hd2
  clear hd2
  go_wp2_with fail
  refine (pick_d B (n + 2) _ _ (by repeat (first | (with_reducible exact HD2.out) | (with_reducible apply dsrc_seq) | (with_reducible apply dsrc_draw) | (with_reducible apply Dsrc.plus) | (with_reducible apply Dsrc.alloc) | (with_reducible apply Dsrc.drew))) (by omega)).mono ?_
  rintro e w' ⟨v3, rfl, hv3, hdn⟩
  obtain ⟨hd3, cur3, x3, rfl⟩ := hdn
  have HD3 := Lib.hid hd3
  clear hd3
  rcases Nat.eq_zero_or_pos v3 with rfl | hp
  · go_wp2_with fail
    refine (pick_d B (n + 3) _ _ (by repeat (first | (with_reducible exact HD3.out) | (with_reducible apply dsrc_seq) | (with_reducible apply dsrc_draw) | (with_reducible apply Dsrc.plus) | (with_reducible apply Dsrc.alloc) | (with_reducible apply Dsrc.drew))) (by omega)).mono ?_
    rintro e w' ⟨v4, rfl, hv4, hdn⟩
    obtain ⟨hd4, cur4, x4, rfl⟩ := hdn
    have HD4 := Lib.hid hd4
    clear hd4
    go_wp2_with fail
    refine (pick_d B (n + 4) _ _ (by repeat (first | (with_reducible exact HD4.out) | (with_reducible apply dsrc_seq) | (with_reducible apply dsrc_draw) | (with_reducible apply Dsrc.plus) | (with_reducible apply Dsrc.alloc) | (with_reducible apply Dsrc.drew))) (by omega)).mono ?_
    rintro e w' ⟨v5, rfl, hv5, hdn⟩
    obtain ⟨hd5, cur5, x5, rfl⟩ := hdn
    have HD5 := Lib.hid hd5
    clear hd5
    go_wp2_with fail
    all_goals exact bodyPost_ret (v := .agg #[.int .i64 v5, .int .i64 v, .int .i64 (min (v + 2 + v4) 10)]) (by simp [results, Try.results12, go_sem, ↓IntWalk.iteOmega]) rfl ⟨_, _, _, rfl, sv_iff.2 (by omega), drn_of (HD5.out.sl (by repeat (first | (with_reducible exact sl_refl _ _) | (with_reducible apply sl_plus) | (with_reducible apply sl_patch) | (with_reducible apply sl_drew) | (with_reducible refine sl_alloc2 ?_ (by simp <;> omega) _ _))) hB) (by repeat (first | (with_reducible exact grew_refl _ _) | (with_reducible apply grew_plus) | (with_reducible apply grew_alloc) | (with_reducible apply grew_drew) | (with_reducible apply grew_pat))) hB⟩
  · have v0 : ((v3 : Int) == 0) = false := by simp; omega
    go_wp2_with fail
    refine (pick_d B (n + 3) _ _ (by repeat (first | (with_reducible exact HD3.out) | (with_reducible apply dsrc_seq) | (with_reducible apply dsrc_draw) | (with_reducible apply Dsrc.plus) | (with_reducible apply Dsrc.alloc) | (with_reducible apply Dsrc.drew))) (by omega)).mono ?_
    rintro e w' ⟨v4, rfl, hv4, hdn⟩
    obtain ⟨hd4, cur4, x4, rfl⟩ := hdn
    have HD4 := Lib.hid hd4
    clear hd4
    go_wp2_with fail
    all_goals exact bodyPost_ret (v := .agg #[.int .i64 v4, .int .i64 v, .int .i64 (v + 2 + v2)]) (by simp [results, Try.results12, go_sem, ↓IntWalk.iteOmega]) rfl ⟨_, _, _, rfl, sv_iff.2 (by omega), drn_of ((HD4.out.mono (by omega)).sl (by repeat (first | (with_reducible exact sl_refl _ _) | (with_reducible apply sl_plus) | (with_reducible apply sl_patch) | (with_reducible apply sl_drew) | (with_reducible refine sl_alloc2 ?_ (by simp <;> omega) _ _))) hB) (by repeat (first | (with_reducible exact grew_refl _ _) | (with_reducible apply grew_plus) | (with_reducible apply grew_alloc) | (with_reducible apply grew_drew) | (with_reducible apply grew_pat))) hB⟩

/-- l1Bad: whatever setting -/
def RetSd (w : World) (B n : Nat) (e : Ending) (w' : World) : Prop := ∃ o l m : Int, e = .returned (.agg #[.int .i64 o, .int .i64 l, .int .i64 m]) ∧ Drn w B n w'

set_option maxRecDepth 100000 in
set_option maxHeartbeats 4000000 in
theorem l1Bad_d (B n : Nat) (o l m : Int) (w : World) (hd : Dsrc w B n) (hn : n ≤ 900000) (hl0 : 0 ≤ l) (hl1 : l ≤ 100) :
    Calls Try.prog 29 #[.pointer (some ⟨B, 0, none⟩), .agg #[.int .i64 o, .int .i64 l, .int .i64 m]] w (RetSd w B (n + 2)) := by
  have hB := hd.B_lt
  have HD := Lib.hid hd
  clear hd
  go_enter Try.func29, Try.ntmps29
  go_wp2_with fail
  refine (pick_d B n _ _ (by repeat (first | (with_reducible exact HD.out) | (with_reducible apply dsrc_seq) | (with_reducible apply dsrc_draw) | (with_reducible apply Dsrc.plus) | (with_reducible apply Dsrc.alloc) | (with_reducible apply Dsrc.drew))) (by omega)).mono ?_
  rintro e w' ⟨v, rfl, hv, hdn⟩
  obtain ⟨hd1, cur1, x1, rfl⟩ := hdn
  have HD1 := Lib.hid hd1
  clear hd1
  rcases (by omega : v = 0 ∨ v = 1 ∨ v = 2 ∨ 2 < v) with rfl | rfl | rfl | hv2
  · go_wp2_with fail
    refine (num_d B (n + 1) _ (by repeat (first | (with_reducible exact HD1.out) | (with_reducible apply dsrc_seq) | (with_reducible apply dsrc_draw) | (with_reducible apply Dsrc.plus) | (with_reducible apply Dsrc.alloc) | (with_reducible apply Dsrc.drew))) (by omega) _ _ [-1, 2] (by exact rd_lit _ _ _ _ _ (by simp <;> omega) rfl (by decide)) (fun X hX => by cases hX; simp <;> omega) (by decide)).mono ?_
    rintro e w' ⟨z, rfl, hz, hdn⟩
    obtain ⟨hd2, cur2, x2, rfl⟩ := hdn
    have HD2 := Lib.hid hd2
    clear hd2
    clear hz
    go_wp2_with fail
    all_goals exact bodyPost_ret (v := .agg #[.int .i64 z, .int .i64 l, .int .i64 m]) (by simp [results, Try.results29, go_sem, ↓IntWalk.iteOmega]) rfl ⟨_, _, _, rfl, drn_of (HD2.out.sl (by repeat (first | (with_reducible exact sl_refl _ _) | (with_reducible apply sl_plus) | (with_reducible apply sl_patch) | (with_reducible apply sl_drew) | (with_reducible refine sl_alloc2 ?_ (by simp <;> omega) _ _))) hB) (by repeat (first | (with_reducible exact grew_refl _ _) | (with_reducible apply grew_plus) | (with_reducible apply grew_alloc) | (with_reducible apply grew_drew) | (with_reducible apply grew_pat))) hB⟩
  · go_wp2_with fail
    refine (num_d B (n + 1) _ (by repeat (first | (with_reducible exact HD1.out) | (with_reducible apply dsrc_seq) | (with_reducible apply dsrc_draw) | (with_reducible apply Dsrc.plus) | (with_reducible apply Dsrc.alloc) | (with_reducible apply Dsrc.drew))) (by omega) _ _ [0, 9, -1, 9223372036854775807] (by exact rd_lit _ _ _ _ _ (by simp <;> omega) rfl (by decide)) (fun X hX => by cases hX; simp <;> omega) (by decide)).mono ?_
    rintro e w' ⟨z, rfl, hz, hdn⟩
    obtain ⟨hd2, cur2, x2, rfl⟩ := hdn
    have HD2 := Lib.hid hd2
    clear hd2
    clear hz
    go_wp2_with fail
    all_goals exact bodyPost_ret (v := .agg #[.int .i64 o, .int .i64 z, .int .i64 m]) (by simp [results, Try.results29, go_sem, ↓IntWalk.iteOmega]) rfl ⟨_, _, _, rfl, drn_of (HD2.out.sl (by repeat (first | (with_reducible exact sl_refl _ _) | (with_reducible apply sl_plus) | (with_reducible apply sl_patch) | (with_reducible apply sl_drew) | (with_reducible refine sl_alloc2 ?_ (by simp <;> omega) _ _))) hB) (by repeat (first | (with_reducible exact grew_refl _ _) | (with_reducible apply grew_plus) | (with_reducible apply grew_alloc) | (with_reducible apply grew_drew) | (with_reducible apply grew_pat))) hB⟩
  · go_wp2_with fail
    refine (num_d B (n + 1) _ (by repeat (first | (with_reducible exact HD1.out) | (with_reducible apply dsrc_seq) | (with_reducible apply dsrc_draw) | (with_reducible apply Dsrc.plus) | (with_reducible apply Dsrc.alloc) | (with_reducible apply Dsrc.drew))) (by omega) _ _ [l + 1, 11, -1, -9223372036854775808] (by exact rd_lit _ _ _ _ _ (by simp <;> omega) rfl (by simp)) (fun X hX => by cases hX; simp <;> omega) (by simp)).mono ?_
    rintro e w' ⟨z, rfl, hz, hdn⟩
    obtain ⟨hd2, cur2, x2, rfl⟩ := hdn
    have HD2 := Lib.hid hd2
    clear hd2
    clear hz
    go_wp2_with fail
    all_goals exact bodyPost_ret (v := .agg #[.int .i64 o, .int .i64 l, .int .i64 z]) (by simp [results, Try.results29, go_sem, ↓IntWalk.iteOmega]) rfl ⟨_, _, _, rfl, drn_of (HD2.out.sl (by repeat (first | (with_reducible exact sl_refl _ _) | (with_reducible apply sl_plus) | (with_reducible apply sl_patch) | (with_reducible apply sl_drew) | (with_reducible refine sl_alloc2 ?_ (by simp <;> omega) _ _))) hB) (by repeat (first | (with_reducible exact grew_refl _ _) | (with_reducible apply grew_plus) | (with_reducible apply grew_alloc) | (with_reducible apply grew_drew) | (with_reducible apply grew_pat))) hB⟩
  · have e0 : ((v : Int) == 0) = false := by simp; omega
    have e1 : ((v : Int) == 1) = false := by simp; omega
    have e2 : ((v : Int) == 2) = false := by simp; omega
    go_wp2_with fail
    all_goals exact bodyPost_ret (v := .agg #[.int .i64 o, .int .i64 l, .int .i64 m]) (by simp [results, Try.results29, go_sem, ↓IntWalk.iteOmega]) rfl ⟨_, _, _, rfl, drn_of ((HD1.out.mono (by omega)).sl (by repeat (first | (with_reducible exact sl_refl _ _) | (with_reducible apply sl_plus) | (with_reducible apply sl_patch) | (with_reducible apply sl_drew) | (with_reducible refine sl_alloc2 ?_ (by simp <;> omega) _ _))) hB) (by repeat (first | (with_reducible exact grew_refl _ _) | (with_reducible apply grew_plus) | (with_reducible apply grew_alloc) | (with_reducible apply grew_drew) | (with_reducible apply grew_pat))) hB⟩

end Go.Proofs.Ytkpmaifdeeecjaa
