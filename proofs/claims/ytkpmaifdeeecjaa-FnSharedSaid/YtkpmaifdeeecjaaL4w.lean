/- The walks of spec.l4Words and spec.KnownWords. -/
import Derived.Test.YtkpmaifdeeecjaaGb
import Derived.Test.YtkpmaifdeeecjaaGa
import Derived.Maps.AppendAt
namespace Go.Proofs.Ytkpmaifdeeecjaa
open Go.RowKit
set_option linter.unusedVariables false
set_option linter.unusedSimpArgs false

/-- append of elements that lie in memory onto an own slice: one operation -/
theorem oper_append_more {P : Program} {o : Oper} {a : Act} {w : World} {K : Act → World → Prop} {Q : Exit → Act → World → Prop} {α : Type} (E : Enc α) (s x : Operand) (t e : TypeId) (i : TypeInfo) (z : Value) (bytes : Nat)
    (ho : o.op = .call { callee := .builtin .append, args := #[s, x], argTypes := #[t, t] }) (ht : P.underlying t = some (.slice e)) (hi : P.info? e = some i) (hz : i.zero = some z) (hsz : i.size = E.sz) (hby : i.bytes = bytes)
    (hzs : z.cells.size = E.sz) (hpos : 0 < E.sz) (xs : List α) (A : Option Addr) (cap : Nat) (lo : Nat) (hown : Own E e w A cap xs lo) (hs : a.eval s = .slice A xs.length cap)
    (ys : List α) (b off c : Nat) (hr : ∀ j u, (flat E ys)[j]? = some u → w.cell? ⟨b, off + j, none⟩ = some u) (hx : a.eval x = .slice (some ⟨b, off, none⟩) ys.length c)
    (h63 : xs.length + ys.length ≤ 140737488355328) (hbd : (xs.length + ys.length) * bytes ≤ 140737488355328) (hlo : lo ≤ w.heap.size)
    (h : ∀ (A' : Option Addr) (c' : Nat) (w' : World), Own E e w' A' c' (xs ++ ys) lo → Grew A w w' → K (a.put o.dst (.slice A' (xs ++ ys).length c')) w') :
    o.wp P a w K Q := by
  obtain ⟨v', w', hrun, h1, h2, _, _⟩ := run_append_own_at (P := P) w lo t o.type e i z E.sz bytes ht hi hz hsz hby hzs hpos _ xs.length (flat E xs) (own_to hown) ⟨b, off, none⟩ ys.length c (flat E ys) (flat_len E ys)
    (fun j u hj => by rw [Addr.add_lit]; exact hr j u hj) (flat_one E ys) (by simp [maxLen]; omega) hbd hlo
  rw [← flat_append, ← List.length_append] at h1
  obtain ⟨A', c', rfl, hown'⟩ := own_of h1
  unfold Oper.wp execOp
  simp only [ho, resolve, invoke, builtin, Sem.run_bind, Sem.run_pure, Result.andThen_ok, List.map_toArray, List.map_cons, List.map_nil, hs, hx, hrun]
  refine h A' c' w' hown' ⟨h2.os, h2.tape, h2.output, h2.size, fun k hk hA => h2.block k hk fun he => ?_⟩
  cases A with
  | none => simp [Value.ownBlock] at he
  | some d => simp [Value.ownBlock] at he; exact hA d rfl he.symm

theorem take_next {α : Type} {xs : List α} {k : Nat} {x : α} (h : xs[k]? = some x) : xs.take k ++ [x] = xs.take (k + 1) := by
  rw [List.take_add_one, h]; rfl

theorem str_cells {e : TypeId} (W : World) (b : Nat) (s : ByteArray) (hb : b = W.heap.size) : ∀ (j : Nat) (u : Value), (flat encS [s])[j]? = some u → (W.alloc (.cells #[.string s] e)).cell? ⟨b, 0 + j, none⟩ = some u := by
  intro j u hj
  subst hb
  have hl := (List.getElem?_eq_some_iff.1 hj).1
  rw [flat_len] at hl
  have : j = 0 := by simp [encS] at hl; exact hl
  subst this
  have e1 : flat encS [s] = [.string s] := rfl
  rw [e1] at hj
  simp at hj
  subst hj
  rw [alloc_cell, if_neg (by omega), if_pos rfl]
  rfl

theorem rd_below {α : Type} {E : Enc α} {w w' : World} {a : Option Addr} {cap : Nat} {xs : List α} {B : Nat} (h : Rd E w a cap xs) (hb : Below B w w') (hB : w.heap.size ≤ B) : Rd E w' a cap xs :=
  h.of_block fun A hA hs => ⟨by have := hb.size; omega, hb.block _ (by omega)⟩

theorem lkw_at {l : Int} {ps : List Pr} {k : Nat} {s : ByteArray} (h : (wordsL l ps)[k]? = some s) : lkw l (wordsL l ps) (two l + 1 + 1 + k) = s := by
  unfold lkw
  rw [if_pos (by omega), show (two l + 1 + 1 + (k : Int) - (two l + 1)).toNat - 1 = k by omega, h]
  rfl

set_option maxRecDepth 100000 in
set_option maxHeartbeats 4000000 in
theorem l4Words_any (o l m : Int) (a : Option Addr) (cap : Nat) (ps : List Pr) (base last : Int) (w : World) (hr : RdP w a cap ps) (hkv : KV o l m ps base last) :
    Calls Try.prog 17 #[.agg #[.int .i64 o, .int .i64 l, .int .i64 m, .slice a ps.length cap, .int .i64 base, .int .i64 last]] w (RetS w (wordsL l ps)) := by
  have hs := hkv.s
  have hn := kv_len (kvb_iff.2 hkv)
  obtain ⟨_, l1, l2, _, _⟩ := sv_iff.1 hs
  obtain ⟨t1, t2⟩ := two_lit l1 l2
  have la : 0 ≤ l := by omega
  have lb : l ≤ 10 := by omega
  obtain ⟨i0, hi, hz0, hz1, hz2⟩ := info_parts infoString
  have HKV := Lib.hid hkv
  clear hkv
  go_enter Try.func17, Try.ntmps17
  go_wp2_with fail
  go_loopw [3, 4] (fun s i wr => ∃ (k : Nat) (A : Option Addr) (cp : Nat), k ≤ ps.length ∧ i = .int .i64 k ∧ s = .slice A k cp ∧ Own encS 9 wr A cp ((wordsL l ps).take k) (w.heap.size + 1) ∧
      Below (w.heap.size + 1) (w.alloc (.cells #[.int .i64 o, .int .i64 l, .int .i64 m, .slice a ps.length cap, .int .i64 base, .int .i64 last] 27)) wr) (fun _ i _ => ps.length - (intOf i).toNat)
  case atStart => exact ⟨0, some ⟨w.heap.size + 1, 0, none⟩, 0, Nat.zero_le _, rfl, rfl, Own.newAt (by simp) (by omega) rfl (row_of encS _ _ (fun i x h => by simp at h)) (by simp) (by omega), Below.alloc (Below.refl _ _) (by simp) _⟩
  case round =>
    obtain ⟨k, A, cp, hk, rfl, rfl, hown, hbl⟩ := hrel
    have hrule := below_rule hbl
    have hsz : w.heap.size + 1 ≤ wr.heap.size := by have := hbl.size; simp at this; exact this
    have HB := Lib.hid hbl
    have HO := Lib.hid hown
    have hAlt := fun A hA => (own_lt hown A hA).2
    have hAlo := fun A hA => (own_lt hown A hA).1
    clear hbl hown
    rcases dec ((k : Int) < (ps.length : Int)) with ⟨g1, v1⟩ | ⟨g1, v1⟩
    · have hexs : ∃ s, (wordsL l ps)[k]? = some s := ⟨_, List.getElem?_eq_getElem (by rw [wordsL_len]; omega)⟩
      obtain ⟨s, hws⟩ := hexs
      have hrr : RdP wr a cap ps := rd_below (Rd.alloc hr _) HB.out (by simp)
      have HNX := Lib.hid (take_next hws)
      have HLK := Lib.hid (lkw_at hws)
      have hlk : (wordsL l ps).take k = (wordsL l ps).take k ∧ ((wordsL l ps).take k).length = k := ⟨rfl, by rw [List.length_take, wordsL_len]; omega⟩
      have htl := hlk.2
      clear hlk hws
      go_wp2_with fail
      refine wp_region_plan (fun w' => Below (w.heap.size + 1) (w.alloc (.cells #[.int .i64 o, .int .i64 l, .int .i64 m, .slice a ps.length cap, .int .i64 base, .int .i64 last] 27)) w') (Plan.quiet 0 (Plan.quiet 1 (Plan.quiet 2 (Plan.quiet 3 (Plan.quiet 6 (Plan.one 4 (Plan.quiet 5 (Plan.quiet 7 (Plan.one 8 (Plan.one 9 (Plan.one 10 (Plan.one 11 Plan.done)))))))))))) (by kernel_rfl) (by kernel_rfl) (Below.drew HB.out) ?_
      refine wpPlan_quiet (.slice A k cp) rfl rfl (by intro w' hS; have hrule2 := below_rule hS; simp [go_sem, ↓IntWalk.iteOmega, hrule2] <;> first | done | (rw [IntWalk.i64_in _ (by omega)]) | trace_state) ?_
      refine wpPlan_quiet (.agg #[.int .i64 o, .int .i64 l, .int .i64 m, .slice a ps.length cap, .int .i64 base, .int .i64 last]) rfl rfl (by intro w' hS; have hrule2 := below_rule hS; simp [go_sem, ↓IntWalk.iteOmega, hrule2] <;> first | done | (rw [IntWalk.i64_in _ (by omega)]) | trace_state) ?_
      refine wpPlan_quiet (.pointer (some ⟨w.heap.size, 0, none⟩)) rfl rfl (by intro w' hS; have hrule2 := below_rule hS; simp [go_sem, ↓IntWalk.iteOmega, hrule2] <;> first | done | (rw [IntWalk.i64_in _ (by omega)]) | trace_state) ?_
      refine wpPlan_quiet (.agg #[.int .i64 o, .int .i64 l, .int .i64 m]) rfl rfl (by intro w' hS; have hrule2 := below_rule hS; simp [go_sem, ↓IntWalk.iteOmega, hrule2] <;> first | done | (rw [IntWalk.i64_in _ (by omega)]) | trace_state) ?_
      refine wpPlan_quiet (.int .i64 k) rfl rfl (by intro w' hS; have hrule2 := below_rule hS; simp [go_sem, ↓IntWalk.iteOmega, hrule2] <;> first | done | (rw [IntWalk.i64_in _ (by omega)]) | trace_state) ?_
      refine wpPlan_one rfl rfl (fun K hK => ?_)
      go_simp
      refine (l1End_any _ _ _ la lb _).mono ?_
      rintro e w' ⟨rfl, x1, rfl⟩
      refine hK _ _ (by have hbb := HB.out; repeat (first | exact hbb | refine below_plus ?_ (by first | omega | (simp <;> omega)) _ | refine Below.drew ?_)) ?_
      clear hK K
      refine wpPlan_quiet (.int .i64 (two l + 1 + 1)) rfl rfl (by intro w' hS; have hrule2 := below_rule hS; simp [go_sem, ↓IntWalk.iteOmega, hrule2] <;> first | done | (rw [IntWalk.i64_in _ (by omega)]) | trace_state) ?_
      refine wpPlan_quiet (.int .i64 (two l + 1 + 1 + k)) rfl rfl (by intro w' hS; have hrule2 := below_rule hS; simp [go_sem, ↓IntWalk.iteOmega, hrule2] <;> first | done | (rw [IntWalk.i64_in _ (by omega)]) | trace_state) ?_
      refine wpPlan_one rfl rfl (fun K hK => ?_)
      go_simp
      refine (l2Word_any (hr := Rd.plus hrr _) (hkv := HKV.out) (hc0 := hw_iff.2 (by omega))).mono ?_
      rintro e w' ⟨rfl, x2, rfl⟩
      refine hK _ _ (by have hbb := HB.out; repeat (first | exact hbb | refine below_plus ?_ (by first | omega | (simp <;> omega)) _ | refine Below.alloc ?_ (by first | omega | (simp <;> omega)) _ | refine Below.drew ?_)) ?_
      clear hK K
      rw [HLK.out]
      refine wpPlan_one rfl rfl (fun K hK => ?_)
      go_simp
      refine hK _ _ (by have hbb := HB.out; repeat (first | exact hbb | refine below_plus ?_ (by first | omega | (simp <;> omega)) _ | refine Below.alloc ?_ (by first | omega | (simp <;> omega)) _ | refine Below.drew ?_)) ?_
      clear hK K
      refine wpPlan_one rfl rfl (fun K hK => ?_)
      refine oper_append_more encS _ _ _ _ i0 _ 16 rfl Try.underlying30 hi hz0 hz1 hz2 rfl (by decide) ((wordsL l ps).take k) A cp (w.heap.size + 1) (by repeat (first | exact HO.out | apply Own.plus | apply Own.alloc | apply Own.drew)) (by rw [htl]; rfl) [s] _ 0 1 (str_cells _ _ s (by simp)) rfl (by rw [htl]; simp <;> omega) (by rw [htl]; simp <;> omega) (by first | omega | (simp <;> omega)) ?_
      intro A' c' w2 hown2 hgrew
      have hb2 := Lib.hid (show Below (w.heap.size + 1) (w.alloc (.cells #[.int .i64 o, .int .i64 l, .int .i64 m, .slice a ps.length cap, .int .i64 base, .int .i64 last] 27)) w2 by refine Below.trans ?_ (hgrew.below (by first | omega | (simp <;> omega)) hAlo); exact (by have hbb := HB.out; repeat (first | exact hbb | refine below_plus ?_ (by first | omega | (simp <;> omega)) _ | refine Below.alloc ?_ (by first | omega | (simp <;> omega)) _ | refine Below.drew ?_)))
      refine hK _ _ hb2.out ?_
      clear hK K
      rw [HNX.out] at hown2 ⊢
      have hl1 : ((wordsL l ps).take (k + 1)).length = k + 1 := by rw [List.length_take, wordsL_len]; omega
      rw [hl1]
      refine wpPlan_one rfl rfl (fun K hK => ?_)
      go_simp
      refine hK _ _ hb2.out ?_
      clear hK K
      have HO2 := Lib.hid hown2
      clear hown2 hgrew
      refine NoPanic.normal ?_
      go_wp2_with fail
      go_roundw
      case rel => exact ⟨k + 1, A', c', by omega, by simp, rfl, HO2.out, hb2.out⟩
      case measure => simp [intOf]; omega
    · go_wp2_with fail
      go_ret
      have hkk : k = ps.length := by omega
      have hown := HO.out
      rw [List.take_of_length_le (by rw [wordsL_len]; omega)] at hown
      refine ⟨A, cp, congrArg (fun n => Ending.returned (Value.slice A n cp)) (by rw [wordsL_len]; exact hkk), hown.lower (by omega), below_more (Below.trans (Below.alloc (Below.refl _ _) (Nat.le_refl _) _) (HB.out.mono (by omega)))⟩

end Go.Proofs.Ytkpmaifdeeecjaa
