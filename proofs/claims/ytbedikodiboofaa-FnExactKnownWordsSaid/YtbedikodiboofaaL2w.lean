/- The walk of spec.l2Word: the word of a code, back along the pairs, then turned round. -/
import Derived.Test.YtbedikodiboofaaWrd
import Derived.Test.YtbedikodiboofaaPla
import Derived.Test.YtbedikodiboofaaOwr
namespace Go.Proofs.Ytbedikodiboofaa
open Go.RowKit
set_option linter.unusedVariables false
set_option linter.unusedSimpArgs false

theorem infoByte : (Try.prog.info? 5).map (fun i => (i.zero, i.size, i.bytes)) = some (some (.int .u8 0), 1, 1) := by kernel_rfl

theorem below_more {w w' : World} (h : Below w.heap.size w w') : More w w' := by
  refine ⟨⟨w'.heap.extract w.heap.size w'.heap.size, w'.drawn⟩, world_ext (fun k => ?_) h.tape rfl h.os h.output⟩
  show w'.heap[k]? = (w.heap ++ w'.heap.extract w.heap.size w'.heap.size)[k]?
  rw [Array.getElem?_append]
  by_cases hk : k < w.heap.size
  · rw [if_pos hk]; exact h.block k hk
  · rw [if_neg hk, Array.getElem?_extract]
    have := h.size
    by_cases hk2 : k < w'.heap.size
    · rw [if_pos (by omega), show w.heap.size + (k - w.heap.size) = k by omega]
    · rw [if_neg (by omega)]; exact Array.getElem?_eq_none (by omega)

/-- cells below B read as they did: a rule for the walk -/
theorem below_rule {B : Nat} {w w' : World} (h : Below B w w') (n i : Nat) : w'.cell? ⟨n, i, none⟩ = if n < B then w.cell? ⟨n, i, none⟩ else cellPast w' ⟨n, i, none⟩ := by
  split
  · exact h.cell (p := ⟨n, i, none⟩) (by assumption)
  · rfl

/-- the bytes of the word of a code -/
def wb (l : Int) (ws : List ByteArray) (c : Int) : List UInt8 := (lkw l ws c).data.toList

theorem wb_lit {l : Int} {ws : List ByteArray} {c : Int} (h : ¬ two l + 1 < c) : wb l ws c = [UInt8.ofNat c.toNat] := by
  unfold wb lkw; rw [if_neg h]; rfl

theorem wb_pair {l : Int} {ps : List Pr} {c : Int} {p : Pr} (h : two l + 1 < c) (hp : ps[(c - (two l + 1)).toNat - 1]? = some p) (hpre : two l + 1 < p.p → (p.p - (two l + 1)).toNat - 1 < (c - (two l + 1)).toNat - 1) :
    wb l (wordsL l ps) c = wb l (wordsL l ps) p.p ++ [UInt8.ofNat p.b.toNat] := by
  have h1 := wordsL_get (l := l) hp
  have e : lkw l (wordsL l (ps.take ((c - (two l + 1)).toNat - 1))) p.p = lkw l (wordsL l ps) p.p := by
    unfold lkw
    split
    · rename_i hq; rw [wordsL_take (hpre hq)]
    · rfl
  rw [e] at h1
  unfold wb
  have e2 : lkw l (wordsL l ps) c = lkw l (wordsL l ps) p.p ++ one p.b := by
    rw [show lkw l (wordsL l ps) c = ((wordsL l ps)[(c - (two l + 1)).toNat - 1]?).getD ⟨#[]⟩ by unfold lkw; rw [if_pos h], h1]; rfl
  rw [e2]
  simp [one, ByteArray.data_append]

theorem wb_len {l : Int} {ps : List Pr} {c : Int} (h : hw l ps.length c = true) : (wb l (wordsL l ps) c).length ≤ ps.length + 2 := by
  unfold wb lkw
  split
  · cases hs : (wordsL l ps)[(c - (two l + 1)).toNat - 1]? with
    | none => simp
    | some s =>
      have h1 := (wordsL_size l ps _ s hs).2
      have h2 := (List.getElem?_eq_some_iff.1 hs).1
      rw [wordsL_len] at h2
      simp only [Option.getD_some]
      have : s.data.toList.length = s.size := by show s.data.toList.length = s.data.size; simp
      omega
  · show 1 ≤ _; omega

/-- what lay outside a's block reads as it did: a rule for the walk -/
theorem grew_rule {A : Option Addr} {w w' : World} {B : Nat} (h : Grew A w w') (hA : ∀ a, A = some a → a.block < B) (n i : Nat) :
    w'.cell? ⟨n, i, none⟩ = if B ≤ n then if n < w.heap.size then w.cell? ⟨n, i, none⟩ else cellPast w' ⟨n, i, none⟩ else cellPast w' ⟨n, i, none⟩ := by
  split
  · split
    · rename_i h1 h2
      exact World.cell?_of_block (a := ⟨n, i, none⟩) (h.block n h2 fun a ha e => by have := hA a ha; omega)
    · rfl
  · rfl

theorem own_lt {α : Type} {E : Enc α} {e : TypeId} {w : World} {a : Option Addr} {cap : Nat} {xs : List α} {lo : Nat} (h : Own E e w a cap xs lo) : ∀ A, a = some A → lo ≤ A.block ∧ A.block < w.heap.size := by
  intro A hA
  rcases h with ⟨h0, _⟩ | ⟨b, cur, h0, h1, hb, _⟩
  · rw [h0] at hA; cases hA
  · rw [h0] at hA; cases hA; exact ⟨h1, (Array.getElem?_eq_some_iff.1 hb).1⟩

theorem more_seq {v w : World} {x y : Ext} (h : More v (plus w x)) : More v (plus w (x.seq y)) := by
  rw [← plus_plus]; exact h.plus _

theorem more_draw {v w : World} {x : Ext} {n : Nat} (h : More v (plus w x)) : More v (plus w (x.draw n)) := h.drewN n

theorem one_cells {e : TypeId} (W : World) (b : Nat) (n : Int) (h0 : 0 ≤ n) (h1 : n ≤ 255) (hb : b = W.heap.size) : ∀ (j : Nat) (u : Value), (flat encB [UInt8.ofNat n.toNat])[j]? = some u → (W.alloc (.cells #[.int .u8 n] e)).cell? ⟨b, 0 + j, none⟩ = some u := by
  intro j u hj
  subst hb
  have hn : ((UInt8.ofNat n.toNat).toNat : Int) = n := by
    rw [UInt8.toNat_ofNat']
    omega
  have hl := (List.getElem?_eq_some_iff.1 hj).1
  rw [flat_len] at hl
  have : j = 0 := by simp [encB] at hl; exact hl
  subst this
  have e1 : flat encB [UInt8.ofNat n.toNat] = [.int .u8 ((UInt8.ofNat n.toNat).toNat : Int)] := rfl
  rw [e1, hn] at hj
  simp at hj
  subst hj
  rw [alloc_cell, if_neg (by omega), if_pos rfl]
  rfl

def bv (xs : List UInt8) (j : Nat) : Int := ((xs[j]?).getD 0).toNat

theorem bv_ok (xs : List UInt8) (j : Nat) : 0 ≤ bv xs j ∧ bv xs j ≤ 255 := by
  unfold bv
  have := ((xs[j]?).getD 0).toNat_lt
  omega

/-- the row after i swaps -/
def Rvc (cur : Array Value) (xs : List UInt8) (i : Nat) : Prop :=
  ∀ j, j < xs.length → cur[j]? = some (.int .u8 (if j < i ∨ xs.length - 1 - j < i then bv xs (xs.length - 1 - j) else bv xs j))

theorem Rvc.zero {cur : Array Value} {xs : List UInt8} (h : Row encB cur xs) : Rvc cur xs 0 := by
  intro j hj
  rw [if_neg (by omega)]
  obtain ⟨x, hx⟩ : ∃ x, xs[j]? = some x := ⟨_, List.getElem?_eq_getElem hj⟩
  have : (flat encB xs)[j]? = some (.int .u8 (x.toNat : Int)) := by rw [flatB]; simp [hx]
  rw [h j _ this]
  simp [bv, hx]

theorem Rvc.lo {cur : Array Value} {xs : List UInt8} {i : Nat} (h : Rvc cur xs i) (hi : i < xs.length / 2) : cur[i]? = some (.int .u8 (bv xs i)) := by
  rw [h i (by omega), if_neg (by omega)]

theorem Rvc.hi {cur : Array Value} {xs : List UInt8} {i : Nat} (h : Rvc cur xs i) (hi : i < xs.length / 2) : cur[xs.length - 1 - i]? = some (.int .u8 (bv xs (xs.length - 1 - i))) := by
  rw [h _ (by omega), if_neg (by omega)]

theorem Rvc.step {cur : Array Value} {xs : List UInt8} {i : Nat} (h : Rvc cur xs i) (hi : i < xs.length / 2) (hs : xs.length ≤ cur.size) :
    Rvc ((cur.setIfInBounds i (.int .u8 (bv xs (xs.length - 1 - i)))).setIfInBounds (xs.length - 1 - i) (.int .u8 (bv xs i))) xs (i + 1) := by
  intro j hj
  simp only [Array.getElem?_setIfInBounds, Array.size_setIfInBounds]
  by_cases e1 : xs.length - 1 - i = j
  · rw [if_pos e1, if_pos (by omega), if_pos (by omega), show xs.length - 1 - j = i by omega]
  · rw [if_neg e1]
    by_cases e2 : i = j
    · rw [if_pos e2, if_pos (by omega), if_pos (by omega), e2]
    · rw [if_neg e2, h j hj]
      by_cases e3 : j < i ∨ xs.length - 1 - j < i
      · rw [if_pos e3, if_pos (by omega)]
      · rw [if_neg e3, if_neg (by omega)]

theorem Rvc.done {cur : Array Value} {xs : List UInt8} {i : Nat} (h : Rvc cur xs i) (hi : ¬ i < xs.length / 2) : Row encB cur xs.reverse := by
  refine row_of encB _ _ fun j x hx k hk => ?_
  have hk' : k < 1 := hk
  obtain rfl : k = 0 := by omega
  have hj : j < xs.length := by simpa using (List.getElem?_eq_some_iff.1 hx).1
  have hb : bv xs (xs.length - 1 - j) = x.toNat := by
    rw [List.getElem?_reverse hj] at hx
    simp [bv, hx]
  show cur[j * 1 + 0]? = some (.int .u8 (x.toNat : Int))
  rw [show j * 1 + 0 = j by omega, h j hj, ← hb]
  split
  · rfl
  · rw [show xs.length - 1 - j = j by omega]

theorem lkw_of {l : Int} {ps : List Pr} {c0 c : Int} {bs : List UInt8} (hc : ¬ two l + 1 < c) (h : wb l (wordsL l ps) c0 = wb l (wordsL l ps) c ++ bs.reverse) :
    lkw l (wordsL l ps) c0 = ⟨((bs ++ [UInt8.ofNat c.toNat]).reverse).toArray⟩ := by
  rw [wb_lit hc] at h
  have : (lkw l (wordsL l ps) c0).data = ((bs ++ [UInt8.ofNat c.toNat]).reverse).toArray := by
    rw [← Array.toArray_toList (xs := (lkw l (wordsL l ps) c0).data), show (lkw l (wordsL l ps) c0).data.toList = _ from h]
    simp
  rw [← this]

set_option maxRecDepth 100000 in
set_option maxHeartbeats 4000000 in
theorem l2Word_any (o l m : Int) (a : Option Addr) (cap : Nat) (ps : List Pr) (base last : Int) (c0 : Int) (w : World) (hr : RdP w a cap ps) (hkv : KV o l m ps base last) (hc0 : hw l ps.length c0 = true) :
    Calls Try.prog 99 #[.agg #[.int .i64 o, .int .i64 l, .int .i64 m, .slice a ps.length cap, .int .i64 base, .int .i64 last], .int .i64 c0] w (Ret w (.string (lkw l (wordsL l ps) c0))) := by
  have hs := hkv.s
  have hn := kv_len (kvb_iff.2 hkv)
  obtain ⟨_, l1, l2, _, _⟩ := sv_iff.1 hs
  obtain ⟨t1, t2⟩ := two_lit l1 l2
  have la : 0 ≤ l := by omega
  have lb : l ≤ 10 := by omega
  obtain ⟨i0, hi, hz0, hz1, hz2⟩ := info_parts infoByte
  obtain ⟨r1, r2, r3⟩ := hr.open
  have HKV := Lib.hid hkv
  clear hkv
  go_enter Try.func99, Try.ntmps99
  go_wp2_with fail
  go_loopw [1, 5] (fun q s wr => ∃ (c : Int) (bs : List UInt8) (A : Option Addr) (cp : Nat), hw l ps.length c = true ∧ q = .int .i64 c ∧ s = .slice A bs.length cp ∧ Own encB 5 wr A cp bs (w.heap.size + 1) ∧
      wb l (wordsL l ps) c0 = wb l (wordsL l ps) c ++ bs.reverse ∧ Below (w.heap.size + 1) (w.alloc (.cells #[.int .i64 o, .int .i64 l, .int .i64 m, .slice a ps.length cap, .int .i64 base, .int .i64 last] 31)) wr) (fun q _ _ => (intOf q).toNat)
  case atStart => exact ⟨c0, [], some ⟨w.heap.size + 1, 0, none⟩, 0, hc0, rfl, rfl, Own.newAt (by simp) (by omega) rfl (row_of encB _ _ (fun i x h => by simp at h)) (by simp) (by omega), by simp, Below.alloc (Below.refl _ _) (by simp) _⟩
  case round =>
    obtain ⟨c, bs, A, cp, hcw, rfl, rfl, hown, hwb, hbl⟩ := hrel
    have hrule := below_rule hbl
    have hsz : w.heap.size + 1 ≤ wr.heap.size := by have := hbl.size; simp at this; exact this
    have HB := Lib.hid hbl
    have HO := Lib.hid hown
    have HW := Lib.hid hwb
    have hbs : bs.length ≤ 3000 := by
      have h1 := congrArg List.length hwb
      have h2 := wb_len hc0
      simp at h1
      omega
    have hAlt := fun A hA => (own_lt hown A hA).2
    have hAlo := fun A hA => (own_lt hown A hA).1
    clear hbl hown hwb
    rcases dec (two l + 1 < c) with ⟨g1, v1⟩ | ⟨g1, v1⟩
    · have hidx : (c - (two l + 1)).toNat - 1 < ps.length := by have := hw_iff.1 hcw; omega
      have hex : ∃ p, ps[(c - (two l + 1)).toNat - 1]? = some p := ⟨_, List.getElem?_eq_getElem hidx⟩
      obtain ⟨p, hp⟩ := hex
      obtain ⟨ok1, ok2, ok3⟩ := HKV.out.ok _ p hp
      have okw := hw_iff.1 ok1
      have hcw2 := hw_iff.1 hcw
      rcases r3 with rfl | ⟨b, off, rfl, hb, hc⟩
      · exact absurd hidx (by omega)
      obtain ⟨c1, c2⟩ := hc _ p hp
      have hpre : two l + 1 < p.p → (p.p - (two l + 1)).toNat - 1 < (c - (two l + 1)).toNat - 1 := by omega
      have HP := Lib.hid (wb_pair (l := l) g1 hp hpre)
      have HN := Lib.hid (show hw l ps.length p.p = true from hw_iff.2 (by omega))
      have hdec : p.p < c := by omega
      have hb3 : p.b ≤ 255 := by omega
      clear hp hc okw hcw2 hpre ok1
      go_wp2_with fail
      refine (l1End_any _ _ _ la lb _).mono ?_
      rintro e w' ⟨rfl, x1, rfl⟩
      go_wp2_with fail
      refine wp_region_plan (fun w' => ∃ y, w' = plus (plus wr x1) y) (Plan.quiet 0 (Plan.quiet 1 (Plan.quiet 2 (Plan.quiet 3 (Plan.quiet 4 (Plan.two 5 (Plan.quiet 6 (Plan.quiet 7 (Plan.quiet 8 (Plan.quiet 9 (Plan.one 10 (Plan.one 11 Plan.done)))))) 10 (Plan.one 5 (Plan.quiet 6 (Plan.quiet 7 (Plan.quiet 8 (Plan.quiet 9 (Plan.one 11 Plan.done)))))))))))) (by kernel_rfl) (by kernel_rfl) ⟨_, drew_is_plus _⟩ ?_
      refine wpPlan_quiet (.pointer (some ⟨w.heap.size, 3, none⟩)) rfl rfl (by rintro w' ⟨y, rfl⟩; simp [go_sem, ↓IntWalk.iteOmega, hrule, c1, c2] <;> first | done | (rw [IntWalk.i64_in _ (by omega)]) | trace_state) ?_
      refine wpPlan_quiet (.slice (some ⟨b, off, none⟩) ps.length cap) rfl rfl (by rintro w' ⟨y, rfl⟩; simp [go_sem, ↓IntWalk.iteOmega, hrule, c1, c2] <;> first | done | (rw [IntWalk.i64_in _ (by omega)]) | trace_state) ?_
      refine wpPlan_quiet (.int .i64 c) rfl rfl (by rintro w' ⟨y, rfl⟩; simp [go_sem, ↓IntWalk.iteOmega, hrule, c1, c2] <;> first | done | (rw [IntWalk.i64_in _ (by omega)]) | trace_state) ?_
      refine wpPlan_quiet (.pointer (some ⟨w.heap.size, 0, none⟩)) rfl rfl (by rintro w' ⟨y, rfl⟩; simp [go_sem, ↓IntWalk.iteOmega, hrule, c1, c2] <;> first | done | (rw [IntWalk.i64_in _ (by omega)]) | trace_state) ?_
      refine wpPlan_quiet (.agg #[.int .i64 o, .int .i64 l, .int .i64 m]) rfl rfl (by rintro w' ⟨y, rfl⟩; simp [go_sem, ↓IntWalk.iteOmega, hrule, c1, c2] <;> first | done | (rw [IntWalk.i64_in _ (by omega)]) | trace_state) ?_
      refine wpPlan_two rfl rfl rfl rfl (fun K hK => ?_) (fun K hK => ?_)
      · go_simp
        refine (l1End_any _ _ _ la lb _).mono ?_
        rintro e w' ⟨rfl, x2, rfl⟩
        refine hK _ _ (by repeat (first | exact More.refl _ | (with_reducible apply more_seq) | (with_reducible apply more_draw) | apply More.plus | apply More.alloc | apply More.drew)) ?_
        clear hK K
        refine wpPlan_quiet (.int .i64 (c - (two l + 1))) rfl rfl (by rintro w' ⟨y, rfl⟩; simp [go_sem, ↓IntWalk.iteOmega, hrule, c1, c2] <;> first | done | (rw [IntWalk.i64_in _ (by omega)]) | trace_state) ?_
        refine wpPlan_quiet (.int .i64 (c - (two l + 1) - 1)) rfl rfl (by rintro w' ⟨y, rfl⟩; simp [go_sem, ↓IntWalk.iteOmega, hrule, c1, c2] <;> first | done | (rw [IntWalk.i64_in _ (by omega)]) | trace_state) ?_
        refine wpPlan_quiet (.pointer (some ⟨b, off + ((c - (two l + 1)).toNat - 1) * 2, none⟩)) rfl rfl (by rintro w' ⟨y, rfl⟩; simp [go_sem, ↓IntWalk.iteOmega, hrule, c1, c2] <;> first | done | (rw [IntWalk.i64_in _ (by omega)]) | trace_state) ?_
        refine wpPlan_quiet (.agg #[.int .i64 p.p, .int .i64 p.b]) rfl rfl (by rintro w' ⟨y, rfl⟩; simp [go_sem, ↓IntWalk.iteOmega, hrule, c1, c2] <;> first | done | (rw [IntWalk.i64_in _ (by omega)]) | trace_state) ?_
        refine wpPlan_one rfl rfl (fun K hK => ?_)
        go_simp
        refine hK _ _ (by repeat (first | exact More.refl _ | (with_reducible apply more_seq) | (with_reducible apply more_draw) | apply More.plus | apply More.alloc | apply More.drew)) ?_
        clear hK K
        refine wpPlan_one rfl rfl (fun K hK => ?_)
        go_simp
        refine hK _ _ (by repeat (first | exact More.refl _ | (with_reducible apply more_seq) | (with_reducible apply more_draw) | apply More.plus | apply More.alloc | apply More.drew)) ?_
        clear hK K
        refine NoPanic.normal ?_
        go_wp2_with (at_builtin; refine wpList_append_more encB _ _ _ _ i0 _ 1 rfl rfl Try.underlying88 hi hz0 hz1 hz2 rfl (by decide) bs A cp (w.heap.size + 1) (by repeat (first | exact HO.out | apply Own.plus | apply Own.alloc | apply Own.drew)) rfl [UInt8.ofNat p.b.toNat] _ 0 1 (one_cells _ _ p.b ok2 hb3 (by simp)) rfl (by simp <;> omega) (by simp <;> omega) (by simp <;> omega) ?_; intro A' c' w2 hown2 hgrew; have HO2 := Lib.hid hown2; have hrule2 := grew_rule hgrew hAlt; have HG := Lib.hid hgrew; clear hown2 hgrew)
        go_outline
        go_roundw
        case rel => exact ⟨p.p, bs ++ [UInt8.ofNat p.b.toNat], A', c', HN.out, rfl, by simp, HO2.out, by rw [HW.out, HP.out]; simp, by refine HB.out.trans (Below.trans ?_ (HG.out.below (by simp <;> omega) hAlo)); exact (by repeat (first | exact Below.refl _ _ | refine below_plus ?_ (by first | omega | (simp <;> omega)) _ | refine Below.alloc ?_ (by first | omega | (simp <;> omega)) _ | refine below_patch ?_ (by omega) _ | refine Below.drew ?_))⟩
        case measure => simp [intOf]; omega
      · go_simp
        refine hK _ _ (by repeat (first | exact More.refl _ | (with_reducible apply more_seq) | (with_reducible apply more_draw) | apply More.plus | apply More.alloc | apply More.drew)) ?_
        clear hK K
        refine wpPlan_one rfl rfl (fun K hK => ?_)
        go_simp
        refine (l1End_any _ _ _ la lb _).mono ?_
        rintro e w' ⟨rfl, x2, rfl⟩
        refine hK _ _ (by repeat (first | exact More.refl _ | (with_reducible apply more_seq) | (with_reducible apply more_draw) | apply More.plus | apply More.alloc | apply More.drew)) ?_
        clear hK K
        refine wpPlan_quiet (.int .i64 (c - (two l + 1))) rfl rfl (by rintro w' ⟨y, rfl⟩; simp [go_sem, ↓IntWalk.iteOmega, hrule, c1, c2] <;> first | done | (rw [IntWalk.i64_in _ (by omega)]) | trace_state) ?_
        refine wpPlan_quiet (.int .i64 (c - (two l + 1) - 1)) rfl rfl (by rintro w' ⟨y, rfl⟩; simp [go_sem, ↓IntWalk.iteOmega, hrule, c1, c2] <;> first | done | (rw [IntWalk.i64_in _ (by omega)]) | trace_state) ?_
        refine wpPlan_quiet (.pointer (some ⟨b, off + ((c - (two l + 1)).toNat - 1) * 2, none⟩)) rfl rfl (by rintro w' ⟨y, rfl⟩; simp [go_sem, ↓IntWalk.iteOmega, hrule, c1, c2] <;> first | done | (rw [IntWalk.i64_in _ (by omega)]) | trace_state) ?_
        refine wpPlan_quiet (.agg #[.int .i64 p.p, .int .i64 p.b]) rfl rfl (by rintro w' ⟨y, rfl⟩; simp [go_sem, ↓IntWalk.iteOmega, hrule, c1, c2] <;> first | done | (rw [IntWalk.i64_in _ (by omega)]) | trace_state) ?_
        refine wpPlan_one rfl rfl (fun K hK => ?_)
        go_simp
        refine hK _ _ (by repeat (first | exact More.refl _ | (with_reducible apply more_seq) | (with_reducible apply more_draw) | apply More.plus | apply More.alloc | apply More.drew)) ?_
        clear hK K
        refine NoPanic.normal ?_
        go_wp2_with (at_builtin; refine wpList_append_more encB _ _ _ _ i0 _ 1 rfl rfl Try.underlying88 hi hz0 hz1 hz2 rfl (by decide) bs A cp (w.heap.size + 1) (by repeat (first | exact HO.out | apply Own.plus | apply Own.alloc | apply Own.drew)) rfl [UInt8.ofNat p.b.toNat] _ 0 1 (one_cells _ _ p.b ok2 hb3 (by simp)) rfl (by simp <;> omega) (by simp <;> omega) (by simp <;> omega) ?_; intro A' c' w2 hown2 hgrew; have HO2 := Lib.hid hown2; have hrule2 := grew_rule hgrew hAlt; have HG := Lib.hid hgrew; clear hown2 hgrew)
        go_outline
        go_roundw
        case rel => exact ⟨p.p, bs ++ [UInt8.ofNat p.b.toNat], A', c', HN.out, rfl, by simp, HO2.out, by rw [HW.out, HP.out]; simp, by refine HB.out.trans (Below.trans ?_ (HG.out.below (by simp <;> omega) hAlo)); exact (by repeat (first | exact Below.refl _ _ | refine below_plus ?_ (by first | omega | (simp <;> omega)) _ | refine Below.alloc ?_ (by first | omega | (simp <;> omega)) _ | refine below_patch ?_ (by omega) _ | refine Below.drew ?_))⟩
        case measure => simp [intOf]; omega
    · have okw := hw_iff.1 hcw
      have ok1 : 0 ≤ c := by omega
      have ok2 : c ≤ 255 := by omega
      go_wp2_with fail
      refine (l1End_any _ _ _ la lb _).mono ?_
      rintro e w' ⟨rfl, x1, rfl⟩
      go_wp2_with (at_builtin; refine wpList_append_more encB _ _ _ _ i0 _ 1 rfl rfl Try.underlying88 hi hz0 hz1 hz2 rfl (by decide) bs A cp (w.heap.size + 1) (by repeat (first | exact HO.out | apply Own.plus | apply Own.alloc | apply Own.drew)) rfl [UInt8.ofNat c.toNat] _ 0 1 (one_cells _ _ c ok1 ok2 (by simp)) rfl (by simp <;> omega) (by simp <;> omega) (by simp <;> omega) ?_; intro A' c' w2 hown2 hgrew; have HO2 := Lib.hid hown2; have hrule2 := grew_rule hgrew hAlt; have HG := Lib.hid hgrew; clear hown2 hgrew)
      have hval := Lib.hid (lkw_of (by omega) HW.out)
      have hgr := Lib.hid (show Below (w.heap.size + 1) (w.alloc (.cells #[.int .i64 o, .int .i64 l, .int .i64 m, .slice a ps.length cap, .int .i64 base, .int .i64 last] 31)) w2 by refine HB.out.trans (Below.trans ?_ (HG.out.below (by simp <;> omega) hAlo)); exact (by repeat (first | exact Below.refl _ _ | refine below_plus ?_ (by first | omega | (simp <;> omega)) _ | refine Below.alloc ?_ (by first | omega | (simp <;> omega)) _ | refine below_patch ?_ (by omega) _ | refine Below.drew ?_)))
      obtain ⟨b', cur, rfl, hb'1, hb'3, hb'2, hcs, hrow, hle, hcap⟩ := own_some HO2.out (by simp)
      have hlen := Lib.hid (show (bs ++ [UInt8.ofNat c.toNat]).length = bs.length + 1 by simp)
      generalize bs ++ [UInt8.ofNat c.toNat] = xs at *
      have hxl := hlen.out
      rw [← hxl]
      clear hlen
      have hxb : xs.length ≤ 3001 := by omega
      have hx0 : 0 < xs.length := by omega
      clear hxl
      have hcs' : cur.size = c' := by simpa [encB] using hcs
      have HR := Lib.hid (Rvc.zero hrow)
      have HBK := Lib.hid hb'2
      have HHL := Lib.hid hcap
      clear hrow hcap
      go_loopw [7] (fun i wr2 => ∃ (k : Nat) (cu : Array Value), k ≤ xs.length / 2 ∧ i = .int .i64 k ∧ cu.size = c' ∧ Rvc cu xs k ∧ wr2 = patch w2 b' (.cells cu 5)) (fun i _ => xs.length - (intOf i).toNat)
      case atStart => exact ⟨0, cur, Nat.zero_le _, rfl, hcs', HR.out, (patch_self w2 b' _ HBK.out).symm⟩
      case round =>
        obtain ⟨k, cu, hk, rfl, hcu, hrv, rfl⟩ := hrel
        rcases dec ((k : Int) < (xs.length : Int) / 2) with ⟨g2, v2⟩ | ⟨g2, v2⟩
        · have hk2 : k < xs.length / 2 := by omega
          have hlo := hrv.lo hk2
          have hhi := hrv.hi hk2
          have HRS := Lib.hid (hrv.step hk2 (by omega))
          obtain ⟨y1, y2⟩ := bv_ok xs k
          obtain ⟨y3, y4⟩ := bv_ok xs (xs.length - 1 - k)
          clear hrv
          have hhx : ∃ z, (cu.setIfInBounds k (.int .u8 (bv xs (xs.length - 1 - k))))[xs.length - 1 - k]? = some z := ⟨_, Array.getElem?_eq_getElem (by simp; omega)⟩
          obtain ⟨z, hhi2⟩ := hhx
          go_wp2_with fail
          go_roundw
          case rel => exact ⟨k + 1, _, by omega, by simp, by simp [hcu], HRS.out, by first | rfl | rw [patch_patch]⟩
          case measure => simp [intOf]; omega
        · have hrd : Rd encB (patch w2 b' (.cells cu 5)) (some ⟨b', 0, none⟩) c' xs.reverse := rd_patched hb'3 (hrv.done (by omega)) (by simpa using hle) HHL.out
          have hst := run_str (P := Try.prog) Try.underlying88 Try.underlying5 Try.underlying9 hrd (by simpa using hx0)
          rw [List.length_reverse] at hst
          have HF := Lib.hid (below_patch hgr.out hb'1 (.cells cu 5))
          clear hrv hrd
          go_wp2_with fail
          go_ret
          exact ⟨congrArg (fun s => Ending.returned (Value.string s)) hval.out.symm, below_more (Below.trans (Below.alloc (Below.refl _ _) (Nat.le_refl _) _) (HF.out.mono (by omega)))⟩

end Go.Proofs.Ytbedikodiboofaa
