/- The program's text of what is known. -/
import Derived.Test.YtmddcbebaijjkaaGreatDoorFks
namespace Go.Proofs.YtmddcbebaijjkaaGreatDoor
open Go.RowKit
set_option linter.unusedVariables false
set_option linter.unusedSimpArgs false

theorem implFormatKnown_no (o l m : Int) (a : Option Addr) (cap : Nat) (ps : List Pr) (base last : Int) (w : World) (hr : RdP w a cap ps) (hk : kvb o l m ps base last = false) :
    Calls Tryz.prog 22 #[.agg #[.int .i64 o, .int .i64 l, .int .i64 m, .slice a ps.length cap, .int .i64 base, .int .i64 last]] w (Ret w (.string ⟨#[]⟩)) := by
  have HR := Lib.hid (show Rd encP w a cap ps from hr)
  clear hr
  go_enter Tryz.func22, Tryz.ntmps22
  go_wp2_with fail
  refine (KnownValid_any o l m a cap ps base last _ (by (try unfold RdP); repeat (first | (with_reducible exact HR.out) | (with_reducible apply rd_seq) | (with_reducible apply Rd.plus) | (with_reducible apply Rd.alloc) | (with_reducible apply Rd.drew) | (with_reducible apply Rd.drewN)))).mono ?_
  rintro e w' ⟨rfl, x1, rfl⟩
  rw [hk]
  go_wp2
  go_ret
  exact ret_of rfl (by repeat (first | exact More.refl _ | apply More.plus | apply More.alloc | apply More.drew | apply More.drewN))

theorem wp_nmF {P : Program} {c : Code} {Q : Exit → Act → World → Prop} {a : Act} {W : World} (F : World → Prop) (hF : F W) (h : ∀ X, F X → c.wp P Q a X) : c.wp P Q a W := h W hF

theorem pushF (w : World) (o : Obj) (n : Nat) (h : n = w.heap.size) : (w.alloc o).heap[n]? = some o := by
  subst h
  exact Array.getElem?_push_size

theorem plusF {w : World} {n : Nat} {o : Obj} (h : w.heap[n]? = some o) (x : Ext) : (plus w x).heap[n]? = some o := by
  rw [plus_block _ _ (Array.getElem?_eq_some_iff.1 h).1]; exact h

theorem allocF {w : World} {n : Nat} {o : Obj} (h : w.heap[n]? = some o) (o2 : Obj) : (w.alloc o2).heap[n]? = some o := by
  rw [alloc_plus]; exact plusF h _

theorem drewF {w : World} {n : Nat} {o : Obj} (h : w.heap[n]? = some o) : w.drew.heap[n]? = some o := h

theorem rdF {α : Type} {E : Enc α} {w w' : World} {a : Option Addr} {cap : Nat} {xs : List α} (h : Rd E w a cap xs) (hb : Below w.heap.size w w') : Rd E w' a cap xs :=
  h.of_block fun A hA hs => ⟨by have := hb.size; omega, hb.block _ hs⟩

theorem blk_mo {W W' : World} {b : Nat} {ob : Obj} (h : W.heap[b]? = some ob) (hm : More W W') : W'.heap[b]? = some ob :=
  by rw [(more_below hm).block b (Array.getElem?_eq_some_iff.1 h).1]; exact h

theorem Tb.more {W W' : World} (h : Tb W) (hm : More W W') : Tb W' := h.below (more_below hm)

theorem Join_any (bk c n : Nat) (xs : List ByteArray) (sep : ByteArray) (w : World) (hn : n = xs.length) (hc : ∀ (j : Nat) (x : ByteArray), xs[j]? = some x → w.cell? ⟨bk, j, none⟩ = some (.string x)) (hb : bk < w.heap.size) (hl : xs.length ≤ 100000) (hcap : xs.length ≤ c) (hz : (joinB sep xs).size ≤ 10000000) :
    Calls Tryz.prog 51 #[.slice (some ⟨bk, 0, none⟩) n c, .string sep] w (Ret w (.string (joinB sep xs))) := by
  subst hn
  have hj := joinB_lib sep xs
  refine (Tryz.strings_Join bk 0 c xs sep w (fun j x h => by rw [Nat.zero_add]; exact hc j x h) hb (by omega) hcap ?_).mono ?_
  · have := congrArg ByteArray.size hj
    rw [← this] at hz
    have h2 : (Lib.join (xs.map (·.data.toList)) sep.data.toList).length ≤ 10000000 := by simpa [ByteArray.size] using hz
    omega
  · rintro e w' ⟨rfl, hbl⟩
    exact ⟨by rw [hj], below_more hbl⟩

theorem cells_str {w : World} {b : Nat} {xs : List ByteArray} {e : TypeId} (hb : w.heap[b]? = some (.cells (xs.map Value.string).toArray e (0, 0))) : ∀ (j : Nat) (x : ByteArray), xs[j]? = some x → w.cell? ⟨b, j, none⟩ = some (.string x) := by
  intro j x h
  rw [cell_of hb, List.getElem?_toArray, List.getElem?_map, h]
  rfl

theorem uts_next {cur : Array Value} {ss : List ByteArray} {k : Nat} {s : ByteArray} (h : UpToS cur ss k) (hs : ss[k]? = some s) (hk : k < cur.size) : UpToS (cur.setIfInBounds k (.string s)) ss (k + 1) := by
  intro i t hi hlt
  rw [Array.getElem?_setIfInBounds]
  by_cases e : k = i
  · subst e
    rw [if_pos rfl, if_pos hk]
    rw [hs] at hi
    cases hi
    rfl
  · rw [if_neg e]
    exact h i t hi (by omega)

/-- what is known in a block, and texts in block C -/
structure FW (w wr : World) (C : Nat) (ob : Obj) (cur : Array Value) : Prop where
  kn : wr.heap[w.heap.size]? = some ob
  blk : wr.heap[C]? = some (.cells cur 9 (0, 0))
  bel : Below w.heap.size w wr
  low : w.heap.size < C

theorem FW.lt {w wr : World} {C : Nat} {ob : Obj} {cur : Array Value} (h : FW w wr C ob cur) : C < wr.heap.size := (Array.getElem?_eq_some_iff.1 h.blk).1

theorem FW.more {w wr wr' : World} {C : Nat} {ob : Obj} {cur : Array Value} (h : FW w wr C ob cur) (hm : More wr wr') : FW w wr' C ob cur :=
  ⟨blk_mo h.kn hm, blk_mo h.blk hm, h.bel.trans ((more_below hm).mono (by have := h.bel.size; omega)), h.low⟩

theorem FW.patch {w wr : World} {C : Nat} {ob : Obj} {cur cur2 : Array Value} (h : FW w wr C ob cur) : FW w (Go.Proofs.YtmddcbebaijjkaaGreatDoor.patch wr C (.cells cur2 9 (0, 0))) C ob cur2 :=
  ⟨(patch_other _ _ _ (by have := h.low; omega)).trans h.kn, patch_at _ _ _ h.lt, below_patch h.bel (by have := h.low; omega) _, h.low⟩

set_option maxRecDepth 100000 in
set_option maxHeartbeats 4000000 in
theorem implFormatKnown_yes (o l m : Int) (a : Option Addr) (cap : Nat) (ps : List Pr) (base last : Int) (w : World) (hr : RdP w a cap ps) (hk : kvb o l m ps base last = true) (ht : Tb w) :
    Calls Tryz.prog 22 #[.agg #[.int .i64 o, .int .i64 l, .int .i64 m, .slice a ps.length cap, .int .i64 base, .int .i64 last]] w (Ret w (.string (knT o l m ps base last))) := by
  have hkv := kvb_iff.1 hk
  obtain ⟨n1, hb, hla, hps⟩ := hkv.nums
  have hs := hkv.s
  have HR := Lib.hid (show Rd encP w a cap ps from hr)
  have HT := Lib.hid ht
  obtain ⟨i0, hi, hz0, hz1, hz2⟩ := info_parts infoString
  have hmk : ∀ W : World, (Instr.makeSlice 51 (.int .i64 (ps.length : Int)) (.int .i64 (ps.length : Int))).run Tryz.prog W = .ok (.slice (some ⟨W.heap.size, 0, none⟩) ps.length ps.length) (W.alloc (.cells (madeCells (Value.string ⟨#[]⟩).cells ps.length) 9)) := by
    intro W
    have := run_make (P := Tryz.prog) (w := W) 51 9 i0 _ Tryz.underlying51 hi hz0 .i64 .i64 (ps.length : Int) (ps.length : Int) (by omega) (by omega) (by rw [hz2]; omega) (by omega)
    rw [hz1] at this
    simpa using this
  clear hr ht
  go_enter Tryz.func22, Tryz.ntmps22
  go_wp2_with fail
  refine (KnownValid_any o l m a cap ps base last _ (by (try unfold RdP); repeat (first | (with_reducible exact HR.out) | (with_reducible apply rd_seq) | (with_reducible apply Rd.plus) | (with_reducible apply Rd.alloc) | (with_reducible apply Rd.drew) | (with_reducible apply Rd.drewN)))).mono ?_
  rintro e w' ⟨rfl, x1, rfl⟩
  rw [hk]
  clear hk
  go_wp2_with fail
  refine wp_nmF (fun X => FW w X (w.heap.size + 1 + x1.n) (.cells #[.int .i64 o, .int .i64 l, .int .i64 m, .slice a ps.length cap, .int .i64 base, .int .i64 last] 26 (0, 0)) (madeCells (Value.string ⟨#[]⟩).cells ps.length)) ⟨(by repeat (first | (with_reducible exact pushF _ _ _ rfl) | (with_reducible exact pushF _ _ _ (by simp)) | (with_reducible apply plusF) | (with_reducible apply allocF) | (with_reducible apply drewF))), pushF _ _ _ (by simp), (by repeat (first | exact Below.refl _ _ | refine below_plus ?_ (by first | omega | (simp <;> omega)) _ | refine Below.alloc ?_ (by first | omega | (simp <;> omega)) _ | refine below_patch ?_ (by omega) _ | refine Below.drew ?_)), by omega⟩ ?_
  generalize w.heap.size + 1 + x1.n = C
  intro X hX
  go_loopw [16] (fun i wr => ∃ (k : Nat) (cur : Array Value), k ≤ ps.length ∧ i = .int .i64 k ∧ cur.size = ps.length ∧ UpToS cur (ps.map prT) k ∧ FW w wr C (.cells #[.int .i64 o, .int .i64 l, .int .i64 m, .slice a ps.length cap, .int .i64 base, .int .i64 last] 26 (0, 0)) cur) (fun i _ => ps.length - (intOf i).toNat)
  case atStart => exact ⟨0, _, Nat.zero_le _, rfl, by simp [size_madeCells], UpToS.zero _ _, hX⟩
  case round =>
    obtain ⟨k, cur, hk, rfl, hcs, hup, hf⟩ := hrel
    clear hX X
    have HF := Lib.hid hf
    have HT2 := Lib.hid (HT.out.below hf.bel)
    have hR2 := rdF HR.out hf.bel
    obtain ⟨r1, r2, r3⟩ := RdP.open (show RdP _ a cap ps from hR2)
    have hlo := hf.low
    have hC := hf.lt
    clear hf hR2
    rcases dec (k < ps.length) with ⟨hlt, blt⟩ | ⟨hlt, blt⟩
    · have hex : ∃ p, ps[k]? = some p := ⟨ps[k], List.getElem?_eq_getElem hlt⟩
      obtain ⟨p, hp⟩ := hex
      rcases r3 with rfl | ⟨b, off, rfl, hb', hc⟩
      · exact absurd hlt (by omega)
      · obtain ⟨c1, c2⟩ := hc k p hp
        obtain ⟨hpp, hpb⟩ := hps k p hp
        have z1 := hpp.size
        have z2 := hpb.size
        have HU := Lib.hid (uts_next hup (show (ps.map prT)[k]? = some (prT p) by rw [List.getElem?_map, hp]; rfl) (by omega))
        have HCS := Lib.hid hcs
        obtain ⟨v, hv⟩ := get_some (cur := cur) (i := k) (by omega)
        clear hp hc hup hcs
        go_wp2_with fail
        refine wp_region_pt 10 (fun w' => w'.heap[wr.heap.size]? = some (.cells #[.int .i64 p.p, .int .i64 p.b] 81 (0, 0))) (Plan.quiet 0 (Plan.quiet 1 (Plan.quiet 2 (Plan.quiet 3 (Plan.quiet 6 (Plan.quiet 7 (Plan.one 4 (Plan.quiet 5 (Plan.one 8 (Plan.quiet 9 (Plan.one 10 (Plan.one 11 Plan.done)))))))))))) (by kernel_rfl) (by kernel_rfl) ((by repeat (first | (with_reducible exact pushF _ _ _ rfl) | (with_reducible exact pushF _ _ _ (by simp)) | (with_reducible apply plusF) | (with_reducible apply allocF) | (with_reducible apply drewF)))) ?_
        refine wpPt_val rfl rfl ?_
        apply Exists.intro
        refine ⟨fun w' hS => ?_, ?_⟩
        focus (have rS := cell_of hS; simp [go_sem, ↓IntWalk.iteOmega, rS] <;> first | done | exact rfl | (rw [IntWalk.i64_in _ (by omega)]; exact rfl) | trace_state)
        refine wpPt_val rfl rfl ?_
        apply Exists.intro
        refine ⟨fun w' hS => ?_, ?_⟩
        focus (have rS := cell_of hS; simp [go_sem, ↓IntWalk.iteOmega, rS] <;> first | done | exact rfl | (rw [IntWalk.i64_in _ (by omega)]; exact rfl) | trace_state)
        refine wpPt_val rfl rfl ?_
        apply Exists.intro
        refine ⟨fun w' hS => ?_, ?_⟩
        focus (have rS := cell_of hS; simp [go_sem, ↓IntWalk.iteOmega, rS] <;> first | done | exact rfl | (rw [IntWalk.i64_in _ (by omega)]; exact rfl) | trace_state)
        refine wpPt_val rfl rfl ?_
        apply Exists.intro
        refine ⟨fun w' hS => ?_, ?_⟩
        focus (have rS := cell_of hS; simp [go_sem, ↓IntWalk.iteOmega, rS] <;> first | done | exact rfl | (rw [IntWalk.i64_in _ (by omega)]; exact rfl) | trace_state)
        refine wpPt_val rfl rfl ?_
        apply Exists.intro
        refine ⟨fun w' hS => ?_, ?_⟩
        focus (have rS := cell_of hS; simp [go_sem, ↓IntWalk.iteOmega, rS] <;> first | done | exact rfl | (rw [IntWalk.i64_in _ (by omega)]; exact rfl) | trace_state)
        refine wpPt_val rfl rfl ?_
        apply Exists.intro
        refine ⟨fun w' hS => ?_, ?_⟩
        focus (have rS := cell_of hS; simp [go_sem, ↓IntWalk.iteOmega, rS] <;> first | done | exact rfl | (rw [IntWalk.i64_in _ (by omega)]; exact rfl) | trace_state)
        refine wpPt_one rfl rfl (fun K hK => ?_)
        go_simp
        refine (Itoa_sml _ _ hpp (by repeat (first | (with_reducible exact HT2.out) | (with_reducible apply tbq_seq) | (with_reducible apply Tb.plus) | (with_reducible apply Tb.alloc) | (with_reducible apply Tb.drew)))).mono ?_
        rintro e w4 ⟨rfl, hm4⟩
        have hm4 : More _ w4 := hm4
        have HF4 := Lib.hid ((HF.out.more ((by repeat (first | exact More.refl _ | apply More.plus | apply More.alloc | apply More.drew | apply More.drewN)))).more hm4)
        have HP4 := Lib.hid (blk_mo (ob := .cells #[.int .i64 p.p, .int .i64 p.b] 81 (0, 0)) (b := wr.heap.size) (by repeat (first | (with_reducible exact pushF _ _ _ rfl) | (with_reducible exact pushF _ _ _ (by simp)) | (with_reducible apply plusF) | (with_reducible apply allocF) | (with_reducible apply drewF))) hm4)
        have HT4 := Lib.hid (HT.out.below HF4.out.bel)
        clear hm4
        refine hK _ _ (fun hkn => HP4.out) ?_
        clear hK K
        refine wpPt_val rfl rfl ?_
        apply Exists.intro
        refine ⟨fun w' hS => ?_, ?_⟩
        focus (have rS := cell_of hS; simp [go_sem, ↓IntWalk.iteOmega, rS] <;> first | done | exact rfl | (rw [IntWalk.i64_in _ (by omega)]; exact rfl) | trace_state)
        refine wpPt_one rfl rfl (fun K hK => ?_)
        go_simp
        refine (Itoa_sml _ _ hpb (by repeat (first | (with_reducible exact HT4.out) | (with_reducible apply tbq_seq) | (with_reducible apply Tb.plus) | (with_reducible apply Tb.alloc) | (with_reducible apply Tb.drew)))).mono ?_
        rintro e w8 ⟨rfl, hm8⟩
        have hm8 : More _ w8 := hm8
        have HF8 := Lib.hid (HF4.out.more hm8)
        have HP8 := Lib.hid (blk_mo HP4.out hm8)
        have y8 := HF8.out.lt
        have r8 := cell_of HF8.out.blk
        have f8 := free_of HF8.out.blk
        have s8 := fun i v => setCell_patch HF8.out.blk i v
        clear hm8
        refine hK _ _ (fun hkn => HP8.out) ?_
        clear hK K
        refine wpPt_val rfl rfl ?_
        apply Exists.intro
        refine ⟨fun w' hS => ?_, ?_⟩
        focus (have rS := cell_of hS; simp [go_sem, ↓IntWalk.iteOmega, rS] <;> first | done | exact rfl | (rw [IntWalk.i64_in _ (by omega)]; exact rfl) | trace_state)
        refine wpPt_one rfl rfl (fun K hK => ?_)
        go_simp
        refine hK _ _ (fun hkn => absurd hkn (by decide)) ?_
        clear hK K
        refine wpPt_one rfl rfl (fun K hK => ?_)
        go_simp
        refine hK _ _ (fun hkn => absurd hkn (by decide)) ?_
        clear hK K
        refine NoPanic.normal ?_
        go_wp2_with fail
        go_roundw
        case rel => exact ⟨k + 1, _, by omega, by go_num, by simp [HCS.out], HU.out, HF8.out.patch⟩
        case measure => simp [intOf]; omega
    · obtain rfl : k = ps.length := by omega
      have zS := setT_size hs
      have zb := hb.size
      have zl := hla.size
      have zT := prsT_size hps ps.length (Nat.le_refl _)
      rw [prsT_all ps (Nat.le_refl _)] at zT
      have zO := orD_size (n := ps.length * 12 + 1) (by omega : (joinB ⟨#[44]⟩ (ps.map prT)).size ≤ _) (by omega)
      have HU := Lib.hid hup
      have HZ := Lib.hid (show (joinB ⟨#[59]⟩ [setT o l m, decB base, decB last, orD (joinB ⟨#[44]⟩ (ps.map prT))]).size ≤ 10000000 by
        rw [joinB_four, ByteArray.size_append, ByteArray.size_append, ByteArray.size_append, ByteArray.size_append, ByteArray.size_append, ByteArray.size_append]
        show _ + 1 + _ + 1 + _ + 1 + _ ≤ _
        omega)
      clear hup
      go_wp2_with fail
      refine wp_region_pt 14 (fun w' => w'.heap[w.heap.size]? = some (.cells #[.int .i64 o, .int .i64 l, .int .i64 m, .slice a ps.length cap, .int .i64 base, .int .i64 last] 26 (0, 0))) (Plan.quiet 0 (Plan.quiet 1 (Plan.quiet 3 (Plan.quiet 4 (Plan.quiet 6 (Plan.quiet 7 (Plan.quiet 9 (Plan.one 2 (Plan.one 5 (Plan.one 8 (Plan.one 10 (Plan.one 11 (Plan.one 12 (Plan.one 13 (Plan.one 14 Plan.done))))))))))))))) (by kernel_rfl) (by kernel_rfl) (drewF HF.out.kn) ?_
      refine wpPt_val rfl rfl ?_
      apply Exists.intro
      refine ⟨fun w' hS => ?_, ?_⟩
      focus (have rS := cell_of hS; simp [go_sem, ↓IntWalk.iteOmega, rS] <;> first | done | exact rfl | (rw [IntWalk.i64_in _ (by omega)]; exact rfl) | trace_state)
      refine wpPt_val rfl rfl ?_
      apply Exists.intro
      refine ⟨fun w' hS => ?_, ?_⟩
      focus (have rS := cell_of hS; simp [go_sem, ↓IntWalk.iteOmega, rS] <;> first | done | exact rfl | (rw [IntWalk.i64_in _ (by omega)]; exact rfl) | trace_state)
      refine wpPt_val rfl rfl ?_
      apply Exists.intro
      refine ⟨fun w' hS => ?_, ?_⟩
      focus (have rS := cell_of hS; simp [go_sem, ↓IntWalk.iteOmega, rS] <;> first | done | exact rfl | (rw [IntWalk.i64_in _ (by omega)]; exact rfl) | trace_state)
      refine wpPt_val rfl rfl ?_
      apply Exists.intro
      refine ⟨fun w' hS => ?_, ?_⟩
      focus (have rS := cell_of hS; simp [go_sem, ↓IntWalk.iteOmega, rS] <;> first | done | exact rfl | (rw [IntWalk.i64_in _ (by omega)]; exact rfl) | trace_state)
      refine wpPt_val rfl rfl ?_
      apply Exists.intro
      refine ⟨fun w' hS => ?_, ?_⟩
      focus (have rS := cell_of hS; simp [go_sem, ↓IntWalk.iteOmega, rS] <;> first | done | exact rfl | (rw [IntWalk.i64_in _ (by omega)]; exact rfl) | trace_state)
      refine wpPt_val rfl rfl ?_
      apply Exists.intro
      refine ⟨fun w' hS => ?_, ?_⟩
      focus (have rS := cell_of hS; simp [go_sem, ↓IntWalk.iteOmega, rS] <;> first | done | exact rfl | (rw [IntWalk.i64_in _ (by omega)]; exact rfl) | trace_state)
      refine wpPt_val rfl rfl ?_
      apply Exists.intro
      refine ⟨fun w' hS => ?_, ?_⟩
      focus (have rS := cell_of hS; simp [go_sem, ↓IntWalk.iteOmega, rS] <;> first | done | exact rfl | (rw [IntWalk.i64_in _ (by omega)]; exact rfl) | trace_state)
      refine wpPt_one rfl rfl (fun K hK => ?_)
      go_simp
      refine (FormatSetting_any o l m _ hs (by repeat (first | (with_reducible exact HT2.out) | (with_reducible apply tbq_seq) | (with_reducible apply Tb.plus) | (with_reducible apply Tb.alloc) | (with_reducible apply Tb.drew)))).mono ?_
      rintro e w2 ⟨rfl, hm2⟩
      have hm2 : More _ w2 := hm2
      have HF2 := Lib.hid ((HF.out.more ((by repeat (first | exact More.refl _ | apply More.plus | apply More.alloc | apply More.drew | apply More.drewN)))).more hm2)
      have HT4 := Lib.hid (HT.out.below HF2.out.bel)
      clear hm2
      refine hK _ _ (fun hkn => HF2.out.kn) ?_
      clear hK K
      refine wpPt_one rfl rfl (fun K hK => ?_)
      go_simp
      refine (Itoa_sml _ _ hb (by repeat (first | (with_reducible exact HT4.out) | (with_reducible apply tbq_seq) | (with_reducible apply Tb.plus) | (with_reducible apply Tb.alloc) | (with_reducible apply Tb.drew)))).mono ?_
      rintro e w5 ⟨rfl, hm5⟩
      have hm5 : More _ w5 := hm5
      have HF5 := Lib.hid (HF2.out.more hm5)
      have HT5 := Lib.hid (HT.out.below HF5.out.bel)
      clear hm5
      refine hK _ _ (fun hkn => HF5.out.kn) ?_
      clear hK K
      refine wpPt_one rfl rfl (fun K hK => ?_)
      go_simp
      refine (Itoa_sml _ _ hla (by repeat (first | (with_reducible exact HT5.out) | (with_reducible apply tbq_seq) | (with_reducible apply Tb.plus) | (with_reducible apply Tb.alloc) | (with_reducible apply Tb.drew)))).mono ?_
      rintro e w8 ⟨rfl, hm8⟩
      have hm8 : More _ w8 := hm8
      have HF8 := Lib.hid (HF5.out.more hm8)
      clear hm8
      refine hK _ _ (fun hkn => HF8.out.kn) ?_
      clear hK K
      refine wpPt_one rfl rfl (fun K hK => ?_)
      go_simp
      refine (Join_any C ps.length ps.length (ps.map prT) ⟨#[44]⟩ w8 (by rw [List.length_map]) (fun j x h => by rw [cell_of HF8.out.blk]; exact HU.out j x h (by have := (List.getElem?_eq_some_iff.1 h).1; rw [List.length_map] at this; exact this)) HF8.out.lt (by rw [List.length_map]; omega) (by rw [List.length_map]; exact Nat.le_refl _) (by omega)).mono ?_
      rintro e w10 ⟨rfl, hm10⟩
      have hm10 : More _ w10 := hm10
      have HF10 := Lib.hid (HF8.out.more hm10)
      clear hm10
      refine hK _ _ (fun hkn => HF10.out.kn) ?_
      clear hK K
      refine wpPt_one rfl rfl (fun K hK => ?_)
      go_simp
      refine (orDash_any _ _).mono ?_
      rintro e w11 ⟨rfl, hm11⟩
      have hm11 : More _ w11 := hm11
      have HF11 := Lib.hid (HF10.out.more hm11)
      clear hm11
      refine hK _ _ (fun hkn => HF11.out.kn) ?_
      clear hK K
      refine wpPt_one rfl rfl (fun K hK => ?_)
      go_simp
      refine hK _ _ (fun hkn => allocF HF11.out.kn _) ?_
      clear hK K
      refine wpPt_one rfl rfl (fun K hK => ?_)
      go_simp
      refine (Join_any w11.heap.size 4 4 [setT o l m, decB base, decB last, orD (joinB ⟨#[44]⟩ (ps.map prT))] ⟨#[59]⟩ _ rfl (cells_str (e := 9) (pushF w11 _ _ rfl)) (by simp) (show (4 : Nat) ≤ 100000 by decide) (Nat.le_refl _) HZ.out).mono ?_
      rintro e w13 ⟨rfl, hm13⟩
      have hm13 : More _ w13 := hm13
      have HF13 := Lib.hid ((HF11.out.more (More.alloc (More.refl _) _)).more hm13)
      clear hm13
      refine hK _ _ (fun hkn => HF13.out.kn) ?_
      clear hK K
      refine wpPt_one rfl rfl (fun K hK => ?_)
      go_simp
      refine hK _ _ (fun hkn => absurd hkn (by decide)) ?_
      clear hK K
      refine NoPanic.normal ?_
      go_wp2_with fail
      go_ret
      exact ret_of rfl (below_more HF13.out.bel)

end Go.Proofs.YtmddcbebaijjkaaGreatDoor
