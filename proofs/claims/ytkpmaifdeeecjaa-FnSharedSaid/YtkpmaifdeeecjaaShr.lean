/- Words that are known twice: plain, and the walks of both SharedWords. -/
import Derived.Test.YtkpmaifdeeecjaaL4w
import Derived.Test.YtkpmaifdeeecjaaAps
import Derived.Test.YtkpmaifdeeecjaaGc
import Derived.Test.YtkpmaifdeeecjaaSok
import Derived.Maps.OwnOps
import Derived.Maps.Views
import Derived.StringKeys
namespace Go.Proofs.Ytkpmaifdeeecjaa
open Go.RowKit
open Go.Maps (Keyed string_keyed)
set_option linter.unusedVariables false
set_option linter.unusedSimpArgs false
open Classical

theorem calls_named {P : Program} {f : FuncId} {args : Array Value} {Q : Ending → World → Prop} {W : World} (F : World → Prop) (hF : F W) (h : ∀ X, F X → Calls P f args X Q) : Calls P f args W Q := h W hF

theorem wp_nm {P : Program} {c : Code} {Q : Exit → Act → World → Prop} {a : Act} {W : World} (F : World → Prop) (hF : F W) (h : ∀ X, F X → c.wp P Q a X) : c.wp P Q a W := h W hF

@[go_sem] theorem alloc_map_cell (w : World) (es : Array MapEntry) (c n i : Nat) : (w.alloc (.map es c)).cell? ⟨n, i, none⟩ = if n < w.heap.size then w.cell? ⟨n, i, none⟩ else none := by
  by_cases h : n < w.heap.size
  · rw [if_pos h]; exact World.cell?_alloc_lt _ _ _ h
  rw [if_neg h]
  unfold World.cell?
  show (match (w.alloc (.map es c)).heap[n]? with | some (.cells c _ _) => _ | _ => _) = _
  rw [push_at]
  by_cases h2 : n = w.heap.size
  · simp only [if_neg h, if_pos h2]
  · simp only [if_neg h, if_neg h2]

/-- a string is among others -/
noncomputable def hasB (ys : List ByteArray) (x : ByteArray) : Bool := decide (x ∈ ys)

/-- the strings of xs that are among ys, each once, behind those of out -/
noncomputable def shrL (ys : List ByteArray) : List ByteArray → List ByteArray → List ByteArray
  | [], out => out
  | x :: xs, out => shrL ys xs (if x ∈ ys ∧ x ∉ out then out ++ [x] else out)

theorem shr_snoc (ys : List ByteArray) : ∀ (xs : List ByteArray) (x : ByteArray) (out : List ByteArray), shrL ys (xs ++ [x]) out = (if x ∈ ys ∧ x ∉ shrL ys xs out then shrL ys xs out ++ [x] else shrL ys xs out)
  | [], x, out => rfl
  | y :: xs, x, out => shr_snoc ys xs x _

theorem shr_len (ys : List ByteArray) : ∀ (xs out : List ByteArray), (shrL ys xs out).length ≤ out.length + xs.length
  | [], out => by simp [shrL]
  | x :: xs, out => by
    simp only [shrL, List.length_cons]
    by_cases h : x ∈ ys ∧ x ∉ out
    · rw [if_pos h]
      have := shr_len ys xs (out ++ [x])
      rw [List.length_append, List.length_singleton] at this
      omega
    · rw [if_neg h]
      have := shr_len ys xs out
      omega

theorem shr_take {ys xs : List ByteArray} {k : Nat} {x : ByteArray} (h : xs[k]? = some x) : shrL ys (xs.take (k + 1)) [] = (if x ∈ ys ∧ x ∉ shrL ys (xs.take k) [] then shrL ys (xs.take k) [] ++ [x] else shrL ys (xs.take k) []) := by
  rw [List.take_add_one, h]
  exact shr_snoc ys (xs.take k) x []

/-- what the map says of a word -/
noncomputable def mapF (ys out : List ByteArray) (t : ByteArray) : Int := if t ∈ out then 2 else if t ∈ ys then 1 else 0

theorem map_in {ys out : List ByteArray} {x : ByteArray} (h : x ∈ out) : mapF ys out x = 2 := by unfold mapF; rw [if_pos h]

theorem map_out {ys out : List ByteArray} {x : ByteArray} (h : x ∉ out) (h2 : x ∈ ys) : mapF ys out x = 1 := by unfold mapF; rw [if_neg h, if_pos h2]

theorem map_no {ys out : List ByteArray} {x : ByteArray} (h : x ∉ out) (h2 : x ∉ ys) : mapF ys out x = 0 := by unfold mapF; rw [if_neg h, if_neg h2]

theorem map_more (ys out : List ByteArray) (x t : ByteArray) : mapF ys (out ++ [x]) t = if t = x then 2 else mapF ys out t := by
  unfold mapF
  by_cases h : t = x
  · rw [if_pos h, if_pos (by rw [h]; simp)]
  · rw [if_neg h]
    by_cases h2 : t ∈ out
    · rw [if_pos h2, if_pos (by simp [h2])]
    · rw [if_neg h2, if_neg (by simp [h, h2])]

theorem map_fill {ys : List ByteArray} {k : Nat} {x : ByteArray} (h : ys[k]? = some x) (t : ByteArray) : mapF (ys.take (k + 1)) [] t = if t = x then 1 else mapF (ys.take k) [] t := by
  unfold mapF
  rw [List.take_add_one, h]
  by_cases h : t = x
  · simp [h]
  · simp [h]

noncomputable abbrev PE := Go.plainElem (H := Unit) Try.prog 3

/-- block M is a map of at most n entries that holds f of each string -/
def MapV (w : World) (M n : Nat) (f : ByteArray → Int) : Prop :=
  ∃ D : DataW Unit, w.ownsMap Try.prog 9 PE M n D ∧ Maps.IsMap D ∧ ∀ s : ByteArray, D.atKey (.string s.data.toList) (.lit (.int .i64 0)) = .lit (.int .i64 (f s))

theorem lawS : Keyed Try.prog 9 := string_keyed Try.underlying9

theorem zeroI (w : World) : (zeroValue 3).run Try.prog w = .ok (.int .i64 0) w := by kernel_rfl

theorem MapV.made (w : World) : MapV (w.alloc (.map #[] 0)) w.heap.size 0 (fun _ => 0) :=
  ⟨.map [], World.ownsMap_made _ _ _ _, ⟨_, rfl⟩, fun s => WideAt.atKey_none _ (by simp)⟩

theorem MapV.lt {w : World} {M n : Nat} {f : ByteArray → Int} (h : MapV w M n f) : M < w.heap.size := by
  obtain ⟨D, h, _⟩ := h
  exact h.lt

theorem MapV.of_block {w w' : World} {M n : Nat} {f : ByteArray → Int} (h : MapV w M n f) (hb : w'.heap[M]? = w.heap[M]?) : MapV w' M n f := by
  obtain ⟨D, ⟨es, clock, h1, h2⟩, h3⟩ := h
  exact ⟨D, ⟨es, clock, hb.trans h1, h2⟩, h3⟩

theorem bytes_inj {s t : ByteArray} (h : s.data.toList = t.data.toList) : s = t := by
  rw [← bstr_bytes s, ← bstr_bytes t, h]

theorem MapV.put {w' : World} {M n : Nat} {f : ByteArray → Int} {D : DataW Unit} {s : ByteArray} {v : Int} (h1 : w'.ownsMap Try.prog 9 PE M (n + 1) (D.put (.string s.data.toList) (.lit (.int .i64 v)))) (h2 : Maps.IsMap D)
    (h3 : ∀ s : ByteArray, D.atKey (.string s.data.toList) (.lit (.int .i64 0)) = .lit (.int .i64 (f s))) {g : ByteArray → Int} (hg : ∀ t, g t = if t = s then v else f t) : MapV w' M (n + 1) g := by
  refine ⟨_, h1, h2.put _ _, fun t => ?_⟩
  rw [hg]
  by_cases hts : t = s
  · subst hts
    rw [if_pos rfl, Maps.atKey_put_same h2 (by simp [WideAt.IsKeyLit])]
  · rw [if_neg hts, Maps.atKey_put_other (fun e => hts (bytes_inj (by simpa using e))), h3]

theorem MapV.congr {w : World} {M n : Nat} {f g : ByteArray → Int} (h : MapV w M n f) (hg : ∀ t, g t = f t) : MapV w M n g := by
  obtain ⟨D, h1, h2, h3⟩ := h
  exact ⟨D, h1, h2, fun t => by rw [hg, h3]⟩

theorem lit_inj {a b : Int} (h : (DataW.lit (.int .i64 a) : DataW Unit) = .lit (.int .i64 b)) : a = b := by
  injection h with h
  injection h

theorem grew_app {M : Nat} {A : Option Addr} {w w1 w2 : World} (h : Grew (some ⟨M, 0, none⟩) w w1) (hg : Grew A w1 w2) (hA : ∀ X, A = some X → X.block = M ∨ w.heap.size ≤ X.block) : Grew (some ⟨M, 0, none⟩) w w2 := by
  refine ⟨hg.os.trans h.os, hg.tape.trans h.tape, hg.output.trans h.output, Nat.le_trans h.size hg.size, fun k hk hne => ?_⟩
  have hkM : M ≠ k := hne _ rfl
  have := h.size
  rw [hg.block k (by omega) fun X hX e => by rcases hA X hX with h | h <;> omega]
  exact h.block k hk hne

theorem grew_map {M : Nat} {w w1 w2 : World} (h : Grew (some ⟨M, 0, none⟩) w w1) (hg : w1.grownBy w2 (some M)) : Grew (some ⟨M, 0, none⟩) w w2 := by
  refine ⟨hg.os.trans h.os, hg.tape.trans h.tape, hg.output.trans h.output, Nat.le_trans h.size hg.size, fun k hk hne => ?_⟩
  have hkM : M ≠ k := hne _ rfl
  have := h.size
  rw [hg.block k (by omega) (by intro e; cases e; exact hkM rfl)]
  exact h.block k hk hne

theorem rd_but {α : Type} {E : Enc α} {M : Nat} {w w' : World} {a : Option Addr} {cap : Nat} {xs : List α} (h : Rd E w a cap xs) (hg : Grew (some ⟨M, 0, none⟩) w w') (ha : ∀ A, a = some A → 0 < cap → A.block ≠ M) : Rd E w' a cap xs :=
  rd_rng (lo := M) (hi := M + 1) h ⟨hg.os, hg.tape, hg.output, hg.size, fun k hk hne => hg.block k hk fun A hA e => by cases hA; simp at e; omega⟩ fun A hA hc => by have := ha A hA hc; omega

theorem below_but {M B : Nat} {w w' : World} (hg : Grew (some ⟨M, 0, none⟩) w w') (hB : B ≤ w.heap.size) (hM : B ≤ M) : Below B w w' := hg.below hB fun A hA => by cases hA; exact hM

/-- two lists of strings: is one among the others? -/
theorem has_take {ys : List ByteArray} {k : Nat} {y : ByteArray} (h : ys[k]? = some y) (x : ByteArray) : hasB (ys.take (k + 1)) x = (hasB (ys.take k) x || decide (y = x)) := by
  unfold hasB
  rw [List.take_add_one, h]
  rw [← Bool.decide_or]
  exact decide_eq_decide.2 (by simp [eq_comm])

set_option maxRecDepth 100000 in
set_option maxHeartbeats 1000000 in
theorem l4Has_any (a : Option Addr) (cap : Nat) (ys : List ByteArray) (x : ByteArray) (w : World) (hr : Rd encS w a cap ys) :
    Calls Try.prog 18 #[.slice a ys.length cap, .string x] w (Ret w (.bool (hasB ys x))) := by
  have HA := Lib.hid (RdS.open hr).2.2
  have z1 := hr.1
  have z2 := hr.2.1
  clear hr
  go_enter Try.func18, Try.ntmps18
  go_wp2_with fail
  go_loopw [5] (fun i wr => ∃ (k : Nat) (z : Ext), k ≤ ys.length ∧ i = .int .i64 k ∧ hasB (ys.take k) x = false ∧ wr = plus w z) (fun i _ => ys.length - (intOf i).toNat)
  case atStart => exact ⟨0, _, Nat.zero_le _, rfl, by simp [hasB], (plus_self _).symm⟩
  case round =>
    obtain ⟨k, z, hk, rfl, hno, rfl⟩ := hrel
    rcases dec (k < ys.length) with ⟨hlt, blt⟩ | ⟨hlt, blt⟩
    · obtain ⟨y, hy⟩ : ∃ y, ys[k]? = some y := ⟨_, List.getElem?_eq_getElem hlt⟩
      rcases HA.out with h9 | ⟨b, off, rfl, hb, hc⟩
      · exact absurd hlt (by omega)
      have c1 := hc k y hy
      have ht := has_take hy x
      rw [hno, Bool.false_or] at ht
      by_cases hyx : y = x
      · have v6 : (y.toList == x.toList) = true := by rw [hyx]; simp
        have HH := Lib.hid (show hasB ys x = true by unfold hasB; rw [decide_eq_true_eq, ← hyx]; exact List.mem_of_getElem? hy)
        clear hc hy ht hyx hno
        go_wp2_with fail
        go_ret
        exact ret_of (bool_ret HH.out.symm) (by repeat (first | exact More.refl _ | apply More.plus | apply More.alloc | apply More.drew | apply More.drewN))
      · have v6 : (y.toList == x.toList) = false := by
          rw [ByteArray.toList_eq, ByteArray.toList_eq, beq_eq_false_iff_ne]
          exact fun e => hyx (bytes_inj e)
        rw [decide_eq_false hyx] at ht
        have HT := Lib.hid ht
        clear hc hy ht hyx hno
        go_wp2_with fail
        go_roundw
        case rel => exact ⟨k + 1, _, by omega, by go_num, HT.out, rfl⟩
        case measure => simp [intOf]; omega
    · obtain rfl : k = ys.length := by omega
      rw [List.take_length] at hno
      have HH := Lib.hid hno
      clear hno
      go_wp2_with fail
      go_ret
      exact ret_of (bool_ret HH.out.symm) (by repeat (first | exact More.refl _ | apply More.plus | apply More.alloc | apply More.drew | apply More.drewN))

set_option maxRecDepth 100000 in
set_option maxHeartbeats 4000000 in
theorem implSharedWords_yes (o l m : Int) (a : Option Addr) (cap : Nat) (ps : List Pr) (base last : Int) (o2 l2 m2 : Int) (a2 : Option Addr) (cap2 : Nat) (qs : List Pr) (base2 last2 : Int) (w : World) (hr : RdP w a cap ps) (hr2 : RdP w a2 cap2 qs) (hk : kvb o l m ps base last = true) (hk2 : kvb o2 l2 m2 qs base2 last2 = true) (R : List ByteArray) (hR : shrL (wordsL l2 qs) (wordsL l ps) [] = R) :
    Calls Try.prog 5 #[.agg #[.int .i64 o, .int .i64 l, .int .i64 m, .slice a ps.length cap, .int .i64 base, .int .i64 last], .agg #[.int .i64 o2, .int .i64 l2, .int .i64 m2, .slice a2 qs.length cap2, .int .i64 base2, .int .i64 last2]] w (RetS w R) := by
  obtain ⟨i0, hi, hz0, hz1, hz2⟩ := info_parts infoString
  have hpl := kv_len hk
  have hql := kv_len hk2
  have hal := fun A hA hc => rd_lt hr A hA hc
  have HR := Lib.hid (show Rd encP w a cap ps from hr)
  have HR2 := Lib.hid (show Rd encP w a2 cap2 qs from hr2)
  have HK := Lib.hid hk
  have HK2 := Lib.hid hk2
  obtain ⟨XS, hXS⟩ : ∃ x, wordsL l ps = x := ⟨_, rfl⟩
  obtain ⟨YS, hYS⟩ : ∃ x, wordsL l2 qs = x := ⟨_, rfl⟩
  have hxl : XS.length ≤ 2000 := by rw [← hXS, wordsL_len]; omega
  have hyl : YS.length ≤ 2000 := by rw [← hYS, wordsL_len]; omega
  have hxz : ∀ s ∈ XS, s.size ≤ maxLen := fun s hs => by
    obtain ⟨i, hi⟩ := List.getElem?_of_mem hs
    have := (wordsL_size l ps i s (by rw [hXS]; exact hi)).2
    have := (List.getElem?_eq_some_iff.1 hi).1
    unfold maxLen; omega
  have hyz : ∀ s ∈ YS, s.size ≤ maxLen := fun s hs => by
    obtain ⟨i, hi⟩ := List.getElem?_of_mem hs
    have := (wordsL_size l2 qs i s (by rw [hYS]; exact hi)).2
    have := (List.getElem?_eq_some_iff.1 hi).1
    unfold maxLen; omega
  rw [hXS, hYS] at hR
  have HWA := Lib.hid (fun (W : World) (h : RdP W a cap ps) => implKnownWords_yes o l m a cap ps base last W h hk)
  have HWB := Lib.hid (fun (W : World) (h : RdP W a2 cap2 qs) => implKnownWords_yes o2 l2 m2 a2 cap2 qs base2 last2 W h hk2)
  rw [hXS] at HWA
  rw [hYS] at HWB
  have HRE := Lib.hid hR
  have HXZ := Lib.hid hxz
  have HYZ := Lib.hid hyz
  clear hr hr2 hk hk2 hXS hYS hR hxz hyz
  have hmm := @run_makeMap Try.prog
  go_enter Try.func5, Try.ntmps5
  go_wp2_with fail
  refine (KnownValid_any o l m a cap ps base last _ (by (try unfold RdP); repeat (first | (with_reducible exact HR.out) | (with_reducible apply rd_seq) | (with_reducible apply Rd.plus) | (with_reducible apply Rd.alloc) | (with_reducible apply Rd.drew) | (with_reducible apply Rd.drewN)))).mono ?_
  rintro e w' ⟨rfl, x1, rfl⟩
  rw [HK.out]
  go_wp2_with fail
  refine (KnownValid_any o2 l2 m2 a2 cap2 qs base2 last2 _ (by (try unfold RdP); repeat (first | (with_reducible exact HR2.out) | (with_reducible apply rd_seq) | (with_reducible apply Rd.plus) | (with_reducible apply Rd.alloc) | (with_reducible apply Rd.drew) | (with_reducible apply Rd.drewN)))).mono ?_
  rintro e w' ⟨rfl, x2, rfl⟩
  rw [HK2.out]
  go_wp2_with fail
  refine calls_named (fun X => X.heap[w.heap.size]? = some (.cells #[.int .i64 o, .int .i64 l, .int .i64 m, .slice a ps.length cap, .int .i64 base, .int .i64 last] 27 (0, 0)) ∧ MapV X (w.heap.size + 1 + 1 + (x1.n + x2.n)) 0 (fun _ => 0) ∧ Rd encP X a cap ps ∧ Rd encP X a2 cap2 qs ∧ Below w.heap.size w X) ⟨?_, ?_, (by (try unfold RdP); repeat (first | (with_reducible exact HR.out) | (with_reducible apply rd_seq) | (with_reducible apply Rd.plus) | (with_reducible apply Rd.alloc) | (with_reducible apply Rd.drew) | (with_reducible apply Rd.drewN))), (by (try unfold RdP); repeat (first | (with_reducible exact HR2.out) | (with_reducible apply rd_seq) | (with_reducible apply Rd.plus) | (with_reducible apply Rd.alloc) | (with_reducible apply Rd.drew) | (with_reducible apply Rd.drewN))), (by repeat (first | exact Below.refl _ _ | refine below_plus ?_ (by first | omega | (simp <;> omega)) _ | refine Below.alloc ?_ (by first | omega | (simp <;> omega)) _ | refine below_patch ?_ (by omega) _ | refine Below.drew ?_))⟩ ?_
  · (repeat (first | apply blk_plus | apply blk_drew)); apply blk_alloc; (repeat (first | apply blk_plus | apply blk_drew)); apply blk_alloc; exact push_new _ _ _ rfl
  · have := MapV.made (plus ((w.alloc (.cells #[.int .i64 o, .int .i64 l, .int .i64 m, .slice a ps.length cap, .int .i64 base, .int .i64 last] 27)).alloc (.cells #[.int .i64 o2, .int .i64 l2, .int .i64 m2, .slice a2 qs.length cap2, .int .i64 base2, .int .i64 last2] 27)) (x1.seq x2))
    simpa [seq_sz] using this
  have hM : w.heap.size < w.heap.size + 1 + 1 + (x1.n + x2.n) := by omega
  revert hM
  generalize w.heap.size + 1 + 1 + (x1.n + x2.n) = M
  intro hM
  clear HR HR2
  rintro X ⟨hbx, hmap, hRA, hRB, hB⟩
  have zM := hmap.lt
  have HB := Lib.hid hB
  have HMP := Lib.hid hmap
  have HRA := Lib.hid hRA
  have HRB := Lib.hid hRB
  have HBX := Lib.hid hbx
  clear hbx hmap hRA hRB hB
  refine (HWB.out _ HRB.out).mono ?_
  rintro e w' ⟨ya, yc, rfl, hown, y3, rfl⟩
  have hyo := fun A hA => (own_lt hown A hA).1
  have HYR := Lib.hid (show Rd encS _ ya yc YS from hown.rd)
  clear hown
  go_wp2_with fail
  have hya : ∀ A, ya = some A → 0 < yc → A.block ≠ M := fun A hA _ => by have := hyo A hA; omega
  have hwM : w.heap.size ≤ X.heap.size := HB.out.size
  refine wp_nm (fun Y => Y.heap[w.heap.size]? = some (.cells #[.int .i64 o, .int .i64 l, .int .i64 m, .slice a ps.length cap, .int .i64 base, .int .i64 last] 27 (0, 0)) ∧ MapV Y M 0 (fun _ => 0) ∧ Rd encP Y a cap ps ∧ Rd encS Y ya yc YS ∧ Below w.heap.size w Y) ⟨(by repeat (first | (with_reducible exact HBX.out) | (with_reducible apply blk_seq) | (with_reducible apply blk_draw) | (with_reducible apply blk_plus) | (with_reducible apply blk_alloc) | (with_reducible apply blk_drew) | (with_reducible refine blk_patch ?_ (by omega)) | exact HBX.out)), HMP.out.of_block (plus_block _ _ zM), (by (try unfold RdP); repeat (first | (with_reducible exact HRA.out) | (with_reducible apply rd_seq) | (with_reducible apply Rd.plus) | (with_reducible apply Rd.alloc) | (with_reducible apply Rd.drew) | (with_reducible apply Rd.drewN))), (by (try unfold RdP); repeat (first | (with_reducible exact HYR.out) | (with_reducible apply rd_seq) | (with_reducible apply Rd.plus) | (with_reducible apply Rd.alloc) | (with_reducible apply Rd.drew) | (with_reducible apply Rd.drewN))), (by repeat (first | (with_reducible exact HB.out) | refine below_plus ?_ (by first | omega | (simp <;> omega)) _ | refine Below.alloc ?_ (by first | omega | (simp <;> omega)) _ | refine below_patch ?_ (by omega) _ | refine Below.drew ?_))⟩ ?_
  rintro Y ⟨hbx, hmap, hRA, hYR, hB⟩
  clear HB HMP HRA HRB HBX HYR hyo zM hwM
  have zM := hmap.lt
  have HB := Lib.hid hB
  have HMP := Lib.hid hmap
  have HRA := Lib.hid hRA
  have HBX := Lib.hid hbx
  have HYR := Lib.hid hYR
  have zy1 := hYR.1
  have zy2 := hYR.2.1
  have zw := hB.size
  clear hbx hmap hRA hYR hB
  go_loopw [23] (fun i wr => ∃ k : Nat, k ≤ YS.length ∧ i = .int .i64 k ∧ MapV wr M k (mapF (YS.take k) []) ∧ Grew (some ⟨M, 0, none⟩) Y wr) (fun i _ => YS.length - (intOf i).toNat)
  case atStart => exact ⟨0, Nat.zero_le _, rfl, HMP.out.congr (fun t => by simp [mapF]), grew_refl _ _⟩
  case round =>
    obtain ⟨k, hk1, rfl, hmap, hg⟩ := hrel
    have HG := Lib.hid hg
    have hgz := hg.size
    rcases dec (k < YS.length) with ⟨hlt, blt⟩ | ⟨hlt, blt⟩
    · obtain ⟨s, hs⟩ : ∃ s, YS[k]? = some s := ⟨_, List.getElem?_eq_getElem hlt⟩
      have hsm := HYZ.out s (List.mem_of_getElem? hs)
      have hkey : keyOf Try.prog 9 (.string s) = some (.string s.data.toList) := Go.WideMaps.keyOf_string_mk Try.underlying9 hsm
      rcases (RdS.open (rd_but HYR.out hg hya)).2.2 with h9 | ⟨b, off, rfl, hb, hc⟩
      · exact absurd hlt (by omega)
      have c1 := hc k s hs
      have HF := Lib.hid (map_fill hs)
      obtain ⟨D, hown, hD1, hD2⟩ := hmap
      have HO := Lib.hid hown
      have HD1 := Lib.hid hD1
      have HD2 := Lib.hid hD2
      clear hc hs hown hD1 hD2 hg
      go_wp2_with (at_mapUpdate; refine wpList_mapUpdate_own _ rfl _ _ _ 44 rfl 9 3 lawS Try.underlying44 _ M k _ rfl HO.out (by unfold maxLen; omega) _ _ _ rfl rfl hkey _ [] (Go.plainElem_int Try.underlying3 (by decide)) ?_; intro w1 hown1 hgrow1; have HM1 := Lib.hid (MapV.put (g := mapF (YS.take (k + 1)) []) hown1 HD1.out HD2.out HF.out); have HG1 := Lib.hid (grew_map HG.out hgrow1); clear hown1 hgrow1)
      go_roundw
      case rel => exact ⟨k + 1, by omega, by go_num, HM1.out, HG1.out⟩
      case measure => simp [intOf]; omega
    · obtain rfl : k = YS.length := by omega
      rw [List.take_length] at hmap
      have hbx1 : wr.heap[w.heap.size]? = some (.cells #[.int .i64 o, .int .i64 l, .int .i64 m, .slice a ps.length cap, .int .i64 base, .int .i64 last] 27 (0, 0)) := (hg.block _ (by omega) (fun A hA e => by cases hA; simp at e; omega)).trans HBX.out
      have HBX1 := Lib.hid hbx1
      have cb := cell_of hbx1
      have zb : w.heap.size < wr.heap.size := by omega
      have HRA1 := Lib.hid (rd_but HRA.out hg (fun A hA hc => by have := hal A hA hc; omega))
      have HMP1 := Lib.hid hmap
      have zM1 := hmap.lt
      have HB1 := Lib.hid (HB.out.trans (below_but (B := w.heap.size) hg zw (by omega)))
      clear hbx1 hmap hg
      go_wp2_with fail
      refine (HWA.out _ (by (try unfold RdP); repeat (first | (with_reducible exact HRA1.out) | (with_reducible apply rd_seq) | (with_reducible apply Rd.plus) | (with_reducible apply Rd.alloc) | (with_reducible apply Rd.drew) | (with_reducible apply Rd.drewN)))).mono ?_
      rintro e w' ⟨xa, xc, rfl, hown, y4, rfl⟩
      have hxo := fun A hA => (own_lt hown A hA).1
      (try simp at hxo)
      have hxa : ∀ A, xa = some A → 0 < xc → A.block ≠ M := fun A hA _ => by have := hxo A hA; omega
      have HXR := Lib.hid (show Rd encS _ xa xc XS from hown.rd)
      clear hown
      go_wp2_with fail
      have zxo : wr.heap.size ≤ wr.heap.size := Nat.le_refl _
      refine wp_nm (fun Z => MapV Z M YS.length (mapF YS []) ∧ Rd encS Z xa xc XS ∧ Below w.heap.size w Z) ⟨HMP1.out.of_block (plus_block _ _ zM1), (by (try unfold RdP); repeat (first | (with_reducible exact HXR.out) | (with_reducible apply rd_seq) | (with_reducible apply Rd.plus) | (with_reducible apply Rd.alloc) | (with_reducible apply Rd.drew) | (with_reducible apply Rd.drewN))), (by repeat (first | (with_reducible exact HB1.out) | refine below_plus ?_ (by first | omega | (simp <;> omega)) _ | refine Below.alloc ?_ (by first | omega | (simp <;> omega)) _ | refine below_patch ?_ (by omega) _ | refine Below.drew ?_))⟩ ?_
      rintro Z ⟨hmap, hXR, hB⟩
      clear cb zb HBX1 HRA1 HMP1 HB1 HXR HB HMP HRA HBX HYR hxo zxo zM zM1 HG
      have zM := hmap.lt
      have zw1 := hB.size
      have zx1 := hXR.1
      have zx2 := hXR.2.1
      have HXR := Lib.hid hXR
      have HB := Lib.hid hB
      have HMP := Lib.hid hmap
      clear hmap hXR hB
      go_loopw [8, 33] (fun u i wr => ∃ (k n : Nat) (A : Option Addr) (cp : Nat), k ≤ XS.length ∧ u = .slice A (shrL YS (XS.take k) []).length cp ∧ i = .int .i64 k ∧ n ≤ YS.length + k ∧ MapV wr M n (mapF YS (shrL YS (XS.take k) [])) ∧ Own encS 9 wr A cp (shrL YS (XS.take k) []) Z.heap.size ∧ Grew (some ⟨M, 0, none⟩) Z wr) (fun _ i _ => XS.length - (intOf i).toNat)
      case atStart => exact ⟨0, YS.length, none, 0, Nat.zero_le _, rfl, rfl, by omega, HMP.out, .inl ⟨rfl, rfl, rfl⟩, grew_refl _ _⟩
      case round =>
        obtain ⟨k, n, A, cp, hk1, rfl, rfl, hn, hmap, hown, hg⟩ := hrel
        have HG := Lib.hid hg
        have hgz := hg.size
        have HO := Lib.hid hown
        have hcp := hown.rd.1
        have hcp2 := hown.rd.2.1
        have hoz := own_lo hown
        have hol := shr_len YS (XS.take k) []
        rw [List.length_take, List.length_nil] at hol
        rcases dec (k < XS.length) with ⟨hlt, blt⟩ | ⟨hlt, blt⟩
        · obtain ⟨x, hx⟩ : ∃ x, XS[k]? = some x := ⟨_, List.getElem?_eq_getElem hlt⟩
          have hxm := HXZ.out x (List.mem_of_getElem? hx)
          have hkey : keyOf Try.prog 9 (.string x) = some (.string x.data.toList) := Go.WideMaps.keyOf_string_mk Try.underlying9 hxm
          rcases (RdS.open (rd_but HXR.out hg hxa)).2.2 with h9 | ⟨b, off, rfl, hb, hc⟩
          · exact absurd hlt (by omega)
          have c1 := hc k x hx
          have hst := shr_take (ys := YS) hx
          obtain ⟨out, hout⟩ : ∃ out, shrL YS (XS.take k) [] = out := ⟨_, rfl⟩
          rw [hout] at hmap hown hst hol hcp ⊢
          have HO := Lib.hid hown
          obtain ⟨D, hown, hD1, hD2⟩ := hmap
          have HM := Lib.hid hown
          have HD1 := Lib.hid hD1
          have HD2 := Lib.hid hD2
          have HMV := Lib.hid (show MapV wr M n (mapF YS out) from ⟨D, HM.out, HD1.out, HD2.out⟩)
          clear hc hx hown hD1 hD2 hg hout
          by_cases hxo : x ∈ out
          · have hv := map_in (ys := YS) hxo
            rw [if_neg (fun h => h.2 hxo)] at hst
            have HST := Lib.hid hst
            have HV := Lib.hid hv
            clear hst hv hxo
            go_wp2_with (at_lookup; refine wpList_lookup_own_int _ rfl _ _ 44 rfl 9 3 .i64 lawS Try.underlying44 Try.underlying3 (zeroI _) M n D rfl HM.out _ _ rfl hkey ?_; intro c hat hwc; obtain rfl : c = 2 := (lit_inj (hat.symm.trans (HD2.out x))).trans HV.out; clear hat hwc)
            go_roundw
            case rel => exact ⟨k + 1, n, A, cp, by omega, by rw [HST.out], by go_num, by omega, by rw [HST.out]; exact HMV.out, by rw [HST.out]; exact HO.out, HG.out⟩
            case measure => simp [intOf]; omega
          · by_cases hxy : x ∈ YS
            · have hv := map_out (ys := YS) hxo hxy
              rw [if_pos ⟨hxy, hxo⟩] at hst
              have HST := Lib.hid hst
              have HV := Lib.hid hv
              clear hst hv hxo hxy
              have hoz2 := hoz
              go_wp2_with (first | (at_lookup; refine wpList_lookup_own_int _ rfl _ _ 44 rfl 9 3 .i64 lawS Try.underlying44 Try.underlying3 (zeroI _) M n D rfl HM.out _ _ rfl hkey ?_; intro c hat hwc; obtain rfl : c = 1 := (lit_inj (hat.symm.trans (HD2.out x))).trans HV.out; clear hat hwc) | (at_mapUpdate; refine wpList_mapUpdate_own _ rfl _ _ _ 44 rfl 9 3 lawS Try.underlying44 _ M n _ rfl HM.out (by unfold maxLen; omega) _ _ _ rfl rfl hkey _ [] (Go.plainElem_int Try.underlying3 (by decide)) ?_; intro w1 hown1 hgrow1; have HM1 := Lib.hid (MapV.put (g := mapF YS (out ++ [x])) hown1 HD1.out HD2.out (map_more YS out x)); have HG1 := Lib.hid (grew_map HG.out hgrow1); have HO1 := Lib.hid (show Own encS 9 w1 A cp out Z.heap.size from HO.out.of_block (fun X hX hl => hgrow1.block _ hl (by intro e; have := hoz2 X hX; cases e; omega))); have z1 := hgrow1.size; clear hown1 hgrow1) | (at_builtin; refine wpList_append_at encS _ _ _ _ i0 _ 16 rfl rfl Try.underlying30 hi hz0 hz1 hz2 rfl (by decide) out A cp Z.heap.size (by repeat (first | (with_reducible exact HO1.out) | (with_reducible apply own_seq) | (with_reducible apply own_draw) | (with_reducible apply Own.plus) | (with_reducible apply Own.alloc) | (with_reducible apply Own.drew) | (with_reducible apply Own.drewN))) rfl [x] _ 0 1 (new_cells encS x _ _ (by first | omega | rfl | (simp <;> omega) | (simp only [List.length_cons, List.length_nil, plus_size, World.size_alloc]; omega))) rfl (by first | omega | rfl | (simp <;> omega) | (simp only [List.length_cons, List.length_nil, plus_size, World.size_alloc]; omega)) (by first | omega | rfl | (simp <;> omega) | (simp only [List.length_cons, List.length_nil, plus_size, World.size_alloc]; omega)) (by simp <;> omega) ?_; intro A6 c6 w6 hw6 hg6 hx6))
              have hM1 := HM1.out.lt
              have HM6 := Lib.hid (HM1.out.of_block ((hg6.block M (by simp <;> omega) (fun X hX e => by have := hoz2 X hX; omega)).trans (by show (World.alloc _ _).heap[M]? = _; rw [push_at, if_pos hM1])))
              have HG6 := Lib.hid (grew_app (grew_alloc HG1.out _) hg6 (fun X hX => .inr (hoz2 X hX)))
              have HO6 := Lib.hid hw6
              go_roundw
              case rel => exact ⟨k + 1, n + 1, A6, c6, by omega, by rw [HST.out]; simp, by go_num, by omega, by rw [HST.out]; exact HM6.out, by rw [HST.out]; exact HO6.out, HG6.out⟩
              case measure => simp [intOf]; omega
            · have hv := map_no (ys := YS) hxo hxy
              rw [if_neg (fun h => hxy h.1)] at hst
              have HST := Lib.hid hst
              have HV := Lib.hid hv
              clear hst hv hxo hxy
              go_wp2_with (at_lookup; refine wpList_lookup_own_int _ rfl _ _ 44 rfl 9 3 .i64 lawS Try.underlying44 Try.underlying3 (zeroI _) M n D rfl HM.out _ _ rfl hkey ?_; intro c hat hwc; obtain rfl : c = 0 := (lit_inj (hat.symm.trans (HD2.out x))).trans HV.out; clear hat hwc)
              go_roundw
              case rel => exact ⟨k + 1, n, A, cp, by omega, by rw [HST.out], by go_num, by omega, by rw [HST.out]; exact HMV.out, by rw [HST.out]; exact HO.out, HG.out⟩
              case measure => simp [intOf]; omega
        · obtain rfl : k = XS.length := by omega
          rw [List.take_length, HRE.out] at hown ⊢
          have HO := Lib.hid hown
          have HBE := Lib.hid (HB.out.trans (below_but (B := w.heap.size) hg zw1 (by omega)))
          clear hown hmap hg
          go_wp2_with fail
          go_ret
          exact ⟨A, cp, rfl, HO.out.lower zw1, below_more (by repeat (first | (with_reducible exact HBE.out) | refine below_plus ?_ (by first | omega | (simp <;> omega)) _ | refine Below.alloc ?_ (by first | omega | (simp <;> omega)) _ | refine below_patch ?_ (by omega) _ | refine Below.drew ?_))⟩

set_option maxRecDepth 100000 in
set_option maxHeartbeats 4000000 in
theorem specSharedWords_yes (o l m : Int) (a : Option Addr) (cap : Nat) (ps : List Pr) (base last : Int) (o2 l2 m2 : Int) (a2 : Option Addr) (cap2 : Nat) (qs : List Pr) (base2 last2 : Int) (w : World) (hr : RdP w a cap ps) (hr2 : RdP w a2 cap2 qs) (hk : kvb o l m ps base last = true) (hk2 : kvb o2 l2 m2 qs base2 last2 = true) (R : List ByteArray) (hR : shrL (wordsL l2 qs) (wordsL l ps) [] = R) :
    Calls Try.prog 7 #[.agg #[.int .i64 o, .int .i64 l, .int .i64 m, .slice a ps.length cap, .int .i64 base, .int .i64 last], .agg #[.int .i64 o2, .int .i64 l2, .int .i64 m2, .slice a2 qs.length cap2, .int .i64 base2, .int .i64 last2]] w (RetS w R) := by
  obtain ⟨i0, hi, hz0, hz1, hz2⟩ := info_parts infoString
  have hpl := kv_len hk
  have hql := kv_len hk2
  have HR := Lib.hid (show Rd encP w a cap ps from hr)
  have HR2 := Lib.hid (show Rd encP w a2 cap2 qs from hr2)
  have HK := Lib.hid hk
  have HK2 := Lib.hid hk2
  obtain ⟨XS, hXS⟩ : ∃ x, wordsL l ps = x := ⟨_, rfl⟩
  obtain ⟨YS, hYS⟩ : ∃ x, wordsL l2 qs = x := ⟨_, rfl⟩
  have hxl : XS.length ≤ 2000 := by rw [← hXS, wordsL_len]; omega
  have hyl : YS.length ≤ 2000 := by rw [← hYS, wordsL_len]; omega
  rw [hXS, hYS] at hR
  have HWA := Lib.hid (fun (W : World) (h : RdP W a cap ps) => l4Words_any o l m a cap ps base last W h (kvb_iff.1 hk))
  have HWB := Lib.hid (fun (W : World) (h : RdP W a2 cap2 qs) => l4Words_any o2 l2 m2 a2 cap2 qs base2 last2 W h (kvb_iff.1 hk2))
  rw [hXS] at HWA
  rw [hYS] at HWB
  have HRE := Lib.hid hR
  clear hr hr2 hk hk2 hXS hYS hR
  go_enter Try.func7, Try.ntmps7
  go_wp2_with fail
  refine calls_named (fun X => X.heap[w.heap.size]? = some (.cells #[.int .i64 o, .int .i64 l, .int .i64 m, .slice a ps.length cap, .int .i64 base, .int .i64 last] 27 (0, 0)) ∧ X.heap[w.heap.size + 1]? = some (.cells #[.int .i64 o2, .int .i64 l2, .int .i64 m2, .slice a2 qs.length cap2, .int .i64 base2, .int .i64 last2] 27 (0, 0)) ∧ Own encS 9 X (some ⟨w.heap.size + 2, 0, none⟩) 0 [] (w.heap.size + 2) ∧ Rd encP X a cap ps ∧ Rd encP X a2 cap2 qs ∧ Below w.heap.size w X) ⟨?_, ?_, ?_, (by (try unfold RdP); repeat (first | (with_reducible exact HR.out) | (with_reducible apply rd_seq) | (with_reducible apply Rd.plus) | (with_reducible apply Rd.alloc) | (with_reducible apply Rd.drew) | (with_reducible apply Rd.drewN))), (by (try unfold RdP); repeat (first | (with_reducible exact HR2.out) | (with_reducible apply rd_seq) | (with_reducible apply Rd.plus) | (with_reducible apply Rd.alloc) | (with_reducible apply Rd.drew) | (with_reducible apply Rd.drewN))), (by repeat (first | exact Below.refl _ _ | refine below_plus ?_ (by first | omega | (simp <;> omega)) _ | refine Below.alloc ?_ (by first | omega | (simp <;> omega)) _ | refine below_patch ?_ (by omega) _ | refine Below.drew ?_))⟩ ?_
  · apply blk_alloc; apply blk_alloc; exact push_new _ _ _ rfl
  · apply blk_alloc; exact push_new _ _ _ (by simp)
  · exact Own.newAt (by simp) (by omega) rfl (row_of encS _ _ (fun i x h => by simp at h)) (by simp) (by omega)
  have hM : w.heap.size + 1 < w.heap.size + 2 := by omega
  revert hM
  generalize w.heap.size + 2 = M
  intro hM
  clear HR HR2
  rintro X ⟨hbx, hby, hown, hRA, hRB, hB⟩
  have zM := (own_lt hown _ rfl).2
  simp at zM
  have zw := hB.size
  have cx := cell_of hbx
  have cy := cell_of hby
  have zx := (Array.getElem?_eq_some_iff.1 hbx).1
  have zy := (Array.getElem?_eq_some_iff.1 hby).1
  have HB := Lib.hid hB
  have HO := Lib.hid hown
  have HRA := Lib.hid hRA
  have HRB := Lib.hid hRB
  clear hbx hby hown hRA hRB hB
  refine (specKnownValid_any o l m a cap ps base last _ (by (try unfold RdP); repeat (first | (with_reducible exact HRA.out) | (with_reducible apply rd_seq) | (with_reducible apply Rd.plus) | (with_reducible apply Rd.alloc) | (with_reducible apply Rd.drew) | (with_reducible apply Rd.drewN)))).mono ?_
  rintro e w' ⟨rfl, x1, rfl⟩
  rw [HK.out]
  go_wp2_with fail
  refine (specKnownValid_any o2 l2 m2 a2 cap2 qs base2 last2 _ (by (try unfold RdP); repeat (first | (with_reducible exact HRB.out) | (with_reducible apply rd_seq) | (with_reducible apply Rd.plus) | (with_reducible apply Rd.alloc) | (with_reducible apply Rd.drew) | (with_reducible apply Rd.drewN)))).mono ?_
  rintro e w' ⟨rfl, x2, rfl⟩
  rw [HK2.out]
  go_wp2_with fail
  refine (HWA.out _ (by (try unfold RdP); repeat (first | (with_reducible exact HRA.out) | (with_reducible apply rd_seq) | (with_reducible apply Rd.plus) | (with_reducible apply Rd.alloc) | (with_reducible apply Rd.drew) | (with_reducible apply Rd.drewN)))).mono ?_
  rintro e w' ⟨xa, xc, rfl, hown, y3, rfl⟩
  have hxo := fun A hA => (own_lt hown A hA).1
  (try simp at hxo)
  (try simp only [plus_plus] at hown)
  have HXR := Lib.hid (show Rd encS _ xa xc XS from hown.rd)
  clear hown
  go_wp2_with fail
  refine (HWB.out _ (by (try unfold RdP); repeat (first | (with_reducible exact HRB.out) | (with_reducible apply rd_seq) | (with_reducible apply Rd.plus) | (with_reducible apply Rd.alloc) | (with_reducible apply Rd.drew) | (with_reducible apply Rd.drewN)))).mono ?_
  rintro e w' ⟨ya, yc, rfl, hown, y4, rfl⟩
  have hyo := fun A hA => (own_lt hown A hA).1
  (try simp at hyo)
  (try simp only [plus_plus] at hown)
  have HYR := Lib.hid (show Rd encS _ ya yc YS from hown.rd)
  clear hown
  go_wp2_with fail
  have hxa : ∀ A, xa = some A → 0 < xc → A.block ≠ M := fun A hA _ => by have := hxo A hA; omega
  have hya : ∀ A, ya = some A → 0 < yc → A.block ≠ M := fun A hA _ => by have := hyo A hA; omega
  refine wp_nm (fun Z => Own encS 9 Z (some ⟨M, 0, none⟩) 0 [] M ∧ Rd encS Z xa xc XS ∧ Rd encS Z ya yc YS ∧ Below w.heap.size w Z) ⟨(by repeat (first | (with_reducible exact HO.out) | (with_reducible apply own_seq) | (with_reducible apply own_draw) | (with_reducible apply Own.plus) | (with_reducible apply Own.alloc) | (with_reducible apply Own.drew) | (with_reducible apply Own.drewN))), (by (try unfold RdP); repeat (first | (with_reducible exact HXR.out) | (with_reducible apply rd_seq) | (with_reducible apply Rd.plus) | (with_reducible apply Rd.alloc) | (with_reducible apply Rd.drew) | (with_reducible apply Rd.drewN))), (by (try unfold RdP); repeat (first | (with_reducible exact HYR.out) | (with_reducible apply rd_seq) | (with_reducible apply Rd.plus) | (with_reducible apply Rd.alloc) | (with_reducible apply Rd.drew) | (with_reducible apply Rd.drewN))), (by repeat (first | (with_reducible exact HB.out) | refine below_plus ?_ (by first | omega | (simp <;> omega)) _ | refine Below.alloc ?_ (by first | omega | (simp <;> omega)) _ | refine below_patch ?_ (by omega) _ | refine Below.drew ?_))⟩ ?_
  rintro Z ⟨hown, hXR, hYR, hB⟩
  clear cx cy zx zy HB HO HRA HRB HXR HYR hxo hyo zM zw
  have zM := (own_lt hown _ rfl).2
  simp at zM
  have zw1 := hB.size
  have zx1 := hXR.1
  have zx2 := hXR.2.1
  have HXR := Lib.hid hXR
  have HYR := Lib.hid hYR
  have HB := Lib.hid hB
  have HO := Lib.hid hown
  clear hown hXR hYR hB
  go_loopw [5, 8] (fun u i wr => ∃ (k : Nat) (A : Option Addr) (cp : Nat), k ≤ XS.length ∧ u = .slice A (shrL YS (XS.take k) []).length cp ∧ i = .int .i64 k ∧ Own encS 9 wr A cp (shrL YS (XS.take k) []) M ∧ (∀ X, A = some X → X.block = M ∨ Z.heap.size ≤ X.block) ∧ Grew (some ⟨M, 0, none⟩) Z wr) (fun _ i _ => XS.length - (intOf i).toNat)
  case atStart => exact ⟨0, some ⟨M, 0, none⟩, 0, Nat.zero_le _, rfl, rfl, HO.out, fun X hX => by cases hX; exact .inl rfl, grew_refl _ _⟩
  case round =>
    obtain ⟨k, A, cp, hk1, rfl, rfl, hown, hoff, hg⟩ := hrel
    have HG := Lib.hid hg
    have hgz := hg.size
    have hcp := hown.rd.1
    have hcp2 := hown.rd.2.1
    have hol := shr_len YS (XS.take k) []
    rw [List.length_take, List.length_nil] at hol
    rcases dec (k < XS.length) with ⟨hlt, blt⟩ | ⟨hlt, blt⟩
    · obtain ⟨x, hx⟩ : ∃ x, XS[k]? = some x := ⟨_, List.getElem?_eq_getElem hlt⟩
      rcases (RdS.open (rd_but HXR.out hg hxa)).2.2 with h9 | ⟨b, off, rfl, hb, hc⟩
      · exact absurd hlt (by omega)
      have c1 := hc k x hx
      have hst := shr_take (ys := YS) hx
      obtain ⟨out, hout⟩ : ∃ out, shrL YS (XS.take k) [] = out := ⟨_, rfl⟩
      rw [hout] at hown hst hol hcp ⊢
      have HO := Lib.hid hown
      have HOF := Lib.hid hoff
      have HYR1 := Lib.hid (rd_but HYR.out hg hya)
      have HH1 := Lib.hid (fun (W : World) (h : Rd encS W ya yc YS) => l4Has_any ya yc YS x W h)
      have HH2 := Lib.hid (fun (W : World) (h : Rd encS W A cp out) => l4Has_any A cp out x W h)
      clear hc hx hown hout hg hoff
      by_cases hxy : x ∈ YS
      · rw [show hasB YS x = true from decide_eq_true hxy] at HH1
        by_cases hxo : x ∈ out
        · rw [show hasB out x = true from decide_eq_true hxo] at HH2
          rw [if_neg (fun h => h.2 hxo)] at hst
          have HST := Lib.hid hst
          clear hst hxo hxy
          go_wp2_with fail
          refine (HH1.out _ (by (try unfold RdP); repeat (first | (with_reducible exact HYR1.out) | (with_reducible apply rd_seq) | (with_reducible apply Rd.plus) | (with_reducible apply Rd.alloc) | (with_reducible apply Rd.drew) | (with_reducible apply Rd.drewN)))).mono ?_
          rintro e w' ⟨rfl, z1, rfl⟩
          go_wp2_with fail
          refine (HH2.out _ (by (try unfold RdP); repeat (first | (with_reducible exact HO.out.rd) | (with_reducible apply rd_seq) | (with_reducible apply Rd.plus) | (with_reducible apply Rd.alloc) | (with_reducible apply Rd.drew) | (with_reducible apply Rd.drewN)))).mono ?_
          rintro e w' ⟨rfl, z2, rfl⟩
          go_wp2_with fail
          go_roundw
          case rel => exact ⟨k + 1, A, cp, by omega, by rw [HST.out], by go_num, by rw [HST.out]; exact (by repeat (first | (with_reducible exact HO.out) | (with_reducible apply own_seq) | (with_reducible apply own_draw) | (with_reducible apply Own.plus) | (with_reducible apply Own.alloc) | (with_reducible apply Own.drew) | (with_reducible apply Own.drewN))), HOF.out, grew_plus HG.out _⟩
          case measure => simp [intOf]; omega
        · rw [show hasB out x = false from decide_eq_false hxo] at HH2
          rw [if_pos ⟨hxy, hxo⟩] at hst
          have HST := Lib.hid hst
          clear hst hxo hxy
          go_wp2_with fail
          refine (HH1.out _ (by (try unfold RdP); repeat (first | (with_reducible exact HYR1.out) | (with_reducible apply rd_seq) | (with_reducible apply Rd.plus) | (with_reducible apply Rd.alloc) | (with_reducible apply Rd.drew) | (with_reducible apply Rd.drewN)))).mono ?_
          rintro e w' ⟨rfl, z1, rfl⟩
          go_wp2_with fail
          refine (HH2.out _ (by (try unfold RdP); repeat (first | (with_reducible exact HO.out.rd) | (with_reducible apply rd_seq) | (with_reducible apply Rd.plus) | (with_reducible apply Rd.alloc) | (with_reducible apply Rd.drew) | (with_reducible apply Rd.drewN)))).mono ?_
          rintro e w' ⟨rfl, z2, rfl⟩
          go_wp2_with (at_builtin; refine wpList_append_at encS _ _ _ _ i0 _ 16 rfl rfl Try.underlying30 hi hz0 hz1 hz2 rfl (by decide) out A cp M (by repeat (first | (with_reducible exact HO.out) | (with_reducible apply own_seq) | (with_reducible apply own_draw) | (with_reducible apply Own.plus) | (with_reducible apply Own.alloc) | (with_reducible apply Own.drew) | (with_reducible apply Own.drewN))) rfl [x] _ 0 1 (new_cells encS x _ _ (by first | omega | rfl | (simp <;> omega) | (simp only [List.length_cons, List.length_nil, plus_size, World.size_alloc]; omega))) rfl (by first | omega | rfl | (simp <;> omega) | (simp only [List.length_cons, List.length_nil, plus_size, World.size_alloc]; omega)) (by first | omega | rfl | (simp <;> omega) | (simp only [List.length_cons, List.length_nil, plus_size, World.size_alloc]; omega)) (by simp <;> omega) ?_; intro A6 c6 w6 hw6 hg6 hx6)
          have HO6 := Lib.hid hw6
          have HG6 := Lib.hid (grew_app (w1 := (plus wr _).alloc _) (grew_alloc (grew_plus HG.out _) _) hg6 HOF.out)
          have HX6 := Lib.hid hx6
          have hz6 := hg6.size
          go_roundw
          case rel => exact ⟨k + 1, A6, c6, by omega, by rw [HST.out]; simp, by go_num, by rw [HST.out]; exact HO6.out, (fun X hX => by
            rcases HX6.out X hX with ⟨Y, hY, he⟩ | h
            · have := HOF.out Y hY; omega
            · simp at h; right; omega), HG6.out⟩
          case measure => simp [intOf]; omega
      · rw [show hasB YS x = false from decide_eq_false hxy] at HH1
        rw [if_neg (fun h => hxy h.1)] at hst
        have HST := Lib.hid hst
        clear hst hxy
        go_wp2_with fail
        refine (HH1.out _ (by (try unfold RdP); repeat (first | (with_reducible exact HYR1.out) | (with_reducible apply rd_seq) | (with_reducible apply Rd.plus) | (with_reducible apply Rd.alloc) | (with_reducible apply Rd.drew) | (with_reducible apply Rd.drewN)))).mono ?_
        rintro e w' ⟨rfl, z1, rfl⟩
        go_wp2_with fail
        go_roundw
        case rel => exact ⟨k + 1, A, cp, by omega, by rw [HST.out], by go_num, by rw [HST.out]; exact (by repeat (first | (with_reducible exact HO.out) | (with_reducible apply own_seq) | (with_reducible apply own_draw) | (with_reducible apply Own.plus) | (with_reducible apply Own.alloc) | (with_reducible apply Own.drew) | (with_reducible apply Own.drewN))), HOF.out, grew_plus HG.out _⟩
        case measure => simp [intOf]; omega
    · obtain rfl : k = XS.length := by omega
      rw [List.take_length, HRE.out] at hown ⊢
      have HO := Lib.hid hown
      have HBE := Lib.hid (HB.out.trans (below_but (B := w.heap.size) hg zw1 (by omega)))
      clear hown hg
      go_wp2_with fail
      go_ret
      exact ⟨A, cp, rfl, HO.out.lower (by omega), below_more (by repeat (first | (with_reducible exact HBE.out) | refine below_plus ?_ (by first | omega | (simp <;> omega)) _ | refine Below.alloc ?_ (by first | omega | (simp <;> omega)) _ | refine below_patch ?_ (by omega) _ | refine Below.drew ?_))⟩

end Go.Proofs.Ytkpmaifdeeecjaa
