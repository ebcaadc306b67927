/- Lemmas and walks, part Gb. -/
import Derived.Test.YtmddcbebaijjkaaDoorGa
import Derived.OrdersHeld
import Derived.Deep.RegionHeld3
import Derived.Deep.SlicePairs

/- Walks: the next word's code, whether it grows, the greatest code, the width. -/
namespace Go.Proofs.YtmddcbebaijjkaaDoor
open Go.RowKit
set_option linter.unusedVariables false
set_option linter.unusedSimpArgs false

/-- the code of the next word -/
def nw (l n : Int) : Int := two l + 1 + 1 + n

def grB (l m n last : Int) : Bool := decide (last ≠ -1 ∧ nw l n ≤ two m - 1)

theorem grB_iff {l m n last : Int} : grB l m n last = true ↔ (last ≠ -1 ∧ nw l n ≤ two m - 1) := by simp [grB]

/-- the greatest code that can follow -/
def gt (l m n last : Int) : Int := if grB l m n last then nw l n else nw l n - 1

/-- the number of binary digits -/
def need (n : Int) : Int := if n < 2 then 1 else if n < 4 then 2 else if n < 8 then 3 else if n < 16 then 4 else if n < 32 then 5 else if n < 64 then 6 else if n < 128 then 7 else if n < 256 then 8 else if n < 512 then 9 else if n < 1024 then 10 else 11

theorem need_bd (n : Int) : 1 ≤ need n ∧ need n ≤ 11 := by unfold need; omega

/-- the width of the next code -/
def wd (l m n last : Int) : Int := max (need (gt l m n last)) (l + 1)

structure Lim (o l m n last : Int) : Prop where
  s : sv o l m = true
  n0 : 0 ≤ n
  n1 : n ≤ two m - 1 - (two l + 1)
  last : -1 ≤ last

theorem KV.lim {o l m : Int} {ps : List Pr} {base last : Int} (h : KV o l m ps base last) : Lim o l m ps.length last :=
  ⟨h.s, by omega, h.len, by
    rcases h.last with h1 | h1
    · omega
    · have := hw_iff.1 h1
      obtain ⟨_, h2, h3, _, _⟩ := sv_iff.1 h.s
      obtain ⟨t1, t2⟩ := two_lit h2 h3
      omega⟩

theorem Lim.bds {o l m n last : Int} (h : Lim o l m n last) : 1 ≤ l ∧ l ≤ 8 ∧ m ≤ 10 ∧ l + 2 ≤ m ∧ 2 ≤ two l ∧ two l ≤ 256 ∧ 4 * two l ≤ two m ∧ two m ≤ 1024 := by
  obtain ⟨_, h2, h3, h4, h5⟩ := sv_iff.1 h.s
  obtain ⟨t1, t2⟩ := two_lit h2 h3
  obtain ⟨t3, t4⟩ := two_bd (n := m) (by omega) (by omega)
  exact ⟨h2, h3, h5, h4, t1, t2, two_four h2 h4 h5, t4⟩

end Go.Proofs.YtmddcbebaijjkaaDoor

/- Walks: looks at marks and comparisons in slices of strings. -/
namespace Go.Proofs.YtmddcbebaijjkaaDoor
open Go.RowKit
set_option linter.unusedVariables false
set_option linter.unusedSimpArgs false

end Go.Proofs.YtmddcbebaijjkaaDoor

/- Walks: new writers and readers; their comparisons and marks. -/
namespace Go.Proofs.YtmddcbebaijjkaaDoor
open Go.RowKit
set_option linter.unusedVariables false
set_option linter.unusedSimpArgs false

theorem patch_plus (w : World) (x : Ext) (b : Nat) (o : Obj) (h : b < w.heap.size) : patch (plus w x) b o = plus (patch w b o) x := by
  refine world_ext (fun k => ?_) rfl rfl rfl rfl
  rw [patch_heap]
  by_cases hk : b = k
  · subst hk
    rw [if_pos rfl, if_pos (by rw [plus_size]; omega), plus_block _ _ (by simpa using h), patch_at w b o h]
  · rw [if_neg hk]
    by_cases hk2 : k < w.heap.size
    · rw [plus_block _ _ hk2, plus_block _ _ (by simpa using hk2), patch_other w b o (fun e => hk e.symm)]
    · exact plus_above _ _ _ (by simp) (by simpa using Nat.le_of_not_lt hk2)

theorem patch_alloc (w : World) (o1 : Obj) (b : Nat) (o : Obj) (h : b < w.heap.size) : patch (w.alloc o1) b o = (patch w b o).alloc o1 := by
  rw [alloc_plus, patch_plus _ _ _ _ h, alloc_plus]
  rfl

/-- what a call leaves that writes marks from k on into n pairs in block b -/
def RetM (w : World) (b cap n : Nat) (k : Int) (e : Ending) (w' : World) : Prop :=
  e = .returned (.int .i64 (k + 2 * n)) ∧ ∃ cur' x, w' = plus (patch w b (.cells cur' 53)) x ∧ cur'.size = cap * 2 ∧ Row encP cur' (marks k n)

theorem markKnown_some (o l m : Int) (b cap n : Nat) (base last : Int) (cur : Array Value) (k : Int) (w : World) (hb : w.heap[b]? = some (.cells cur 53 (0, 0))) (hcur : cur.size = cap * 2) (hn : n ≤ cap) (hn2 : n ≤ 2000000) (hk0 : 0 ≤ k) (hk1 : k ≤ 4000000000) :
    Calls Tryd.prog 13 #[.agg #[.int .i64 o, .int .i64 l, .int .i64 m, .slice (some ⟨b, 0, none⟩) n cap, .int .i64 base, .int .i64 last], .int .i64 k] w (RetM w b cap n k) := by
  have hbs : b < w.heap.size := (Array.getElem?_eq_some_iff.1 hb).1
  have hb2 : ∀ o1, (w.alloc o1).heap[b]? = some (.cells cur 53 (0, 0)) := fun o1 => by rw [push_at, if_pos hbs]; exact hb
  have HB := Lib.hid hb2
  clear hb hb2
  go_enter Tryd.func13, Tryd.ntmps13
  go_wp2_with (go_at_call 43; refine (markPairS_some b cap n cur k _ (HB.out _) hcur hn hn2 hk0 hk1).mono ?_; rintro e w' ⟨rfl, cur', rfl, hc1, hc2⟩)
  go_ret
  exact ⟨rfl, cur', ⟨#[_], _⟩, by rw [patch_alloc _ _ _ _ hbs, alloc_plus], hc1, hc2⟩

end Go.Proofs.YtmddcbebaijjkaaDoor

/- Words of pairs, as strings; the walk of impl.KnownWords. -/
namespace Go.Proofs.YtmddcbebaijjkaaDoor
open Go.RowKit
set_option linter.unusedVariables false
set_option linter.unusedSimpArgs false

/-- the word of a code, where ws are the words behind the end code -/
def lkw (l : Int) (ws : List ByteArray) (c : Int) : ByteArray := if two l + 1 < c then (ws[(c - (two l + 1)).toNat - 1]?).getD ⟨#[]⟩ else one c

def wstep (l : Int) (ws : List ByteArray) (p : Pr) : List ByteArray := ws ++ [lkw l ws p.p ++ one p.b]

/-- the words of the pairs -/
def wordsL (l : Int) (ps : List Pr) : List ByteArray := ps.foldl (wstep l) []

theorem wordsL_snoc (l : Int) (ps : List Pr) (p : Pr) : wordsL l (ps ++ [p]) = wstep l (wordsL l ps) p := by simp [wordsL]

theorem take_snoc_some {α : Type} {xs : List α} {k : Nat} {x : α} (h : xs[k]? = some x) : xs.take (k + 1) = xs.take k ++ [x] := by
  rw [List.take_add_one, h]; rfl

theorem wordsL_len (l : Int) (ps : List Pr) : (wordsL l ps).length = ps.length := by
  have key : ∀ (ps : List Pr) (ws : List ByteArray), (ps.foldl (wstep l) ws).length = ws.length + ps.length := by
    intro ps
    induction ps with
    | nil => intro ws; simp
    | cons p ps ih => intro ws; rw [List.foldl_cons, ih]; simp [wstep]; omega
  unfold wordsL
  simpa using key ps []

/-- a beginning of the pairs has a beginning of the words -/
theorem wordsL_pre (l : Int) (ps qs : List Pr) : ∃ ws, wordsL l (ps ++ qs) = wordsL l ps ++ ws := by
  induction qs generalizing ps with
  | nil => exact ⟨[], by simp⟩
  | cons q qs ih =>
    obtain ⟨ws, h⟩ := ih (ps ++ [q])
    rw [List.append_assoc] at h
    refine ⟨[lkw l (wordsL l ps) q.p ++ one q.b] ++ ws, ?_⟩
    rw [show ps ++ q :: qs = ps ++ ([q] ++ qs) by simp, h, wordsL_snoc]
    simp [wstep]

theorem wordsL_get {l : Int} {ps : List Pr} {k : Nat} {p : Pr} (h : ps[k]? = some p) : (wordsL l ps)[k]? = some (lkw l (wordsL l (ps.take k)) p.p ++ one p.b) := by
  obtain ⟨ws, hw⟩ := wordsL_pre l (ps.take (k + 1)) (ps.drop (k + 1))
  rw [List.take_append_drop] at hw
  rw [hw, take_snoc_some h, wordsL_snoc]
  have hl : (wordsL l (ps.take k)).length = k := by
    rw [wordsL_len]
    have := (List.getElem?_eq_some_iff.1 h).1
    simp; omega
  simp [wstep, hl]

theorem wordsL_take {l : Int} {ps : List Pr} {k i : Nat} (hi : i < k) : (wordsL l (ps.take k))[i]? = (wordsL l ps)[i]? := by
  obtain ⟨ws, hw⟩ := wordsL_pre l (ps.take k) (ps.drop k)
  rw [List.take_append_drop] at hw
  by_cases hk : k ≤ ps.length
  · rw [hw, List.getElem?_append_left (by rw [wordsL_len]; simp; omega)]
  · rw [List.take_of_length_le (by omega)]

theorem infoString : (Tryd.prog.info? 9).map (fun i => (i.zero, i.size, i.bytes)) = some (some (.string ⟨#[]⟩), 1, 16) := by kernel_rfl

end Go.Proofs.YtmddcbebaijjkaaDoor

/- A region that draws its order, of loads (quiet in every extension of the world at hand) and of operations that come up alone: walked once. -/
namespace Go.Proofs.YtmddcbebaijjkaaDoor
open Go.RowKit
set_option linter.unusedVariables false
set_option linter.unusedSimpArgs false

section
variable {P : Program} {ops : Array Oper} {md : Region.Mode} {S : World → Prop} {Q : Exit → Act → World → Prop}

end
end Go.Proofs.YtmddcbebaijjkaaDoor

/- A region that draws its order, walked once by a schedule: quiet operations as soon as they may come up, the others when they come up alone. -/
namespace Go.Proofs.YtmddcbebaijjkaaDoor
open Go.RowKit
set_option linter.unusedVariables false
set_option linter.unusedSimpArgs false

section
variable {P : Program} {ops : Array Oper} {md : Region.Mode} {S : World → Prop} {Q : Exit → Act → World → Prop}

end
end Go.Proofs.YtmddcbebaijjkaaDoor

/- A region that draws its order, walked by a plan: quiet operations first, one that comes up alone, or two that may come up in either order. -/
namespace Go.Proofs.YtmddcbebaijjkaaDoor
open Go.RowKit
set_option linter.unusedVariables false
set_option linter.unusedSimpArgs false

inductive Plan where
  | done : Plan
  | quiet (k : Nat) (p : Plan) : Plan
  | one (k : Nat) (p : Plan) : Plan
  | two (k1 : Nat) (p1 : Plan) (k2 : Nat) (p2 : Plan) : Plan

def Plan.len : Plan → Nat
  | .done => 0
  | .quiet _ p => p.len + 1
  | .one _ p => p.len + 1
  | .two _ p1 _ _ => p1.len + 1

section
variable {P : Program} {ops : Array Oper} {md : Region.Mode} {S : World → Prop} {Q : Exit → Act → World → Prop}

theorem wpOp_of_one {k : Nat} {o : Oper} {a : Act} {w : World} {R : Act → World → Prop} (hi : ops[k]? = some o) (hg : o.guard = none)
    (h : ∀ K : Act → World → Prop, (∀ a' w', R a' w' → K a' w') → o.wp P a w K Q) : wpOp P ops Q k R a w := by
  unfold wpOp
  simp only [hi]
  rw [if_pos (by unfold Region.wanted; rw [hg])]
  exact .inl (h _ fun a' w' h1 => h1)

end
end Go.Proofs.YtmddcbebaijjkaaDoor

/- Own slices that grow by append: the kit's law on rows, in the words of Own. -/
namespace Go.Proofs.YtmddcbebaijjkaaDoor
open Go.RowKit
set_option linter.unusedVariables false
set_option linter.unusedSimpArgs false

theorem row_take {α : Type} {E : Enc α} {cur : Array Value} {xs : List α} (h : Row E cur xs) : cur.toList.take (xs.length * E.sz) = flat E xs := by
  apply List.ext_getElem?
  intro j
  have hl := flat_len E xs
  by_cases hj : j < xs.length * E.sz
  · rw [List.getElem?_take, if_pos hj]
    have : (flat E xs)[j]? = some ((flat E xs)[j]'(by omega)) := List.getElem?_eq_getElem (by omega)
    rw [this]
    have := h j _ this
    simpa using this
  · rw [List.getElem?_take, if_neg hj, List.getElem?_eq_none (by omega)]

theorem take_row {α : Type} {E : Enc α} {cur : Array Value} {xs : List α} {n : Nat} (h : cur.toList.take n = flat E xs) : Row E cur xs := by
  refine (fun j u hj => ?_ : ∀ (j : Nat) (u : Value), (flat E xs)[j]? = some u → _)
  rw [← h, List.getElem?_take] at hj
  split at hj
  · simpa using hj
  · cases hj

theorem own_to {α : Type} {E : Enc α} {e : TypeId} {w : World} {a : Option Addr} {cap : Nat} {xs : List α} {lo : Nat} (h : Own E e w a cap xs lo) : w.ownsRow lo e E.sz (.slice a xs.length cap) xs.length (flat E xs) := by
  refine ⟨flat_len E xs, ?_⟩
  rcases h with ⟨rfl, rfl, rfl⟩ | ⟨b, cur, rfl, h1, hb, hs, hr, hl, hm⟩
  · exact .inl ⟨rfl, rfl⟩
  · exact .inr ⟨b, cap, cur, rfl, h1, hb, hl, by simpa [maxLen] using hm, hs, row_take hr⟩

theorem own_of {α : Type} {E : Enc α} {e : TypeId} {w : World} {v : Value} {xs : List α} {lo : Nat} (h : w.ownsRow lo e E.sz v xs.length (flat E xs)) : ∃ a cap, v = .slice a xs.length cap ∧ Own E e w a cap xs lo := by
  obtain ⟨_, h2⟩ := h
  rcases h2 with ⟨rfl, h0⟩ | ⟨g, cap, cur, rfl, h1, hb, hl, hm, hs, ht⟩
  · obtain rfl : xs = [] := List.eq_nil_of_length_eq_zero h0
    exact ⟨none, 0, rfl, .inl ⟨rfl, rfl, rfl⟩⟩
  · exact ⟨some ⟨g, 0, none⟩, cap, rfl, .inr ⟨g, cur, rfl, h1, hb, hs, take_row ht, hl, by simpa [maxLen] using hm⟩⟩

/-- below B nothing has turned, and no block but a's has -/
structure Grew (a : Option Addr) (w w' : World) : Prop where
  os : w'.os = w.os
  tape : w'.tape = w.tape
  output : w'.output = w.output
  size : w.heap.size ≤ w'.heap.size
  block : ∀ k, k < w.heap.size → (∀ A, a = some A → A.block ≠ k) → w'.heap[k]? = w.heap[k]?

theorem Grew.below {a : Option Addr} {w w' : World} (h : Grew a w w') {B : Nat} (hB : B ≤ w.heap.size) (ha : ∀ A, a = some A → B ≤ A.block) : Below B w w' :=
  ⟨h.os, h.tape, h.output, h.size, fun k hk => h.block k (by omega) fun A hA e => by have := ha A hA; omega⟩

section
variable {P : Program} {ops : Array Oper} {rest : List Oper} {o : Oper} {a : Act} {w : World} {Q : Exit → Act → World → Prop}

end
end Go.Proofs.YtmddcbebaijjkaaDoor

/- The walk of spec.l2Word: the word of a code, back along the pairs, then turned round. -/
namespace Go.Proofs.YtmddcbebaijjkaaDoor
open Go.RowKit
set_option linter.unusedVariables false
set_option linter.unusedSimpArgs false

theorem below_more {w w' : World} (h : Below w.heap.size w w') : More w w' := by
  refine ⟨⟨w'.heap.extract w.heap.size w'.heap.size, w'.drawn⟩, world_ext (fun k => ?_) h.tape rfl h.os h.output⟩
  show w'.heap[k]? = (w.heap ++ w'.heap.extract w.heap.size w'.heap.size)[k]?
  rw [Array.getElem?_append]
  by_cases hk : k < w.heap.size
  · rw [if_pos hk]; exact h.block k hk
  · rw [if_neg hk, Array.getElem?_extract]
    have := h.size
    by_cases hk2 : k < w'.heap.size
    · rw [if_pos (by omega), show w.heap.size + (k - w.heap.size) = k by omega]
    · rw [if_neg (by omega)]; exact Array.getElem?_eq_none (by omega)

/-- the bytes of the word of a code -/
def wb (l : Int) (ws : List ByteArray) (c : Int) : List UInt8 := (lkw l ws c).data.toList

theorem wb_lit {l : Int} {ws : List ByteArray} {c : Int} (h : ¬ two l + 1 < c) : wb l ws c = [UInt8.ofNat c.toNat] := by
  unfold wb lkw; rw [if_neg h]; rfl

theorem wb_pair {l : Int} {ps : List Pr} {c : Int} {p : Pr} (h : two l + 1 < c) (hp : ps[(c - (two l + 1)).toNat - 1]? = some p) (hpre : two l + 1 < p.p → (p.p - (two l + 1)).toNat - 1 < (c - (two l + 1)).toNat - 1) :
    wb l (wordsL l ps) c = wb l (wordsL l ps) p.p ++ [UInt8.ofNat p.b.toNat] := by
  have h1 := wordsL_get (l := l) hp
  have e : lkw l (wordsL l (ps.take ((c - (two l + 1)).toNat - 1))) p.p = lkw l (wordsL l ps) p.p := by
    unfold lkw
    split
    · rename_i hq; rw [wordsL_take (hpre hq)]
    · rfl
  rw [e] at h1
  unfold wb
  have e2 : lkw l (wordsL l ps) c = lkw l (wordsL l ps) p.p ++ one p.b := by
    rw [show lkw l (wordsL l ps) c = ((wordsL l ps)[(c - (two l + 1)).toNat - 1]?).getD ⟨#[]⟩ by unfold lkw; rw [if_pos h], h1]; rfl
  rw [e2]
  simp [one, ByteArray.data_append]

theorem own_lt {α : Type} {E : Enc α} {e : TypeId} {w : World} {a : Option Addr} {cap : Nat} {xs : List α} {lo : Nat} (h : Own E e w a cap xs lo) : ∀ A, a = some A → lo ≤ A.block ∧ A.block < w.heap.size := by
  intro A hA
  rcases h with ⟨h0, _⟩ | ⟨b, cur, h0, h1, hb, _⟩
  · rw [h0] at hA; cases hA
  · rw [h0] at hA; cases hA; exact ⟨h1, (Array.getElem?_eq_some_iff.1 hb).1⟩

def bv (xs : List UInt8) (j : Nat) : Int := ((xs[j]?).getD 0).toNat

/-- the row after i swaps -/
def Rvc (cur : Array Value) (xs : List UInt8) (i : Nat) : Prop :=
  ∀ j, j < xs.length → cur[j]? = some (.int .u8 (if j < i ∨ xs.length - 1 - j < i then bv xs (xs.length - 1 - j) else bv xs j))

theorem Rvc.zero {cur : Array Value} {xs : List UInt8} (h : Row encB cur xs) : Rvc cur xs 0 := by
  intro j hj
  rw [if_neg (by omega)]
  obtain ⟨x, hx⟩ : ∃ x, xs[j]? = some x := ⟨_, List.getElem?_eq_getElem hj⟩
  have : (flat encB xs)[j]? = some (.int .u8 (x.toNat : Int)) := by rw [flatB]; simp [hx]
  rw [h j _ this]
  simp [bv, hx]

theorem Rvc.lo {cur : Array Value} {xs : List UInt8} {i : Nat} (h : Rvc cur xs i) (hi : i < xs.length / 2) : cur[i]? = some (.int .u8 (bv xs i)) := by
  rw [h i (by omega), if_neg (by omega)]

theorem Rvc.hi {cur : Array Value} {xs : List UInt8} {i : Nat} (h : Rvc cur xs i) (hi : i < xs.length / 2) : cur[xs.length - 1 - i]? = some (.int .u8 (bv xs (xs.length - 1 - i))) := by
  rw [h _ (by omega), if_neg (by omega)]

theorem Rvc.step {cur : Array Value} {xs : List UInt8} {i : Nat} (h : Rvc cur xs i) (hi : i < xs.length / 2) (hs : xs.length ≤ cur.size) :
    Rvc ((cur.setIfInBounds i (.int .u8 (bv xs (xs.length - 1 - i)))).setIfInBounds (xs.length - 1 - i) (.int .u8 (bv xs i))) xs (i + 1) := by
  intro j hj
  simp only [Array.getElem?_setIfInBounds, Array.size_setIfInBounds]
  by_cases e1 : xs.length - 1 - i = j
  · rw [if_pos e1, if_pos (by omega), if_pos (by omega), show xs.length - 1 - j = i by omega]
  · rw [if_neg e1]
    by_cases e2 : i = j
    · rw [if_pos e2, if_pos (by omega), if_pos (by omega), e2]
    · rw [if_neg e2, h j hj]
      by_cases e3 : j < i ∨ xs.length - 1 - j < i
      · rw [if_pos e3, if_pos (by omega)]
      · rw [if_neg e3, if_neg (by omega)]

theorem Rvc.done {cur : Array Value} {xs : List UInt8} {i : Nat} (h : Rvc cur xs i) (hi : ¬ i < xs.length / 2) : Row encB cur xs.reverse := by
  refine row_of encB _ _ fun j x hx k hk => ?_
  have hk' : k < 1 := hk
  obtain rfl : k = 0 := by omega
  have hj : j < xs.length := by simpa using (List.getElem?_eq_some_iff.1 hx).1
  have hb : bv xs (xs.length - 1 - j) = x.toNat := by
    rw [List.getElem?_reverse hj] at hx
    simp [bv, hx]
  show cur[j * 1 + 0]? = some (.int .u8 (x.toNat : Int))
  rw [show j * 1 + 0 = j by omega, h j hj, ← hb]
  split
  · rfl
  · rw [show xs.length - 1 - j = j by omega]

end Go.Proofs.YtmddcbebaijjkaaDoor

/- How a law's row is closed: from the walk's 'true, and nothing old has turned'; and arguments opened. -/
namespace Go.Proofs.YtmddcbebaijjkaaDoor
open Go.RowKit
open Go.ChangeShapes Go.WideShapes Go.ChangeAt Go.RowKit Go.WideElems
set_option linter.unusedVariables false
set_option linter.unusedSimpArgs false

section
variable {H : Type} {enc : TypeId × Value → H} {P : Program} {W W' : World}

theorem trodAll_later (hl : laidOutB P = true) {sp : Nat → Bool} (hb : Below W.heap.size W W') :
    ∀ (ts : List TypeId) (vs : List Value) (ds : List (DataW H)) (p : List MemPlace), ts.all (fun t => P.readableRec t && decide (t < P.types.size)) = true → DataW.TrodAll enc P W 0 (fun _ => true) true ts vs ds p →
      (∀ x ∈ p, x.block < W.heap.size) → (∀ x ∈ p, sp x.block = true) → DataW.TrodAll enc P W' 0 sp true ts vs ds p
  | [], vs, ds, p, _, h, _, _ => by
    obtain ⟨rfl, rfl, rfl⟩ := trodAll_nil h
    exact trodAll_mk0
  | t :: ts, vs, ds, p, ht, h, hlt, hsp => by
    simp only [List.all_cons, Bool.and_eq_true, decide_eq_true_eq] at ht
    obtain ⟨⟨h1, h2⟩, h3⟩ := ht
    obtain ⟨v, vs', d, ds', p1, p2, rfl, rfl, rfl, h4, h5⟩ := trodAll_cons h
    exact trodAll_cons_mk (Trod_stays hl h1 h2 h4 (fun x hx => hb.same (hlt x (List.mem_append_left _ hx))) (fun x hx => hsp x (List.mem_append_left _ hx)))
      (trodAll_later hl hb ts vs' ds' p2 (by simpa using h3) h5 (fun x hx => hlt x (List.mem_append_right _ hx)) (fun x hx => hsp x (List.mem_append_right _ hx)))

/-- the row's post, from a walk that returns true and turns nothing old -/
theorem law_post {f : Func} {s : ChangeSpec} {args : Array Value} {ds gs : List (DataW H)} {before : List MemPlace} {tb : TypeId} (hl : laidOutB P = true)
    (hW : DataW.Whole enc P f.params.toList s.vars false W args.toList ds gs before) (hv : s.vars = []) (hts : f.params.toList.all (fun t => P.readableRec t && decide (t < P.types.size)) = true)
    (hres : f.resultTypes.toList = [tb]) (hbool : P.underlying tb = some .bool) (hfn : s.fn H ds = { results := [.lit (.bool true)], args := ds }) (hb : Below W.heap.size W W') :
    s.post enc P f false true false false W args (.bool true) W' := by
  have hlt : ∀ p ∈ before, p.block < W.heap.size := fun p hp => hW.lt p hp
  have hW2 := hW
  obtain ⟨p, q, hA, hV, rfl, _, _⟩ := hW
  rw [hv] at hV
  obtain ⟨rfl, rfl⟩ := trodVars_none hV
  simp only [List.append_nil] at hW2 hlt
  refine ⟨ds, [], p, [], p, [], hW2, ?_, ?_, ?_, hb.frame _, fun h => by cases h⟩
  · simp only [List.append_nil, hfn, hres]
    have hn : f.resultTypes.size = 1 := by
      have := congrArg List.length hres
      simpa using this
    rw [hn]
    exact trodAll_cons_mk (shut_bool hbool _) trodAll_mk0
  · simp only [List.append_nil, hfn]
    exact trodAll_later hl hb _ _ _ _ hts hA hlt (fun x hx => by simpa using hlt x hx)
  · simp only [List.append_nil, hfn, hv]
    rfl

end
end Go.Proofs.YtmddcbebaijjkaaDoor

/- Arguments that hold something known, opened. -/
namespace Go.Proofs.YtmddcbebaijjkaaDoor
open Go.RowKit
open Go.ChangeShapes Go.WideShapes Go.ChangeAt Go.RowKit Go.WideElems
set_option linter.unusedVariables false
set_option linter.unusedSimpArgs false

section
variable {H : Type} {enc : TypeId × Value → H} {P : Program} {W W' : World}

end
end Go.Proofs.YtmddcbebaijjkaaDoor

/- Arguments that are settings, opened. -/
namespace Go.Proofs.YtmddcbebaijjkaaDoor
open Go.RowKit
open Go.ChangeShapes Go.WideShapes Go.ChangeAt Go.RowKit Go.WideElems
set_option linter.unusedVariables false
set_option linter.unusedSimpArgs false

end Go.Proofs.YtmddcbebaijjkaaDoor
