/- Lemmas and walks, part Ga. -/
import Derived.Test.YtmddcbebaijjkaaDoorRows
import Derived.WalkKit
import Derived.ProofKit
import Derived.OpenShut
import Derived.JoinedCond
import Derived.Outline
import Derived.BigQuiet
import Derived.IntWalk
import Derived.Lib.Hide
import Derived.Deep.AppendSrc
import Derived.Deep.LoopGhost

/- Worlds that grow, and the plain forms of settings, pairs and what is known; no program in sight. -/
namespace Go.Proofs.YtmddcbebaijjkaaDoor
open Go.RowKit
set_option linter.unusedVariables false
set_option linter.unusedSimpArgs false

/-- blocks more, and a count of draws -/
structure Ext where
  os : Array Obj
  d : Nat

instance : Inhabited Ext := ⟨⟨#[], 0⟩⟩

/-- w with blocks more, and some count of draws. -/
def plus (w : World) (x : Ext) : World := { w with heap := w.heap ++ x.os, drawn := x.d }

def Ext.n (x : Ext) : Nat := x.os.size

def Ext.seq (x y : Ext) : Ext := ⟨x.os ++ y.os, y.d⟩

def Ext.draw (x : Ext) (n : Nat) : Ext := ⟨x.os, x.d + n⟩

@[simp, go_sem] theorem plus_size (w : World) (x : Ext) : (plus w x).heap.size = w.heap.size + x.n := by simp [plus, Ext.n]

@[simp, go_sem] theorem plus_plus (w : World) (x y : Ext) : plus (plus w x) y = plus w (x.seq y) := by simp [plus, Ext.seq]

@[simp, go_sem] theorem plus_drew (w : World) (x : Ext) : (plus w x).drew = plus w (x.draw 1) := rfl

@[simp, go_sem] theorem plus_drewN (w : World) (x : Ext) (n : Nat) : (plus w x).drewN n = plus w (x.draw n) := rfl

@[simp, go_sem] theorem drew_plus (w : World) (x : Ext) : plus w.drew x = plus w x := rfl

@[simp, go_sem] theorem drewN_plus (w : World) (x : Ext) (n : Nat) : plus (w.drewN n) x = plus w x := rfl

@[simp, go_sem] theorem plus_tape (w : World) (x : Ext) : (plus w x).tape = w.tape := rfl

theorem plus_self (w : World) : plus w ⟨#[], w.drawn⟩ = w := by cases w; simp [plus]

theorem alloc_plus (w : World) (o : Obj) : w.alloc o = plus w ⟨#[o], w.drawn⟩ := by unfold plus World.alloc; rw [Array.push_eq_append]

theorem drew_is_plus (w : World) : w.drew = plus w ⟨#[], w.drawn + 1⟩ := by unfold plus World.drew; rw [Array.append_empty]

theorem drewN_is_plus (w : World) (n : Nat) : w.drewN n = plus w ⟨#[], w.drawn + n⟩ := by unfold plus World.drewN; rw [Array.append_empty]

theorem plus_block (w : World) (x : Ext) {k : Nat} (h : k < w.heap.size) : (plus w x).heap[k]? = w.heap[k]? := by
  simp [plus, Array.getElem?_append, h]

theorem plus_cell_lt (w : World) (x : Ext) {a : Addr} (h : a.block < w.heap.size) : (plus w x).cell? a = w.cell? a :=
  World.cell?_of_block (plus_block w x h)

theorem plus_frozen_lt (w : World) (x : Ext) {a : Addr} (h : a.block < w.heap.size) : (plus w x).frozen? a = w.frozen? a :=
  World.frozen?_of_block (plus_block w x h)

def cellPast (w : World) (a : Addr) : Option Value := w.cell? a

def frozenPast (w : World) (a : Addr) : Bool := w.frozen? a

@[go_sem] theorem plus_cell (w : World) (x : Ext) (n i : Nat) : (plus w x).cell? ⟨n, i, none⟩ = if n < w.heap.size then w.cell? ⟨n, i, none⟩ else cellPast (plus w x) ⟨n, i, none⟩ := by
  split
  · exact plus_cell_lt w x (by assumption)
  · rfl

@[go_sem] theorem plus_frozen (w : World) (x : Ext) (n i : Nat) : (plus w x).frozen? ⟨n, i, none⟩ = if n < w.heap.size then w.frozen? ⟨n, i, none⟩ else frozenPast (plus w x) ⟨n, i, none⟩ := by
  split
  · exact plus_frozen_lt w x (by assumption)
  · rfl

def setPast (w : World) (a : Addr) (v : Value) : World := w.setCell a v

theorem plus_setCell_lt (w : World) (x : Ext) (a : Addr) (v : Value) (h : a.block < w.heap.size) : (plus w x).setCell a v = plus (w.setCell a v) x := by
  unfold World.setCell plus
  congr 1
  apply Array.ext_getElem?
  intro k
  simp only [Array.getElem?_modify, Array.getElem?_append, Array.size_modify]
  by_cases hk : k < w.heap.size
  · simp [hk]
  · simp [hk, show ¬ a.block = k by omega]

@[go_sem] theorem plus_setCell (w : World) (x : Ext) (n i : Nat) (v : Value) : (plus w x).setCell ⟨n, i, none⟩ v = if n < w.heap.size then plus (w.setCell ⟨n, i, none⟩ v) x else setPast (plus w x) ⟨n, i, none⟩ v := by
  split
  · exact plus_setCell_lt w x _ _ (by assumption)
  · rfl

@[go_sem] theorem alloc_setCell (w : World) (c : Array Value) (t : TypeId) (n i : Nat) (v : Value) : (w.alloc (.cells c t)).setCell ⟨n, i, none⟩ v =
    if n < w.heap.size then (w.setCell ⟨n, i, none⟩ v).alloc (.cells c t) else if n = w.heap.size then w.alloc (.cells (c.setIfInBounds i v) t) else setPast (w.alloc (.cells c t)) ⟨n, i, none⟩ v := by
  split
  · exact World.setCell_alloc_past _ _ _ _ (by assumption)
  · split
    · exact World.setCell_alloc_at _ _ _ _ _ (by assumption)
    · rfl

theorem push_at (w : World) (o : Obj) (n : Nat) : (w.alloc o).heap[n]? = if n < w.heap.size then w.heap[n]? else if n = w.heap.size then some o else none := by
  show (w.heap.push o)[n]? = _
  rw [Array.getElem?_push]
  by_cases h : n = w.heap.size
  · rw [if_pos h, if_neg (by omega), if_pos h]
  · rw [if_neg h, if_neg h]
    by_cases h2 : n < w.heap.size
    · rw [if_pos h2]
    · rw [if_neg h2]; exact Array.getElem?_eq_none (by omega)

@[go_sem] theorem alloc_cell (w : World) (c : Array Value) (t : TypeId) (fz : Nat × Nat) (n i : Nat) : (w.alloc (.cells c t fz)).cell? ⟨n, i, none⟩ = if n < w.heap.size then w.cell? ⟨n, i, none⟩ else if n = w.heap.size then c[i]? else none := by
  by_cases h : n < w.heap.size
  · rw [if_pos h]; exact World.cell?_alloc_lt _ _ _ h
  unfold World.cell?
  show (match (w.alloc (.cells c t fz)).heap[n]? with | some (.cells c _ _) => _ | _ => _) = _
  rw [push_at]
  by_cases h2 : n = w.heap.size
  · simp only [if_neg h, if_pos h2]; rfl
  · simp only [if_neg h, if_neg h2]

@[go_sem] theorem alloc_frozen (w : World) (c : Array Value) (t : TypeId) (n i : Nat) : (w.alloc (.cells c t)).frozen? ⟨n, i, none⟩ = if n < w.heap.size then w.frozen? ⟨n, i, none⟩ else false := by
  by_cases h : n < w.heap.size
  · rw [if_pos h]; exact World.frozen?_alloc_past _ _ _ h
  unfold World.frozen?
  show (match (w.alloc (.cells c t)).heap[n]? with | some (.cells _ _ (lo, hi)) => _ | _ => _) = _
  rw [push_at]
  by_cases h2 : n = w.heap.size
  · simp only [if_neg h, if_pos h2]; simp
  · simp only [if_neg h, if_neg h2]

/-- w with block b turned into o -/
def patch (w : World) (b : Nat) (o : Obj) : World := { w with heap := w.heap.setIfInBounds b o }

@[simp, go_sem] theorem patch_size (w : World) (b : Nat) (o : Obj) : (patch w b o).heap.size = w.heap.size := by simp [patch]

@[simp, go_sem] theorem patch_tape (w : World) (b : Nat) (o : Obj) : (patch w b o).tape = w.tape := rfl

theorem patch_other (w : World) (b : Nat) (o : Obj) {n : Nat} (h : n ≠ b) : (patch w b o).heap[n]? = w.heap[n]? := by
  simp only [patch, Array.getElem?_setIfInBounds]
  rw [if_neg (fun e => h e.symm)]

theorem patch_at (w : World) (b : Nat) (o : Obj) (h : b < w.heap.size) : (patch w b o).heap[b]? = some o := by
  simp [patch, h]

theorem patch_self (w : World) (b : Nat) (o : Obj) (h : w.heap[b]? = some o) : patch w b o = w := by
  unfold patch
  have : w.heap.setIfInBounds b o = w.heap := by
    apply Array.ext_getElem?
    intro k
    rw [Array.getElem?_setIfInBounds]
    split
    · rename_i hk; subst hk
      rw [h, if_pos (Array.getElem?_eq_some_iff.1 h).1]
    · rfl
  rw [this]

@[go_sem] theorem patch_cell (w : World) (b : Nat) (c : Array Value) (t : TypeId) (n i : Nat) : (patch w b (.cells c t)).cell? ⟨n, i, none⟩ = if b < w.heap.size then if n = b then c[i]? else w.cell? ⟨n, i, none⟩ else cellPast (patch w b (.cells c t)) ⟨n, i, none⟩ := by
  by_cases hb : b < w.heap.size
  · rw [if_pos hb]
    by_cases h : n = b
    · subst h
      rw [if_pos rfl]
      unfold World.cell?
      rw [patch_at w n _ hb]
      rfl
    · rw [if_neg h]; exact World.cell?_of_block (patch_other w b _ h)
  · rw [if_neg hb]; rfl

@[go_sem] theorem patch_frozen (w : World) (b : Nat) (c : Array Value) (t : TypeId) (n i : Nat) : (patch w b (.cells c t)).frozen? ⟨n, i, none⟩ = if b < w.heap.size then if n = b then false else w.frozen? ⟨n, i, none⟩ else frozenPast (patch w b (.cells c t)) ⟨n, i, none⟩ := by
  by_cases hb : b < w.heap.size
  · rw [if_pos hb]
    by_cases h : n = b
    · subst h
      rw [if_pos rfl]
      unfold World.frozen?
      rw [patch_at w n _ hb]
      simp
    · rw [if_neg h]; exact World.frozen?_of_block (patch_other w b _ h)
  · rw [if_neg hb]; rfl

def setObj (i : Nat) (v : Value) : Obj → Obj
  | .cells c elem fz => .cells (c.setIfInBounds i v) elem fz
  | o => o

theorem setCell_at (w : World) (n i : Nat) (v : Value) (k : Nat) : (w.setCell ⟨n, i, none⟩ v).heap[k]? = if k = n then (w.heap[k]?).map (setObj i v) else w.heap[k]? := by
  show (w.heap.modify n _)[k]? = _
  rw [Array.getElem?_modify]
  by_cases h : n = k
  · subst h
    rw [if_pos rfl, if_pos rfl]
    congr 1
  · rw [if_neg h, if_neg (fun e => h e.symm)]

theorem world_ext {w w' : World} (h1 : ∀ k : Nat, w.heap[k]? = w'.heap[k]?) (h2 : w.tape = w'.tape) (h3 : w.drawn = w'.drawn) (h4 : w.os = w'.os) (h5 : w.output = w'.output) : w = w' := by
  have : w.heap = w'.heap := Array.ext_getElem? h1
  cases w; cases w'; simp_all

theorem patch_heap (w : World) (b : Nat) (o : Obj) (k : Nat) : (patch w b o).heap[k]? = if b = k then if b < w.heap.size then some o else none else w.heap[k]? := by
  simp only [patch, Array.getElem?_setIfInBounds]

@[go_sem] theorem patch_setCell (w : World) (b : Nat) (c : Array Value) (t : TypeId) (n i : Nat) (v : Value) : (patch w b (.cells c t)).setCell ⟨n, i, none⟩ v = if b < w.heap.size then if n = b then patch w b (.cells (c.setIfInBounds i v) t) else patch (w.setCell ⟨n, i, none⟩ v) b (.cells c t) else setPast (patch w b (.cells c t)) ⟨n, i, none⟩ v := by
  by_cases hb : b < w.heap.size
  · rw [if_pos hb]
    by_cases h : n = b
    · subst h
      rw [if_pos rfl]
      refine world_ext (fun k => ?_) rfl rfl rfl rfl
      rw [setCell_at, patch_heap, patch_heap]
      by_cases hk : k = n
      · subst hk; simp [hb, setObj]
      · rw [if_neg hk, if_neg (fun e => hk e.symm), if_neg (fun e => hk e.symm)]
    · rw [if_neg h]
      refine world_ext (fun k => ?_) rfl rfl rfl rfl
      rw [setCell_at, patch_heap, patch_heap, setCell_at]
      by_cases hk : k = n
      · subst hk; rw [if_pos rfl, if_neg (fun e => h e.symm), if_pos rfl, if_neg (fun e => h e.symm)]
      · rw [if_neg hk, if_neg hk, World.size_setCell]
  · rw [if_neg hb]; rfl

/-- w' is w with blocks more. -/
def More (w w' : World) : Prop := ∃ x, w' = plus w x

theorem More.refl (w : World) : More w w := ⟨⟨#[], w.drawn⟩, (plus_self w).symm⟩

theorem More.plus {w w' : World} (h : More w w') (x : Ext) : More w (plus w' x) := by
  obtain ⟨x1, rfl⟩ := h
  exact ⟨x1.seq x, plus_plus ..⟩

theorem More.alloc {w w' : World} (h : More w w') (o : Obj) : More w (w'.alloc o) := by rw [alloc_plus]; exact h.plus _

theorem More.drew {w w' : World} (h : More w w') : More w w'.drew := by rw [drew_is_plus]; exact h.plus _

theorem More.drewN {w w' : World} (h : More w w') (n : Nat) : More w (w'.drewN n) := by rw [drewN_is_plus]; exact h.plus _

theorem More.trans {a b c : World} (h : More a b) (k : More b c) : More a c := by
  obtain ⟨x, rfl⟩ := k
  exact h.plus _

/-- A call that returns v and makes at most new blocks. -/
def Ret (w : World) (v : Value) (e : Ending) (w' : World) : Prop := e = .returned v ∧ ∃ x, w' = plus w x

theorem Ret.mk {w w' : World} {v : Value} (h : More w w') : Ret w v (.returned v) w' := ⟨rfl, h⟩

theorem ret_of {w w' : World} {v v' : Value} (e : v' = v) (h : More w w') : Ret w v (.returned v') w' := ⟨by rw [e], h⟩

/-- In the class of w's extensions a region that draws its order may be walked in the text's order. -/
theorem wp_region_calm {P : Program} {id : Nat} {Q : Exit → Act → World → Prop} {a : Act} {w : World} {l : List Oper} (hm : P.follows .mixedOrders = true) (hB : Region.lexB .any l.toArray = true)
    (h : wpQuiet P l.toArray (fun w' => ∃ x, w' = plus w x) (fun a' => ∀ w', (∃ x, w' = plus w x) → Q .normal a' w') l a) : (Code.region id l.toArray true).wp P Q a w :=
  wp_region_quiet (C := fun w' => ∃ x, w' = plus w x) hm hB ⟨⟨#[], w.drawn + 1⟩, by simp [plus]⟩ (by simpa using h)

theorem calm_of {P : Program} {f : FuncId} {args : Array Value} {w : World} {x : Ext} {v : Value}
    (h : Calls P f args (plus w x) (Ret (plus w x) v)) : Calls P f args (plus w x) fun e w'' => e = .returned v ∧ ∃ x', w'' = plus w x' :=
  h.mono fun _ _ ⟨he, x', hw⟩ => ⟨he, x.seq x', by rw [hw, plus_plus]⟩

theorem calm_is {P : Program} {f : FuncId} {args : Array Value} {w : World} {x : Ext} {b c : Bool} (e : c = b)
    (h : Calls P f args (plus w x) (Ret (plus w x) (.bool c))) : Calls P f args (plus w x) fun e w'' => e = .returned (.bool b) ∧ ∃ x', w'' = plus w x' := by
  subst e
  exact calm_of h

theorem Ext.seq_seq (x y z : Ext) : (x.seq y).seq z = x.seq (y.seq z) := by simp [Ext.seq, Array.append_assoc]

theorem calm_seq {P : Program} {f : FuncId} {args : Array Value} {w : World} {x y : Ext} {v : Value}
    (h : Calls P f args (plus w (x.seq y)) (Ret (plus w (x.seq y)) v)) : Calls P f args (plus w (x.seq y)) fun e w'' => e = .returned v ∧ ∃ x', w'' = plus w (x.seq x') :=
  h.mono fun _ _ ⟨he, x', hw⟩ => ⟨he, y.seq x', by rw [hw, plus_plus, Ext.seq_seq]⟩

theorem calm_is_seq {P : Program} {f : FuncId} {args : Array Value} {w : World} {x y : Ext} {b c : Bool} (e : c = b)
    (h : Calls P f args (plus w (x.seq y)) (Ret (plus w (x.seq y)) (.bool c))) : Calls P f args (plus w (x.seq y)) fun e w'' => e = .returned (.bool b) ∧ ∃ x', w'' = plus w (x.seq x') := by
  subst e
  exact calm_seq h

/-! ### Settings -/

def ov (o : Int) : Bool := decide (o = 0 ∨ o = 1)

theorem ov_iff {o : Int} : ov o = true ↔ (o = 0 ∨ o = 1) := by simp [ov]

theorem ov_no {o : Int} : ov o = false ↔ ¬ (o = 0 ∨ o = 1) := by simp [ov]

/-- a number in a range -/
def inB (a n b : Int) : Bool := decide (a ≤ n ∧ n ≤ b)

theorem inB_iff {a n b : Int} : inB a n b = true ↔ (a ≤ n ∧ n ≤ b) := by simp [inB]

theorem inB_no {a n b : Int} : inB a n b = false ↔ ¬ (a ≤ n ∧ n ≤ b) := by simp [inB]

def sv (o l m : Int) : Bool := decide ((o = 0 ∨ o = 1) ∧ 1 ≤ l ∧ l ≤ 8 ∧ l + 2 ≤ m ∧ m ≤ 10)

theorem sv_iff {o l m : Int} : sv o l m = true ↔ ((o = 0 ∨ o = 1) ∧ 1 ≤ l ∧ l ≤ 8 ∧ l + 2 ≤ m ∧ m ≤ 10) := by simp [sv]

theorem sv_no {o l m : Int} : sv o l m = false ↔ ¬ ((o = 0 ∨ o = 1) ∧ 1 ≤ l ∧ l ≤ 8 ∧ l + 2 ≤ m ∧ m ≤ 10) := by rw [← sv_iff]; simp

theorem dec (p : Prop) [Decidable p] : (p ∧ decide p = true) ∨ (¬ p ∧ decide p = false) := by
  by_cases h : p
  · exact .inl ⟨h, decide_eq_true h⟩
  · exact .inr ⟨h, decide_eq_false h⟩

theorem bool_ret {a b : Bool} (h : a = b) : Value.bool a = Value.bool b := by rw [h]

/-- 2 to the n-th. -/
def two (n : Int) : Int := (2 : Int) ^ n.toNat

theorem int_val {a b : Int} (h : a = b) : Value.int .i64 a = Value.int .i64 b := by rw [h]

theorem wrap64_of {n : Int} (h0 : -9223372036854775808 ≤ n) (h1 : n ≤ 9223372036854775807) : wrap64 n = n := IntWalk.wrap64_in n ⟨h0, h1⟩

theorem two_cases {n : Int} (h0 : 0 ≤ n) (h1 : n ≤ 10) : n = 0 ∨ n = 1 ∨ n = 2 ∨ n = 3 ∨ n = 4 ∨ n = 5 ∨ n = 6 ∨ n = 7 ∨ n = 8 ∨ n = 9 ∨ n = 10 := by omega

theorem two_bd {n : Int} (h0 : 0 ≤ n) (h1 : n ≤ 10) : 1 ≤ two n ∧ two n ≤ 1024 := by
  rcases two_cases h0 h1 with rfl | rfl | rfl | rfl | rfl | rfl | rfl | rfl | rfl | rfl | rfl <;> decide +kernel

theorem two_wrap {n : Int} (h0 : 0 ≤ n) (h1 : n ≤ 10) : wrap64 (2 ^ n.toNat) = two n := by
  obtain ⟨a, b⟩ := two_bd h0 h1
  exact wrap64_of (n := two n) (by omega) (by omega)

theorem two_lit {n : Int} (h0 : 1 ≤ n) (h1 : n ≤ 8) : 2 ≤ two n ∧ two n ≤ 256 := by
  rcases two_cases (by omega : 0 ≤ n) (by omega) with rfl | rfl | rfl | rfl | rfl | rfl | rfl | rfl | rfl | rfl | rfl <;> first | decide +kernel | omega

theorem two_four {l m : Int} (h0 : 1 ≤ l) (h1 : l + 2 ≤ m) (h2 : m ≤ 10) : 4 * two l ≤ two m := by
  rcases two_cases (by omega : 0 ≤ l) (by omega) with rfl | rfl | rfl | rfl | rfl | rfl | rfl | rfl | rfl | rfl | rfl <;>
  rcases two_cases (by omega : 0 ≤ m) (by omega) with rfl | rfl | rfl | rfl | rfl | rfl | rfl | rfl | rfl | rfl | rfl <;> first | decide +kernel | omega

/-- a code is a literal, or that of one of the first n pairs -/
def hw (l n c : Int) : Bool := decide ((0 ≤ c ∧ c < two l) ∨ (two l + 1 < c ∧ c ≤ two l + 1 + n))

theorem hw_iff {l n c : Int} : hw l n c = true ↔ ((0 ≤ c ∧ c < two l) ∨ (two l + 1 < c ∧ c ≤ two l + 1 + n)) := by simp [hw]

theorem hw_no {l n c : Int} : hw l n c = false ↔ ¬ ((0 ≤ c ∧ c < two l) ∨ (two l + 1 < c ∧ c ≤ two l + 1 + n)) := by rw [← hw_iff]; simp

end Go.Proofs.YtmddcbebaijjkaaDoor

/- The walks of the functions on settings: valid exactly as sv says; the codes of a valid setting. -/
namespace Go.Proofs.YtmddcbebaijjkaaDoor
open Go.RowKit
set_option linter.unusedVariables false
set_option linter.unusedSimpArgs false

theorem orderValid_any (o : Int) (w : World) : Calls Tryd.prog 74 #[.int .i64 o] w (Ret w (.bool (ov o))) := by
  by_cases h0 : o = 0 <;> by_cases h1 : o = 1
  all_goals
    have a0 : (o == 0) = decide (o = 0) := rfl
    have a1 : (o == 1) = decide (o = 1) := rfl
    simp only [h0, h1, decide_true, decide_false] at a0 a1
    go_enter Tryd.func74, Tryd.ntmps74
    go_wp2
    go_ret
    exact ret_of (by simp [ov]; omega) (by repeat (first | exact More.refl _ | apply More.plus | apply More.alloc | apply More.drew | apply More.drewN))

theorem l1Order_any (o : Int) (w : World) : Calls Tryd.prog 72 #[.int .i64 o] w (Ret w (.bool (ov o))) := by
  by_cases h0 : o = 0 <;> by_cases h1 : o = 1
  all_goals
    have a0 : (o == 0) = decide (o = 0) := rfl
    have a1 : (o == 1) = decide (o = 1) := rfl
    simp only [h0, h1, decide_true, decide_false] at a0 a1
    go_enter Tryd.func72, Tryd.ntmps72
    go_wp2
    go_ret
    exact ret_of (by simp [ov]; omega) (by repeat (first | exact More.refl _ | apply More.plus | apply More.alloc | apply More.drew | apply More.drewN))

theorem l1In_any (n a b : Int) (w : World) : Calls Tryd.prog 50 #[.int .i64 n, .int .i64 a, .int .i64 b] w (Ret w (.bool (inB a n b))) := by
  by_cases h0 : a ≤ n <;> by_cases h1 : n ≤ b
  all_goals
    go_enter Tryd.func50, Tryd.ntmps50
    go_wp2
    go_ret
    exact ret_of (by simp [inB]; omega) (by repeat (first | exact More.refl _ | apply More.plus | apply More.alloc | apply More.drew | apply More.drewN))

set_option maxHeartbeats 1000000 in
theorem SettingValid_any (o l m : Int) (w : World) : Calls Tryd.prog 54 #[.agg #[.int .i64 o, .int .i64 l, .int .i64 m]] w (Ret w (.bool (sv o l m))) := by
  cases h0 : ov o <;> rcases dec (1 ≤ l) with ⟨h1, b1⟩ | ⟨h1, b1⟩ <;> rcases dec (l ≤ 8) with ⟨h2, b2⟩ | ⟨h2, b2⟩ <;> rcases dec (l + 2 ≤ m) with ⟨h3, b3⟩ | ⟨h3, b3⟩ <;> rcases dec (m ≤ 10) with ⟨h4, b4⟩ | ⟨h4, b4⟩
  all_goals try (exfalso; omega)
  all_goals
    go_enter Tryd.func54, Tryd.ntmps54
    go_wp2_with (go_at_call 74; refine (orderValid_any _ _).mono ?_; rintro e w' ⟨rfl, xc, rfl⟩)
    go_ret
    refine ret_of ?_ (by repeat (first | exact More.refl _ | apply More.plus | apply More.alloc | apply More.drew | apply More.drewN))
    simp only [ov_iff, ov_no] at h0
    first | (refine bool_ret (sv_iff.2 ?_).symm; omega) | (refine bool_ret (sv_no.2 ?_).symm; omega)

set_option maxHeartbeats 1000000 in
theorem specSettingValid_any (o l m : Int) (w : World) : Calls Tryd.prog 47 #[.agg #[.int .i64 o, .int .i64 l, .int .i64 m]] w (Ret w (.bool (sv o l m))) := by
  cases h0 : ov o <;> cases h1 : inB 1 l 8 <;> cases h3 : inB (l + 2) m 10
  all_goals
    go_enter Tryd.func47, Tryd.ntmps47
    have h1' : inB 1 l 8 = true → 1 ≤ l ∧ l ≤ 8 := inB_iff.1
    rw [h1] at h1'
    try obtain ⟨h5, h6⟩ := h1' rfl
    clear h1'
    go_wp2_with (first | (go_at_call 72; refine (l1Order_any _ _).mono ?_; rintro e w' ⟨rfl, xc, rfl⟩) | (go_at_call 50; refine (l1In_any _ _ _ _).mono ?_; rintro e w' ⟨rfl, xc, rfl⟩))
    go_ret
    refine ret_of ?_ (by repeat (first | exact More.refl _ | apply More.plus | apply More.alloc | apply More.drew | apply More.drewN))
    simp only [ov_iff, ov_no] at h0
    simp only [inB_iff, inB_no] at h1 h3
    first | (refine bool_ret (sv_iff.2 ?_).symm; omega) | (refine bool_ret (sv_no.2 ?_).symm; omega)

theorem l1Two_any (n : Int) (h0 : 0 ≤ n) (h1 : n ≤ 10) (w : World) : Calls Tryd.prog 73 #[.int .i64 n] w (Ret w (.int .i64 (two n))) := by
  go_enter Tryd.func73, Tryd.ntmps73
  go_wp2
  go_ret
  exact ret_of (int_val (two_wrap h0 h1)) (by repeat (first | exact More.refl _ | apply More.plus | apply More.alloc | apply More.drew | apply More.drewN))

theorem l1Clear_any (o l m : Int) (h0 : 0 ≤ l) (h1 : l ≤ 10) (w : World) : Calls Tryd.prog 52 #[.agg #[.int .i64 o, .int .i64 l, .int .i64 m]] w (Ret w (.int .i64 (two l))) := by
  go_enter Tryd.func52, Tryd.ntmps52
  go_wp2_with (go_at_call 73; refine (l1Two_any _ h0 h1 _).mono ?_; rintro e w' ⟨rfl, xc, rfl⟩)
  go_ret
  exact Ret.mk (by repeat (first | exact More.refl _ | apply More.plus | apply More.alloc | apply More.drew | apply More.drewN))

theorem l1End_any (o l m : Int) (h0 : 0 ≤ l) (h1 : l ≤ 10) (w : World) : Calls Tryd.prog 49 #[.agg #[.int .i64 o, .int .i64 l, .int .i64 m]] w (Ret w (.int .i64 (two l + 1))) := by
  obtain ⟨t1, t2⟩ := two_bd h0 h1
  go_enter Tryd.func49, Tryd.ntmps49
  go_wp2_with (go_at_call 73; refine (l1Two_any _ h0 h1 _).mono ?_; rintro e w' ⟨rfl, xc, rfl⟩)
  go_ret
  exact Ret.mk (by repeat (first | exact More.refl _ | apply More.plus | apply More.alloc | apply More.drew | apply More.drewN))

theorem l1Last_any (o l m : Int) (h0 : 0 ≤ m) (h1 : m ≤ 10) (w : World) : Calls Tryd.prog 48 #[.agg #[.int .i64 o, .int .i64 l, .int .i64 m]] w (Ret w (.int .i64 (two m - 1))) := by
  obtain ⟨t1, t2⟩ := two_bd h0 h1
  go_enter Tryd.func48, Tryd.ntmps48
  go_wp2_with (go_at_call 73; refine (l1Two_any _ h0 h1 _).mono ?_; rintro e w' ⟨rfl, xc, rfl⟩)
  go_ret
  exact Ret.mk (by repeat (first | exact More.refl _ | apply More.plus | apply More.alloc | apply More.drew | apply More.drewN))

theorem ClearCode_yes (o l m : Int) (h : sv o l m = true) (w : World) : Calls Tryd.prog 58 #[.agg #[.int .i64 o, .int .i64 l, .int .i64 m]] w (Ret w (.int .i64 (two l))) := by
  obtain ⟨h0, h1, h2, h3, h4⟩ := sv_iff.1 h
  go_enter Tryd.func58, Tryd.ntmps58
  go_wp2_with (go_at_call 54; refine (SettingValid_any _ _ _ _).mono ?_; rintro e w' ⟨rfl, xc, rfl⟩)
  go_ret
  exact ret_of (int_val (two_wrap (by omega) (by omega))) (by repeat (first | exact More.refl _ | apply More.plus | apply More.alloc | apply More.drew | apply More.drewN))

theorem EndCode_yes (o l m : Int) (h : sv o l m = true) (w : World) : Calls Tryd.prog 56 #[.agg #[.int .i64 o, .int .i64 l, .int .i64 m]] w (Ret w (.int .i64 (two l + 1))) := by
  obtain ⟨h0, h1, h2, h3, h4⟩ := sv_iff.1 h
  obtain ⟨t1, t2⟩ := two_lit h1 h2
  go_enter Tryd.func56, Tryd.ntmps56
  go_wp2_with (go_at_call 54; refine (SettingValid_any _ _ _ _).mono ?_; rintro e w' ⟨rfl, xc, rfl⟩)
  go_ret
  refine ret_of (int_val ?_) (by repeat (first | exact More.refl _ | apply More.plus | apply More.alloc | apply More.drew | apply More.drewN))
  rw [two_wrap (by omega) (by omega)]
  exact wrap64_of (by omega) (by omega)

theorem LastCode_yes (o l m : Int) (h : sv o l m = true) (w : World) : Calls Tryd.prog 55 #[.agg #[.int .i64 o, .int .i64 l, .int .i64 m]] w (Ret w (.int .i64 (two m - 1))) := by
  obtain ⟨h0, h1, h2, h3, h4⟩ := sv_iff.1 h
  obtain ⟨t1, t2⟩ := two_bd (n := m) (by omega) (by omega)
  go_enter Tryd.func55, Tryd.ntmps55
  go_wp2_with (go_at_call 54; refine (SettingValid_any _ _ _ _).mono ?_; rintro e w' ⟨rfl, xc, rfl⟩)
  go_ret
  refine ret_of (int_val ?_) (by repeat (first | exact More.refl _ | apply More.plus | apply More.alloc | apply More.drew | apply More.drewN))
  rw [two_wrap (by omega) (by omega)]
  exact wrap64_of (by omega) (by omega)

set_option maxHeartbeats 1000000 in
theorem hasWord_yes (o l m n c : Int) (h : sv o l m = true) (hn : 0 ≤ n) (hn' : n ≤ 1000000) (w : World) :
    Calls Tryd.prog 57 #[.agg #[.int .i64 o, .int .i64 l, .int .i64 m], .int .i64 n, .int .i64 c] w (Ret w (.bool (hw l n c))) := by
  obtain ⟨h0, h1, h2, h3, h4⟩ := sv_iff.1 h
  obtain ⟨t1, t2⟩ := two_lit h1 h2
  clear h0
  rcases dec (0 ≤ c) with ⟨a1, b1⟩ | ⟨a1, b1⟩ <;> rcases dec (c < two l) with ⟨a2, b2⟩ | ⟨a2, b2⟩ <;> rcases dec (two l + 1 < c) with ⟨a3, b3⟩ | ⟨a3, b3⟩ <;> rcases dec (c ≤ two l + 1 + n) with ⟨a4, b4⟩ | ⟨a4, b4⟩
  all_goals try (exfalso; omega)
  all_goals
    go_enter Tryd.func57, Tryd.ntmps57
    go_wp2_with (first | (go_at_call 56; refine (EndCode_yes _ _ _ h _).mono ?_; rintro e w' ⟨rfl, xc, rfl⟩) | (go_at_call 58; refine (ClearCode_yes _ _ _ h _).mono ?_; rintro e w' ⟨rfl, xc, rfl⟩))
    go_ret
    refine ret_of ?_ (by repeat (first | exact More.refl _ | apply More.plus | apply More.alloc | apply More.drew | apply More.drewN))
    first | (refine bool_ret (hw_iff.2 ?_).symm; omega) | (refine bool_ret (hw_no.2 ?_).symm; omega)

end Go.Proofs.YtmddcbebaijjkaaDoor

/- Walks: a code's kind, what is known and valid. -/
namespace Go.Proofs.YtmddcbebaijjkaaDoor
open Go.RowKit
set_option linter.unusedVariables false
set_option linter.unusedSimpArgs false

theorem l2Code_yes (o l m n c : Int) (h : sv o l m = true) (hn : 0 ≤ n) (hn' : n ≤ 1000000) (w : World) :
    Calls Tryd.prog 51 #[.agg #[.int .i64 o, .int .i64 l, .int .i64 m], .int .i64 c, .int .i64 n] w (Ret w (.bool (hw l n c))) := by
  obtain ⟨h0, h1, h2, h3, h4⟩ := sv_iff.1 h
  obtain ⟨t1, t2⟩ := two_lit h1 h2
  clear h0
  have l0 : 0 ≤ l := by omega
  have l1 : l ≤ 10 := by omega
  cases b1 : inB 0 c (two l - 1) <;> cases b2 : inB (two l + 1 + 1) c (two l + 1 + n)
  all_goals
    go_enter Tryd.func51, Tryd.ntmps51
    go_wp2
    (refine wp_region_calm (by kernel_rfl) (by kernel_rfl) ?_
     repeat (first | go_big_quiet_skip | (go_big_quiet_want; go_big_quiet_op; first | go_big_quiet_on | (apply Exists.intro; refine ⟨fun _ => ?_, ?_⟩; (focus ((first | (go_at_call 52; first | refine calm_of (l1Clear_any _ _ _ l0 l1 _) | refine calm_seq (l1Clear_any _ _ _ l0 l1 _)) | (go_at_call 49; first | refine calm_of (l1End_any _ _ _ l0 l1 _) | refine calm_seq (l1End_any _ _ _ l0 l1 _)) | (go_at_call 50; first | refine calm_is (by assumption) (l1In_any _ _ _ _) | refine calm_is_seq (by assumption) (l1In_any _ _ _ _))))); go_big_quiet_on)))
     refine wpQuiet_nil ?_
     intro _ hw'
     obtain ⟨xq, hw''⟩ := hw'
     subst hw'')
    go_wp2
    go_ret
    refine ret_of ?_ (by repeat (first | exact More.refl _ | apply More.plus | apply More.alloc | apply More.drew | apply More.drewN))
    simp only [inB_iff, inB_no] at b1 b2
    first | (refine bool_ret (hw_iff.2 ?_).symm; omega) | (refine bool_ret (hw_no.2 ?_).symm; omega)

end Go.Proofs.YtmddcbebaijjkaaDoor

/- Slices that read as lists, whatever the element; append onto nothing; make. No function of the program in sight. -/
namespace Go.Proofs.YtmddcbebaijjkaaDoor
open Go.RowKit
set_option linter.unusedVariables false
set_option linter.unusedSimpArgs false

/-- how an element lies in cells -/
structure Enc (α : Type) where
  sz : Nat
  enc : α → List Value
  len : ∀ x, (enc x).length = sz
  one : ∀ x u, u ∈ enc x → u.oneCell' = true

def flat {α : Type} (E : Enc α) (xs : List α) : List Value := xs.flatMap E.enc

theorem flat_len {α : Type} (E : Enc α) (xs : List α) : (flat E xs).length = xs.length * E.sz := by
  induction xs with
  | nil => simp [flat]
  | cons x xs ih => simp only [flat, List.flatMap_cons, List.length_append, E.len] at *; rw [ih, List.length_cons, Nat.add_mul]; omega

theorem flat_append {α : Type} (E : Enc α) (xs ys : List α) : flat E (xs ++ ys) = flat E xs ++ flat E ys := by simp [flat]

theorem flat_one {α : Type} (E : Enc α) (xs : List α) : ∀ u ∈ flat E xs, u.oneCell' = true := by
  intro u hu
  simp only [flat, List.mem_flatMap] at hu
  obtain ⟨x, _, hx⟩ := hu
  exact E.one x u hx

theorem flat_get {α : Type} (E : Enc α) (xs : List α) (i : Nat) (x : α) (h : xs[i]? = some x) (j : Nat) (hj : j < E.sz) : (flat E xs)[i * E.sz + j]? = (E.enc x)[j]? := by
  induction xs generalizing i with
  | nil => simp at h
  | cons y ys ih =>
    have e : flat E (y :: ys) = E.enc y ++ flat E ys := by simp [flat]
    cases i with
    | zero =>
      simp at h; subst h
      rw [e, Nat.zero_mul, Nat.zero_add, List.getElem?_append_left (by rw [E.len]; omega)]
    | succ i =>
      simp at h
      rw [e, List.getElem?_append_right (by rw [E.len, Nat.add_mul]; omega), E.len]
      rw [show (i + 1) * E.sz + j - E.sz = i * E.sz + j by rw [Nat.add_mul]; omega]
      exact ih i h

/-- the slice at a with room for cap reads as xs -/
def Rd {α : Type} (E : Enc α) (w : World) (a : Option Addr) (cap : Nat) (xs : List α) : Prop :=
  xs.length ≤ cap ∧ cap ≤ 9223372036854775807 ∧ (cap = 0 ∨ ∃ b off, a = some ⟨b, off, none⟩ ∧ b < w.heap.size ∧
    ∀ j u, (flat E xs)[j]? = some u → w.cell? ⟨b, off + j, none⟩ = some u)

theorem Rd.of_block {α : Type} {E : Enc α} {w w' : World} {a : Option Addr} {cap : Nat} {xs : List α} (h : Rd E w a cap xs)
    (hs : ∀ A, a = some A → A.block < w.heap.size → A.block < w'.heap.size ∧ w'.heap[A.block]? = w.heap[A.block]?) : Rd E w' a cap xs := by
  obtain ⟨h1, h2, h3⟩ := h
  refine ⟨h1, h2, ?_⟩
  rcases h3 with h3 | ⟨b, off, rfl, hb, hc⟩
  · exact .inl h3
  · obtain ⟨q1, q2⟩ := hs _ rfl hb
    exact .inr ⟨b, off, rfl, q1, fun j u hj => (World.cell?_of_block (a := ⟨b, off + j, none⟩) q2).trans (hc j u hj)⟩

theorem Rd.plus {α : Type} {E : Enc α} {w : World} {a : Option Addr} {cap : Nat} {xs : List α} (h : Rd E w a cap xs) (x : Ext) : Rd E (plus w x) a cap xs :=
  h.of_block fun A _ hb => ⟨by rw [plus_size]; omega, plus_block w x hb⟩

theorem rd_seq {α : Type} {E : Enc α} {w : World} {a : Option Addr} {cap : Nat} {xs : List α} {x y : Ext} (h : Rd E (plus w x) a cap xs) : Rd E (plus w (x.seq y)) a cap xs := by
  rw [← plus_plus]; exact h.plus _

theorem Rd.alloc {α : Type} {E : Enc α} {w : World} {a : Option Addr} {cap : Nat} {xs : List α} (h : Rd E w a cap xs) (o : Obj) : Rd E (w.alloc o) a cap xs := by
  rw [alloc_plus]; exact h.plus _

theorem Rd.drew {α : Type} {E : Enc α} {w : World} {a : Option Addr} {cap : Nat} {xs : List α} (h : Rd E w a cap xs) : Rd E w.drew a cap xs := by
  rw [drew_is_plus]; exact h.plus _

theorem Rd.drewN {α : Type} {E : Enc α} {w : World} {a : Option Addr} {cap : Nat} {xs : List α} (h : Rd E w a cap xs) (n : Nat) : Rd E (w.drewN n) a cap xs := by
  rw [drewN_is_plus]; exact h.plus _

/-- cells that begin with the elements xs -/
def Row {α : Type} (E : Enc α) (cur : Array Value) (xs : List α) : Prop := ∀ (j : Nat) (u : Value), (flat E xs)[j]? = some u → cur[j]? = some u

theorem Rd.of_row {α : Type} {E : Enc α} {w : World} {b cap : Nat} {e : TypeId} {fz : Nat × Nat} {cur : Array Value} {xs : List α} (hb : w.heap[b]? = some (.cells cur e fz)) (hr : Row E cur xs)
    (h1 : xs.length ≤ cap) (h2 : cap ≤ 9223372036854775807) : Rd E w (some ⟨b, 0, none⟩) cap xs := by
  refine ⟨h1, h2, .inr ⟨b, 0, rfl, (Array.getElem?_eq_some_iff.1 hb).1, fun j u hj => ?_⟩⟩
  simp only [World.cell?, hb, Nat.zero_add]
  exact hr j u hj

theorem nextcap (n : Nat) : Builtin.nextslicecap n 0 = n := by
  unfold Builtin.nextslicecap
  rcases Nat.eq_zero_or_pos n with rfl | h
  · rfl
  · rw [if_pos (by omega)]

section
variable {P : Program} {ops : Array Oper} {rest : List Oper} {o : Oper} {a : Act} {w : World} {Q : Exit → Act → World → Prop}

/-- append onto an empty slice without room, the source not empty -/
theorem wpList_append_new {α : Type} (E : Enc α) (s x : Operand) (t e : TypeId) (i : TypeInfo) (z : Value) (bytes : Nat) (hgd : o.guard = none)
    (ho : o.op = .call { callee := .builtin .append, args := #[s, x], argTypes := #[t, t] }) (ht : P.underlying t = some (.slice e)) (hi : P.info? e = some i) (hz : i.zero = some z) (hsz : i.size = E.sz) (hby : i.bytes = bytes)
    (hzs : z.cells.size = E.sz) (xs : List α) (A : Option Addr) (cap : Nat) (hr : Rd E w A cap xs) (hne : 0 < xs.length) (D : Option Addr) (hs : a.eval s = .slice D 0 0) (hx : a.eval x = .slice A xs.length cap)
    (hbd : xs.length * bytes ≤ 140737488355328) (hlen : xs.length ≤ 140737488355328)
    (h : ∀ (c : Nat) (cur : Array Value), Row E cur xs → xs.length ≤ c → c ≤ 9223372036854775807 → cur.size = c * E.sz →
      wpList P ops Q rest (a.put o.dst (.slice (some ⟨w.heap.size, 0, none⟩) xs.length c)) (w.drew.alloc (.cells cur e))) :
    wpList P ops Q (o :: rest) a w := by
  refine wpList_plain hgd fun K hK => ?_
  obtain ⟨h1, h2, h3⟩ := hr
  rcases h3 with hc0 | ⟨b, off, rfl, hb, hc⟩
  · omega
  have hsrc : Src P i.size t (.slice (some ⟨b, off, none⟩) xs.length cap) xs.length (flat E xs) w :=
    Src.ofSlice w ht _ _ _ _ (by rw [flat_len, hsz]) (fun j u hj => by rw [Addr.add_lit]; exact hc j u hj) (flat_one E xs)
  have hrun := run_append_grow_src (P := P) w t t o.type e i z ht hi hz D 0 0 [] (by cases D with | none => simpa using run_firstCells_none (P := P) w.drew i.size 0 0 0 | some d => simpa using run_firstCells_some (P := P) w.drew i.size 0 d 0 0 [] (by simp) (by simp)) _ _ _ hsrc (by omega) (by omega) (by rw [Nat.zero_add, nextcap, hby]; omega)
  have hge := grownCap_ge w (0 + xs.length) 0 e
  have hle := grownCap_le_maxLen w (0 + xs.length) 0 e (by simp [maxLen]; omega)
  unfold Oper.wp execOp
  simp only [ho, resolve, invoke, builtin, Sem.run_bind, Sem.run_pure, Result.andThen_ok, List.map_toArray, List.map_cons, List.map_nil, hs, hx, hrun]
  have hl := flat_len E xs
  refine hK _ _ ?_
  have hfin := h (grownCap w (0 + xs.length) 0 e) (([] ++ flat E xs).toArray ++ Builtin.zeroCells z.cells (grownCap w (0 + xs.length) 0 e - (0 + xs.length))) ?_ (by omega) (by simpa [maxLen] using hle) ?_
  · simpa using hfin
  · refine (fun j u hj => ?_ : ∀ (j : Nat) (u : Value), (flat E xs)[j]? = some u → _)
    have hjl := (List.getElem?_eq_some_iff.1 hj).1
    rw [Array.getElem?_append_left (by simpa using hjl)]
    simpa using hj
  · have hm : (grownCap w (0 + xs.length) 0 e) * E.sz = xs.length * E.sz + (grownCap w (0 + xs.length) 0 e - (0 + xs.length)) * E.sz := by
      rw [← Nat.add_mul]; congr 1; omega
    rw [Array.size_append, size_zeroCells, hzs, hm]
    simp [hl]

/-- append onto an empty slice without room, the source empty -/
theorem wpList_append_none (s x : Operand) (t e : TypeId) (i : TypeInfo) (hgd : o.guard = none)
    (ho : o.op = .call { callee := .builtin .append, args := #[s, x], argTypes := #[t, t] }) (ht : P.underlying t = some (.slice e)) (hi : P.info? e = some i)
    (A D : Option Addr) (cap : Nat) (hs : a.eval s = .slice D 0 0) (hx : a.eval x = .slice A 0 cap)
    (h : wpList P ops Q rest (a.put o.dst (.slice D 0 0)) w) :
    wpList P ops Q (o :: rest) a w := by
  refine wpList_plain hgd fun K hK => ?_
  have hrun : (Builtin.append_ #[t, t] o.type #[.slice D 0 0, .slice A 0 cap]).run P w = .ok (.slice D 0 0) w := by
    have hf : (Builtin.firstCells i.size 0 (.slice A 0 cap)).run P w = .ok #[] w := by
      cases A with
      | none => exact run_firstCells_none (P := P) w i.size 0 0 cap
      | some d => simpa using run_firstCells_some (P := P) w i.size 0 d 0 cap [] (by simp) (by simp)
    simp [Builtin.append_, run_underlying ht, sizeOf, typeInfo, hi, Builtin.lenOf, hf]
    cases D <;> simp [storeCells]
  unfold Oper.wp execOp
  simp only [ho, resolve, invoke, builtin, Sem.run_bind, Sem.run_pure, Result.andThen_ok, List.map_toArray, List.map_cons, List.map_nil, hs, hx, hrun]
  exact hK _ _ h

end

/-- a slice of the call's own: nil, or at the head of a block from lo on that nothing else holds -/
def Own {α : Type} (E : Enc α) (e : TypeId) (w : World) (a : Option Addr) (cap : Nat) (xs : List α) (lo : Nat) : Prop :=
  (a = none ∧ cap = 0 ∧ xs = []) ∨ ∃ b cur, a = some ⟨b, 0, none⟩ ∧ lo ≤ b ∧ w.heap[b]? = some (.cells cur e (0, 0)) ∧ cur.size = cap * E.sz ∧ Row E cur xs ∧ xs.length ≤ cap ∧ cap ≤ 9223372036854775807

theorem Own.rd {α : Type} {E : Enc α} {e : TypeId} {w : World} {a : Option Addr} {cap : Nat} {xs : List α} {lo : Nat} (h : Own E e w a cap xs lo) : Rd E w a cap xs := by
  rcases h with ⟨rfl, rfl, rfl⟩ | ⟨b, cur, rfl, _, hb, _, hr, h1, h2⟩
  · exact ⟨by simp, by omega, .inl rfl⟩
  · exact Rd.of_row hb hr h1 h2

theorem Own.of_block {α : Type} {E : Enc α} {e : TypeId} {w w' : World} {a : Option Addr} {cap : Nat} {xs : List α} {lo : Nat} (h : Own E e w a cap xs lo)
    (hs : ∀ A, a = some A → A.block < w.heap.size → w'.heap[A.block]? = w.heap[A.block]?) : Own E e w' a cap xs lo := by
  rcases h with h | ⟨b, cur, rfl, h0, hb, h1⟩
  · exact .inl h
  · exact .inr ⟨b, cur, rfl, h0, (hs _ rfl (Array.getElem?_eq_some_iff.1 hb).1).trans hb, h1⟩

theorem own_some {α : Type} {E : Enc α} {e : TypeId} {w : World} {a : Option Addr} {cap : Nat} {xs : List α} {lo : Nat} (h : Own E e w a cap xs lo) (hn : 0 < xs.length) :
    ∃ b cur, a = some ⟨b, 0, none⟩ ∧ lo ≤ b ∧ b < w.heap.size ∧ w.heap[b]? = some (.cells cur e (0, 0)) ∧ cur.size = cap * E.sz ∧ Row E cur xs ∧ xs.length ≤ cap ∧ cap ≤ 9223372036854775807 := by
  rcases h with ⟨_, _, rfl⟩ | ⟨b, cur, h0, h1, hb, h2⟩
  · simp at hn
  · exact ⟨b, cur, h0, h1, (Array.getElem?_eq_some_iff.1 hb).1, hb, h2⟩

theorem rd_patch {α : Type} {E : Enc α} {w : World} {a : Option Addr} {cap : Nat} {xs : List α} (h : Rd E w a cap xs) (b : Nat) (o : Obj) (hb : ∀ A, a = some A → A.block ≠ b) : Rd E (patch w b o) a cap xs :=
  h.of_block fun A hA hs => ⟨by simpa using hs, patch_other w b o (hb A hA)⟩

theorem rd_patched {α : Type} {E : Enc α} {w : World} {b cap : Nat} {e : TypeId} {cur : Array Value} {xs : List α} (hb : b < w.heap.size) (hr : Row E cur xs) (h1 : xs.length ≤ cap) (h2 : cap ≤ 9223372036854775807) :
    Rd E (patch w b (.cells cur e)) (some ⟨b, 0, none⟩) cap xs := Rd.of_row (patch_at w b _ hb) hr h1 h2

theorem Own.plus {α : Type} {E : Enc α} {e : TypeId} {w : World} {a : Option Addr} {cap : Nat} {xs : List α} {lo : Nat} (h : Own E e w a cap xs lo) (x : Ext) : Own E e (plus w x) a cap xs lo :=
  h.of_block fun A _ hb => plus_block w x hb

theorem Own.alloc {α : Type} {E : Enc α} {e : TypeId} {w : World} {a : Option Addr} {cap : Nat} {xs : List α} {lo : Nat} (h : Own E e w a cap xs lo) (o : Obj) : Own E e (w.alloc o) a cap xs lo := by
  rw [alloc_plus]; exact h.plus _

theorem Own.drew {α : Type} {E : Enc α} {e : TypeId} {w : World} {a : Option Addr} {cap : Nat} {xs : List α} {lo : Nat} (h : Own E e w a cap xs lo) : Own E e w.drew a cap xs lo := by
  rw [drew_is_plus]; exact h.plus _

theorem Own.lower {α : Type} {E : Enc α} {e : TypeId} {w : World} {a : Option Addr} {cap : Nat} {xs : List α} {lo lo' : Nat} (h : Own E e w a cap xs lo) (hl : lo' ≤ lo) : Own E e w a cap xs lo' := by
  rcases h with h | ⟨b, cur, h0, h1, h2⟩
  · exact .inl h
  · exact .inr ⟨b, cur, h0, by omega, h2⟩

theorem Own.new {α : Type} {E : Enc α} {e : TypeId} {w : World} {cap : Nat} {cur : Array Value} {xs : List α} {lo : Nat} (hlo : lo ≤ w.heap.size) (h1 : cur.size = cap * E.sz) (h2 : Row E cur xs) (h3 : xs.length ≤ cap) (h4 : cap ≤ 9223372036854775807) :
    Own E e (w.alloc (.cells cur e)) (some ⟨w.heap.size, 0, none⟩) cap xs lo :=
  .inr ⟨w.heap.size, cur, rfl, hlo, by rw [push_at, if_neg (by omega), if_pos rfl], h1, h2, h3, h4⟩

theorem plus_above (w1 w2 : World) (x : Ext) (hs : w1.heap.size = w2.heap.size) {k : Nat} (hk : w1.heap.size ≤ k) : (plus w2 x).heap[k]? = (plus w1 x).heap[k]? := by
  simp [plus, Array.getElem?_append, show ¬ k < w1.heap.size by omega, show ¬ k < w2.heap.size by omega, hs]

/-- what the call owns stays owned while older blocks turn -/
theorem own_swap {α : Type} {E : Enc α} {e : TypeId} {w1 w2 : World} {x : Ext} {a : Option Addr} {cap : Nat} {xs : List α} {lo : Nat} (h : Own E e (plus w1 x) a cap xs lo)
    (hs : w1.heap.size = w2.heap.size) (hlo : w1.heap.size ≤ lo) : Own E e (plus w2 x) a cap xs lo := by
  rcases h with h | ⟨b, cur, h0, h1, hb, h2⟩
  · exact .inl h
  · exact .inr ⟨b, cur, h0, h1, (plus_above w1 w2 x hs (by omega)).trans hb, h2⟩

theorem Own.newAt {α : Type} {E : Enc α} {e : TypeId} {w : World} {cap : Nat} {cur : Array Value} {xs : List α} {lo b : Nat} (hb : b = w.heap.size) (hlo : lo ≤ b) (h1 : cur.size = cap * E.sz) (h2 : Row E cur xs) (h3 : xs.length ≤ cap) (h4 : cap ≤ 9223372036854775807) :
    Own E e (w.alloc (.cells cur e)) (some ⟨b, 0, none⟩) cap xs lo := by
  subst hb
  exact Own.new hlo h1 h2 h3 h4

/-! ### Pairs -/

structure Pr where
  p : Int
  b : Int
deriving DecidableEq

def encP : Enc Pr where
  sz := 2
  enc p := [.int .i64 p.p, .int .i64 p.b]
  len _ := rfl
  one := by intro x u hu; simp at hu; rcases hu with rfl | rfl <;> rfl

/-- the slice at a reads as the pairs ps -/
def RdP (w : World) (a : Option Addr) (cap : Nat) (ps : List Pr) : Prop := Rd encP w a cap ps

theorem RdP.open {w : World} {a : Option Addr} {cap : Nat} {ps : List Pr} (h : RdP w a cap ps) : ps.length ≤ cap ∧ cap ≤ 9223372036854775807 ∧ (cap = 0 ∨ ∃ b off, a = some ⟨b, off, none⟩ ∧ b < w.heap.size ∧
    ∀ i p, ps[i]? = some p → w.cell? ⟨b, off + i * 2, none⟩ = some (.int .i64 p.p) ∧ w.cell? ⟨b, off + i * 2 + 1, none⟩ = some (.int .i64 p.b)) := by
  obtain ⟨h1, h2, h3⟩ := h
  refine ⟨h1, h2, ?_⟩
  rcases h3 with h3 | ⟨b, off, rfl, hb, hc⟩
  · exact .inl h3
  · refine .inr ⟨b, off, rfl, hb, fun i p hp => ⟨?_, ?_⟩⟩
    · exact hc (i * 2) _ (flat_get encP ps i p hp 0 (by decide))
    · have := hc (i * 2 + 1) _ (flat_get encP ps i p hp 1 (by decide))
      rwa [← Nat.add_assoc] at this

theorem get_some {cur : Array Value} {i : Nat} (h : i < cur.size) : ∃ v, cur[i]? = some v := ⟨cur[i], Array.getElem?_eq_getElem h⟩

theorem row_of {α : Type} (E : Enc α) (cur : Array Value) (xs : List α) (h : ∀ i x, xs[i]? = some x → ∀ j, j < E.sz → cur[i * E.sz + j]? = (E.enc x)[j]?) : Row E cur xs := by
  refine (fun j u hj => ?_ : ∀ (j : Nat) (u : Value), (flat E xs)[j]? = some u → _)
  have hl := (List.getElem?_eq_some_iff.1 hj).1
  rw [flat_len] at hl
  have hpos : 0 < E.sz := by
    rcases Nat.eq_zero_or_pos E.sz with h0 | h0
    · rw [h0] at hl; omega
    · exact h0
  have hi : j / E.sz < xs.length := Nat.div_lt_of_lt_mul (by rw [Nat.mul_comm]; exact hl)
  have hx : xs[j / E.sz]? = some xs[j / E.sz] := List.getElem?_eq_getElem hi
  have hm : j % E.sz < E.sz := Nat.mod_lt _ hpos
  have hj2 : j / E.sz * E.sz + j % E.sz = j := by rw [Nat.mul_comm]; exact Nat.div_add_mod j E.sz
  have h1 := flat_get E xs _ _ hx _ hm
  have h2 := h _ _ hx _ hm
  rw [hj2] at h1 h2
  rw [h2, ← h1, hj]

theorem rowP_of (cur : Array Value) (ps : List Pr) (h : ∀ i p, ps[i]? = some p → cur[i * 2]? = some (.int .i64 p.p) ∧ cur[i * 2 + 1]? = some (.int .i64 p.b)) : Row encP cur ps :=
  row_of encP cur ps fun i p hp j hj => by
    obtain ⟨h1, h2⟩ := h i p hp
    have hj' : j < 2 := hj
    rcases (by omega : j = 0 ∨ j = 1) with rfl | rfl
    · exact h1
    · exact h2

/-- the pairs below k stand in cur -/
def UpTo (cur : Array Value) (ps : List Pr) (k : Nat) : Prop := ∀ i p, ps[i]? = some p → i < k → cur[i * 2]? = some (.int .i64 p.p) ∧ cur[i * 2 + 1]? = some (.int .i64 p.b)

theorem UpTo.zero (cur : Array Value) (ps : List Pr) : UpTo cur ps 0 := fun _ _ _ h => absurd h (by omega)

theorem UpTo.step {cur : Array Value} {ps : List Pr} {k : Nat} {p : Pr} (h : UpTo cur ps k) (hp : ps[k]? = some p) (hk : k * 2 + 1 < cur.size) :
    UpTo ((cur.setIfInBounds (k * 2) (.int .i64 p.p)).setIfInBounds (k * 2 + 1) (.int .i64 p.b)) ps (k + 1) := by
  intro i q hq hi
  by_cases hik : i = k
  · subst hik
    rw [hp] at hq; cases hq
    simp only [Array.getElem?_setIfInBounds, Array.size_setIfInBounds]
    refine ⟨?_, ?_⟩
    · rw [if_neg (by omega), if_pos trivial, if_pos (by omega)]
    · rw [if_pos trivial, if_pos hk]
  · obtain ⟨h1, h2⟩ := h i q hq (by omega)
    simp only [Array.getElem?_setIfInBounds, Array.size_setIfInBounds]
    refine ⟨?_, ?_⟩
    · rw [if_neg (by omega), if_neg (by omega)]; exact h1
    · rw [if_neg (by omega), if_neg (by omega)]; exact h2

theorem UpTo.row {cur : Array Value} {ps : List Pr} (h : UpTo cur ps ps.length) : Row encP cur ps :=
  rowP_of cur ps fun i p hp => h i p hp (List.getElem?_eq_some_iff.1 hp).1

end Go.Proofs.YtmddcbebaijjkaaDoor

/- What can be known: impl.KnownValid and spec.KnownValid both return kvb. -/
namespace Go.Proofs.YtmddcbebaijjkaaDoor
open Go.RowKit
set_option linter.unusedVariables false
set_option linter.unusedSimpArgs false

def okP (l : Int) (i : Nat) (p : Pr) : Prop := hw l i p.p = true ∧ 0 ≤ p.b ∧ p.b < two l

/-- what can be known -/
structure KV (o l m : Int) (ps : List Pr) (base last : Int) : Prop where
  s : sv o l m = true
  len : (ps.length : Int) ≤ two m - 1 - (two l + 1)
  ok : ∀ i p, ps[i]? = some p → okP l i p
  b0 : 0 ≤ base
  b1 : base ≤ ps.length
  last : (last = -1 ∧ base = ps.length) ∨ hw l ps.length last = true

noncomputable def kvb (o l m : Int) (ps : List Pr) (base last : Int) : Bool := @decide (KV o l m ps base last) (Classical.propDecidable _)

theorem kvb_iff {o l m : Int} {ps : List Pr} {base last : Int} : kvb o l m ps base last = true ↔ KV o l m ps base last := by simp [kvb]

theorem kvb_no {o l m : Int} {ps : List Pr} {base last : Int} : kvb o l m ps base last = false ↔ ¬ KV o l m ps base last := by simp [kvb]

theorem KnownValid_set (o l m : Int) (a : Option Addr) (n cap : Nat) (ps : List Pr) (base last : Int) (w : World) (hs : sv o l m = false) :
    Calls Tryd.prog 27 #[.agg #[.int .i64 o, .int .i64 l, .int .i64 m, .slice a n cap, .int .i64 base, .int .i64 last]] w (Ret w (.bool false)) := by
  go_enter Tryd.func27, Tryd.ntmps27
  go_wp2
  (refine wp_region_calm (by kernel_rfl) (by kernel_rfl) ?_
   repeat (first | go_big_quiet_skip | (go_big_quiet_want; go_big_quiet_op; first | go_big_quiet_on | (apply Exists.intro; refine ⟨fun _ => ?_, ?_⟩; (focus ((first | (go_at_call 54; first | refine calm_is (by assumption) (SettingValid_any _ _ _ _) | refine calm_is_seq (by assumption) (SettingValid_any _ _ _ _))))); go_big_quiet_on)))
   refine wpQuiet_nil ?_
   intro _ hw'
   obtain ⟨xq, hw''⟩ := hw'
   subst hw'')
  go_wp2
  go_ret
  exact Ret.mk (by repeat (first | exact More.refl _ | apply More.plus | apply More.alloc | apply More.drew | apply More.drewN))

theorem KnownValid_len (o l m : Int) (a : Option Addr) (n cap : Nat) (ps : List Pr) (base last : Int) (w : World) (hs : sv o l m = true) (hl : two m - 1 - (two l + 1) < (n : Int)) :
    Calls Tryd.prog 27 #[.agg #[.int .i64 o, .int .i64 l, .int .i64 m, .slice a n cap, .int .i64 base, .int .i64 last]] w (Ret w (.bool false)) := by
  obtain ⟨h0, h1, h2, h3, h4⟩ := sv_iff.1 hs
  obtain ⟨t1, t2⟩ := two_lit h1 h2
  obtain ⟨t3, t4⟩ := two_bd (n := m) (by omega) (by omega)
  clear h0
  go_enter Tryd.func27, Tryd.ntmps27
  go_wp2
  (refine wp_region_calm (by kernel_rfl) (by kernel_rfl) ?_
   repeat (first | go_big_quiet_skip | (go_big_quiet_want; go_big_quiet_op; first | go_big_quiet_on | (apply Exists.intro; refine ⟨fun _ => ?_, ?_⟩; (focus ((first | (go_at_call 54; first | refine calm_is (by assumption) (SettingValid_any _ _ _ _) | refine calm_is_seq (by assumption) (SettingValid_any _ _ _ _)) | (go_at_call 55; first | refine calm_of (LastCode_yes _ _ _ hs _) | refine calm_seq (LastCode_yes _ _ _ hs _)) | (go_at_call 56; first | refine calm_of (EndCode_yes _ _ _ hs _) | refine calm_seq (EndCode_yes _ _ _ hs _))))); go_big_quiet_on)))
   refine wpQuiet_nil ?_
   intro _ hw'
   obtain ⟨xq, hw''⟩ := hw'
   subst hw'')
  go_wp2
  go_ret
  exact Ret.mk (by repeat (first | exact More.refl _ | apply More.plus | apply More.alloc | apply More.drew | apply More.drewN))

set_option maxHeartbeats 2000000 in
theorem KnownValid_loop (o l m : Int) (a : Option Addr) (cap : Nat) (ps : List Pr) (base last : Int) (w : World) (hr : RdP w a cap ps) (hs : sv o l m = true) (hl : (ps.length : Int) ≤ two m - 1 - (two l + 1)) :
    Calls Tryd.prog 27 #[.agg #[.int .i64 o, .int .i64 l, .int .i64 m, .slice a ps.length cap, .int .i64 base, .int .i64 last]] w (Ret w (.bool (kvb o l m ps base last))) := by
  obtain ⟨h0, h1, h2, h3, h4⟩ := sv_iff.1 hs
  obtain ⟨t1, t2⟩ := two_lit h1 h2
  obtain ⟨t3, t4⟩ := two_bd (n := m) (by omega) (by omega)
  clear h0
  obtain ⟨r1, r2, r3⟩ := hr.open
  have bl : decide (two m - 1 - (two l + 1) < (ps.length : Int)) = false := by simp; omega
  go_enter Tryd.func27, Tryd.ntmps27
  go_wp2
  (refine wp_region_calm (by kernel_rfl) (by kernel_rfl) ?_
   repeat (first | go_big_quiet_skip | (go_big_quiet_want; go_big_quiet_op; first | go_big_quiet_on | (apply Exists.intro; refine ⟨fun _ => ?_, ?_⟩; (focus ((first | (go_at_call 54; first | refine calm_is (by assumption) (SettingValid_any _ _ _ _) | refine calm_is_seq (by assumption) (SettingValid_any _ _ _ _)) | (go_at_call 55; first | refine calm_of (LastCode_yes _ _ _ hs _) | refine calm_seq (LastCode_yes _ _ _ hs _)) | (go_at_call 56; first | refine calm_of (EndCode_yes _ _ _ hs _) | refine calm_seq (EndCode_yes _ _ _ hs _))))); go_big_quiet_on)))
   refine wpQuiet_nil ?_
   intro _ hw'
   obtain ⟨xq, hw''⟩ := hw'
   subst hw'')
  go_wp2
  go_loopw [25] (fun i wr => ∃ k : Nat, k ≤ ps.length ∧ i = .int .i64 k ∧ (∀ j p, ps[j]? = some p → j < k → okP l j p) ∧ ∃ x, wr = plus ((w.alloc (.cells #[.int .i64 o, .int .i64 l, .int .i64 m, .slice a ps.length cap, .int .i64 base, .int .i64 last] 32)).alloc (.cells #[.int .i64 o, .int .i64 l, .int .i64 m] 29)) x) (fun i _ => ps.length - (intOf i).toNat)
  case atStart => exact ⟨0, Nat.zero_le _, rfl, fun j p _ h => absurd h (by omega), xq, rfl⟩
  case round =>
    obtain ⟨k, hk, rfl, hok, x, rfl⟩ := hrel
    rcases dec (k < ps.length) with ⟨hlt, blt⟩ | ⟨hlt, blt⟩
    · have hex : ∃ p, ps[k]? = some p := ⟨ps[k], List.getElem?_eq_getElem hlt⟩
      obtain ⟨p, hp⟩ := hex
      rcases r3 with rfl | ⟨b, off, rfl, hb, hc⟩
      · exact absurd hlt (by omega)
      · obtain ⟨c1, c2⟩ := hc k p hp
        have hb2 : b < w.heap.size + 1 := by omega
        have HP := Lib.hid hp
        clear hp hc
        have k2 : (k : Int) ≤ 1000000 := by omega
        have k0 : 0 ≤ (k : Int) := by omega
        cases q1 : hw l k p.p
        · have hno : kvb o l m ps base last = false := kvb_no.2 fun h => by have := (h.ok k p HP.out).1; rw [q1] at this; cases this
          go_wp2
          (refine wp_region_calm (by kernel_rfl) (by kernel_rfl) ?_
           repeat (first | go_big_quiet_skip | (go_big_quiet_want; go_big_quiet_op; first | go_big_quiet_on | (apply Exists.intro; refine ⟨fun _ => ?_, ?_⟩; (focus ((first | (go_at_call 57; first | refine calm_is (by assumption) (hasWord_yes _ _ _ _ _ hs k0 k2 _) | refine calm_is_seq (by assumption) (hasWord_yes _ _ _ _ _ hs k0 k2 _))))); go_big_quiet_on)))
           refine wpQuiet_nil ?_
           intro _ hw'
           obtain ⟨xq, hw''⟩ := hw'
           subst hw'')
          go_wp2
          go_ret
          first | exact ret_of (bool_ret hno.symm) (by repeat (first | exact More.refl _ | apply More.plus | apply More.alloc | apply More.drew | apply More.drewN)) | exact Ret.mk (by repeat (first | exact More.refl _ | apply More.plus | apply More.alloc | apply More.drew | apply More.drewN))
        · rcases dec (p.b < 0) with ⟨q2, e2⟩ | ⟨q2, e2⟩
          · have hno : kvb o l m ps base last = false := kvb_no.2 fun h => by have := (h.ok k p HP.out).2.1; omega
            go_wp2
            (refine wp_region_calm (by kernel_rfl) (by kernel_rfl) ?_
             repeat (first | go_big_quiet_skip | (go_big_quiet_want; go_big_quiet_op; first | go_big_quiet_on | (apply Exists.intro; refine ⟨fun _ => ?_, ?_⟩; (focus ((first | (go_at_call 57; first | refine calm_is (by assumption) (hasWord_yes _ _ _ _ _ hs k0 k2 _) | refine calm_is_seq (by assumption) (hasWord_yes _ _ _ _ _ hs k0 k2 _))))); go_big_quiet_on)))
             refine wpQuiet_nil ?_
             intro _ hw'
             obtain ⟨xq, hw''⟩ := hw'
             subst hw'')
            go_wp2
            go_ret
            first | exact ret_of (bool_ret hno.symm) (by repeat (first | exact More.refl _ | apply More.plus | apply More.alloc | apply More.drew | apply More.drewN)) | exact Ret.mk (by repeat (first | exact More.refl _ | apply More.plus | apply More.alloc | apply More.drew | apply More.drewN))
          · rcases dec (two l ≤ p.b) with ⟨q3, e3⟩ | ⟨q3, e3⟩
            · have hno : kvb o l m ps base last = false := kvb_no.2 fun h => by have := (h.ok k p HP.out).2.2; omega
              go_wp2
              (refine wp_region_calm (by kernel_rfl) (by kernel_rfl) ?_
               repeat (first | go_big_quiet_skip | (go_big_quiet_want; go_big_quiet_op; first | go_big_quiet_on | (apply Exists.intro; refine ⟨fun _ => ?_, ?_⟩; (focus ((first | (go_at_call 57; first | refine calm_is (by assumption) (hasWord_yes _ _ _ _ _ hs k0 k2 _) | refine calm_is_seq (by assumption) (hasWord_yes _ _ _ _ _ hs k0 k2 _)) | (go_at_call 58; first | refine calm_of (ClearCode_yes _ _ _ hs _) | refine calm_seq (ClearCode_yes _ _ _ hs _))))); go_big_quiet_on)))
               refine wpQuiet_nil ?_
               intro _ hw'
               obtain ⟨xq, hw''⟩ := hw'
               subst hw'')
              go_wp2
              go_ret
              first | exact ret_of (bool_ret hno.symm) (by repeat (first | exact More.refl _ | apply More.plus | apply More.alloc | apply More.drew | apply More.drewN)) | exact Ret.mk (by repeat (first | exact More.refl _ | apply More.plus | apply More.alloc | apply More.drew | apply More.drewN))
            · have hok' : ∀ j p, ps[j]? = some p → j < k + 1 → okP l j p := by
                intro j p' hj hlt'
                by_cases hjk : j < k
                · exact hok j p' hj hjk
                · obtain rfl : j = k := by omega
                  have hh := HP.out
                  rw [hj] at hh
                  cases hh
                  exact ⟨q1, by omega, by omega⟩
              go_wp2
              (refine wp_region_calm (by kernel_rfl) (by kernel_rfl) ?_
               repeat (first | go_big_quiet_skip | (go_big_quiet_want; go_big_quiet_op; first | go_big_quiet_on | (apply Exists.intro; refine ⟨fun _ => ?_, ?_⟩; (focus ((first | (go_at_call 57; first | refine calm_is (by assumption) (hasWord_yes _ _ _ _ _ hs k0 k2 _) | refine calm_is_seq (by assumption) (hasWord_yes _ _ _ _ _ hs k0 k2 _)) | (go_at_call 58; first | refine calm_of (ClearCode_yes _ _ _ hs _) | refine calm_seq (ClearCode_yes _ _ _ hs _))))); go_big_quiet_on)))
               refine wpQuiet_nil ?_
               intro _ hw'
               obtain ⟨xq, hw''⟩ := hw'
               subst hw'')
              go_wp2
              go_roundw
              case rel => exact ⟨k + 1, by omega, by go_num, hok', (by repeat (first | exact More.refl _ | apply More.plus | apply More.alloc | apply More.drew | apply More.drewN))⟩
              case measure => simp [intOf]; omega
    · have hall : ∀ i p, ps[i]? = some p → okP l i p := fun i p hp => hok i p hp (by have := (List.getElem?_eq_some_iff.1 hp).1; omega)
      have k2 : (ps.length : Int) ≤ 1000000 := by omega
      have k0 : 0 ≤ (ps.length : Int) := by omega
      rcases dec (base < 0) with ⟨q1, e1⟩ | ⟨q1, e1⟩
      · have hno : kvb o l m ps base last = false := kvb_no.2 fun h => by have := h.b0; omega
        go_wp2
        go_ret
        first | exact ret_of (bool_ret hno.symm) (by repeat (first | exact More.refl _ | apply More.plus | apply More.alloc | apply More.drew | apply More.drewN)) | exact Ret.mk (by repeat (first | exact More.refl _ | apply More.plus | apply More.alloc | apply More.drew | apply More.drewN))
      · rcases dec ((ps.length : Int) < base) with ⟨q2, e2⟩ | ⟨q2, e2⟩
        · have hno : kvb o l m ps base last = false := kvb_no.2 fun h => by have := h.b1; omega
          go_wp2
          go_ret
          first | exact ret_of (bool_ret hno.symm) (by repeat (first | exact More.refl _ | apply More.plus | apply More.alloc | apply More.drew | apply More.drewN)) | exact Ret.mk (by repeat (first | exact More.refl _ | apply More.plus | apply More.alloc | apply More.drew | apply More.drewN))
        · by_cases q3 : last = -1
          · subst q3
            go_wp2
            go_ret
            refine ret_of (bool_ret ?_) (by repeat (first | exact More.refl _ | apply More.plus | apply More.alloc | apply More.drew | apply More.drewN))
            by_cases q4 : base = ps.length
            · rw [kvb_iff.2 ⟨hs, hl, hall, by omega, by omega, .inl ⟨rfl, q4⟩⟩]; simp [q4]
            · rw [kvb_no.2 fun h => by
                rcases h.last with h | h
                · exact q4 h.2
                · have := hw_iff.1 h; omega]
              simp [q4]
          · have e3 : (last == -1) = false := by simp [q3]
            go_wp2_with (go_at_call 57; refine (hasWord_yes _ _ _ _ _ hs k0 k2 _).mono ?_; rintro e w' ⟨rfl, xc, rfl⟩)
            go_ret
            refine ret_of (bool_ret ?_) (by repeat (first | exact More.refl _ | apply More.plus | apply More.alloc | apply More.drew | apply More.drewN))
            cases q4 : hw l ps.length last
            · exact (kvb_no.2 fun h => by
                rcases h.last with h | h
                · exact q3 h.1
                · rw [q4] at h; cases h).symm
            · exact (kvb_iff.2 ⟨hs, hl, hall, by omega, by omega, .inr q4⟩).symm

theorem KnownValid_any (o l m : Int) (a : Option Addr) (cap : Nat) (ps : List Pr) (base last : Int) (w : World) (hr : RdP w a cap ps) :
    Calls Tryd.prog 27 #[.agg #[.int .i64 o, .int .i64 l, .int .i64 m, .slice a ps.length cap, .int .i64 base, .int .i64 last]] w (Ret w (.bool (kvb o l m ps base last))) := by
  cases hs : sv o l m
  · rw [kvb_no.2 fun h => by have := h.s; rw [hs] at this; cases this]
    exact KnownValid_set o l m a _ cap ps base last w hs
  · by_cases hl : (ps.length : Int) ≤ two m - 1 - (two l + 1)
    · exact KnownValid_loop o l m a cap ps base last w hr hs hl
    · rw [kvb_no.2 fun h => hl h.len]
      exact KnownValid_len o l m a _ cap ps base last w hs (by omega)

end Go.Proofs.YtmddcbebaijjkaaDoor

/- Walks: copies of what is known; the laws' copies, comparisons and marks. -/
namespace Go.Proofs.YtmddcbebaijjkaaDoor
open Go.RowKit
set_option linter.unusedVariables false
set_option linter.unusedSimpArgs false

theorem infoPair : (Tryd.prog.info? 53).map (fun i => (i.zero, i.size, i.bytes)) = some (some (.agg #[.int .i64 0, .int .i64 0]), 2, 16) := by kernel_rfl

/-- what a call that returns something known, with pairs of its own, leaves -/
def RetK (w : World) (o l m : Int) (ps : List Pr) (base last : Int) (e : Ending) (w' : World) : Prop :=
  ∃ a c, e = .returned (.agg #[.int .i64 o, .int .i64 l, .int .i64 m, .slice a ps.length c, .int .i64 base, .int .i64 last]) ∧ Own encP 53 w' a c ps w.heap.size ∧ ∃ x, w' = plus w x

set_option maxHeartbeats 400000 in
theorem copyKnown_any (o l m : Int) (a : Option Addr) (cap : Nat) (ps : List Pr) (base last : Int) (w : World) (hr : RdP w a cap ps) (hn : ps.length ≤ 2000000) :
    Calls Tryd.prog 42 #[.agg #[.int .i64 o, .int .i64 l, .int .i64 m, .slice a ps.length cap, .int .i64 base, .int .i64 last]] w (RetK w o l m ps base last) := by
  obtain ⟨i0, hi, hz0, hz1, hz2⟩ := info_parts infoPair
  rcases Nat.eq_zero_or_pos ps.length with h0 | h0
  · have e0 : ps = [] := List.eq_nil_of_length_eq_zero h0
    subst e0
    clear h0
    go_enter Tryd.func42, Tryd.ntmps42
    go_wp2_with (at_builtin; refine wpList_append_none _ _ _ _ i0 rfl rfl Tryd.underlying30 hi a none cap rfl rfl ?_)
    refine bodyPost_ret (v := .agg #[.int .i64 o, .int .i64 l, .int .i64 m, .slice none 0 0, .int .i64 base, .int .i64 last]) (by simp [results, Tryd.results42, go_sem]) rfl ?_
    exact ⟨none, 0, rfl, .inl ⟨rfl, rfl, rfl⟩, (by repeat (first | exact More.refl _ | apply More.plus | apply More.alloc | apply More.drew | apply More.drewN))⟩
  · go_enter Tryd.func42, Tryd.ntmps42
    have hr2 : ∀ o1 o2, Rd encP ((w.alloc o1).alloc o2) a cap ps := fun o1 o2 => (Rd.alloc (Rd.alloc hr _) _)
    go_wp2_with (at_builtin; refine wpList_append_new encP _ _ _ _ i0 _ 16 rfl rfl Tryd.underlying30 hi hz0 hz1 hz2 rfl ps a cap (hr2 _ _) h0 none rfl rfl (by omega) (by omega) ?_; intro c cur hrow hc1 hc2 hsz)
    refine bodyPost_ret (v := .agg #[.int .i64 o, .int .i64 l, .int .i64 m, .slice (some ⟨w.heap.size + 1 + 1, 0, none⟩) ps.length c, .int .i64 base, .int .i64 last]) (by simp [results, Tryd.results42, go_sem]) rfl ?_
    exact ⟨some ⟨w.heap.size + 1 + 1, 0, none⟩, c, rfl, Own.drew (Own.newAt (by simp) (by omega) hsz hrow hc1 hc2), (by repeat (first | exact More.refl _ | apply More.plus | apply More.alloc | apply More.drew | apply More.drewN))⟩

end Go.Proofs.YtmddcbebaijjkaaDoor

/- Walks: the laws' copy of a slice of pairs, and of something known. -/
namespace Go.Proofs.YtmddcbebaijjkaaDoor
open Go.RowKit
set_option linter.unusedVariables false
set_option linter.unusedSimpArgs false

theorem eqSetting_any (o l m o' l' m' : Int) (w : World) :
    Calls Tryd.prog 32 #[.agg #[.int .i64 o, .int .i64 l, .int .i64 m], .agg #[.int .i64 o', .int .i64 l', .int .i64 m']] w (Ret w (.bool (decide (o = o' ∧ l = l' ∧ m = m')))) := by
  by_cases h1 : o = o' <;> by_cases h2 : l = l' <;> by_cases h3 : m = m'
  all_goals
    have b1 : (o != o') = !decide (o = o') := rfl
    have b2 : (l != l') = !decide (l = l') := rfl
    have b3 : (m != m') = !decide (m = m') := rfl
    simp only [h1, h2, h3, decide_true, decide_false, Bool.not_true, Bool.not_false] at b1 b2 b3
    go_enter Tryd.func32, Tryd.ntmps32
    go_wp2
    go_ret
    exact ret_of (by simp [h1, h2, h3]) (by repeat (first | exact More.refl _ | apply More.plus | apply More.alloc | apply More.drew | apply More.drewN))

theorem eqPair_any (p b p' b' : Int) (w : World) :
    Calls Tryd.prog 63 #[.agg #[.int .i64 p, .int .i64 b], .agg #[.int .i64 p', .int .i64 b']] w (Ret w (.bool (decide (p = p' ∧ b = b')))) := by
  by_cases h1 : p = p' <;> by_cases h2 : b = b'
  all_goals
    have b1 : (p != p') = !decide (p = p') := rfl
    have b2 : (b != b') = !decide (b = b') := rfl
    simp only [h1, h2, decide_true, decide_false, Bool.not_true, Bool.not_false] at b1 b2
    go_enter Tryd.func63, Tryd.ntmps63
    go_wp2
    go_ret
    exact ret_of (by simp [h1, h2]) (by repeat (first | exact More.refl _ | apply More.plus | apply More.alloc | apply More.drew | apply More.drewN))

end Go.Proofs.YtmddcbebaijjkaaDoor

/- Walks: the laws' comparisons, marks and looks at marks, of pairs and of what is known. -/
namespace Go.Proofs.YtmddcbebaijjkaaDoor
open Go.RowKit
set_option linter.unusedVariables false
set_option linter.unusedSimpArgs false

theorem take_succ_eq {α : Type} {xs ys : List α} {k : Nat} {x y : α} (hx : xs[k]? = some x) (hy : ys[k]? = some y) (h : xs.take k = ys.take k) : xs.take (k + 1) = ys.take (k + 1) ↔ x = y := by
  rw [List.take_add_one, List.take_add_one, h, hx, hy]
  simp

set_option maxHeartbeats 800000 in
theorem eqPairS_any (a a' : Option Addr) (cap cap' : Nat) (ps qs : List Pr) (w : World) (hr : RdP w a cap ps) (hr' : RdP w a' cap' qs) :
    Calls Tryd.prog 33 #[.slice a ps.length cap, .slice a' qs.length cap'] w (Ret w (.bool (decide (ps = qs)))) := by
  obtain ⟨r1, r2, r3⟩ := hr.open
  obtain ⟨s1, s2, s3⟩ := hr'.open
  by_cases hl : ps.length = qs.length
  · have bl : ((ps.length : Int) != (qs.length : Int)) = false := by simp [hl]
    have HL := Lib.hid hl
    have hl1 : ps.length ≤ qs.length := by omega
    have hl2 : qs.length ≤ ps.length := by omega
    clear hl
    go_enter Tryd.func33, Tryd.ntmps33
    go_wp2
    go_loopw [5] (fun i wr => ∃ (k : Nat) (x : Ext), k ≤ ps.length ∧ i = .int .i64 k ∧ ps.take k = qs.take k ∧ wr = plus w x) (fun i _ => ps.length - (intOf i).toNat)
    case atStart => exact ⟨0, _, Nat.zero_le _, rfl, rfl, (plus_self _).symm⟩
    case round =>
      obtain ⟨k, x, hk, rfl, htk, rfl⟩ := hrel
      rcases dec (k < ps.length) with ⟨hlt, blt⟩ | ⟨hlt, blt⟩
      · have hex : ∃ p, ps[k]? = some p := ⟨ps[k], List.getElem?_eq_getElem hlt⟩
        obtain ⟨p, hp⟩ := hex
        have hex : ∃ q, qs[k]? = some q := ⟨qs[k]'(by omega), List.getElem?_eq_getElem (by omega)⟩
        obtain ⟨q, hq⟩ := hex
        rcases r3 with rfl | ⟨b, off, rfl, hb, hc⟩
        · exact absurd hlt (by omega)
        rcases s3 with rfl | ⟨b', off', rfl, hb', hc'⟩
        · exact absurd hlt (by omega)
        obtain ⟨c1, c2⟩ := hc k p hp
        obtain ⟨d1, d2⟩ := hc' k q hq
        have ht := take_succ_eq hp hq htk
        have k1 : (k : Int) < (ps.length : Int) := by omega
        have k2 : (k : Int) < (qs.length : Int) := by omega
        have k3 : 0 ≤ (k : Int) := by omega
        clear hc hc'
        cases hpq : decide (p.p = q.p ∧ p.b = q.b)
        · have hno : decide (ps = qs) = false := by
            have : p ≠ q := fun e => by subst e; simp at hpq
            rw [decide_eq_false_iff_not]
            exact fun e => this (by subst e; rw [hp] at hq; exact Option.some.inj hq)
          have HN := Lib.hid hno
          clear hno hp hq ht htk
          go_wp2
          (refine wp_region_calm (by kernel_rfl) (by kernel_rfl) ?_
           repeat (first | go_big_quiet_skip | (go_big_quiet_want; go_big_quiet_op; first | go_big_quiet_on | (apply Exists.intro; refine ⟨fun _ => ?_, ?_⟩; (focus ((first | (go_at_call 63; first | refine calm_is (by assumption) (eqPair_any _ _ _ _ _) | refine calm_is_seq (by assumption) (eqPair_any _ _ _ _ _))))); go_big_quiet_on)))
           refine wpQuiet_nil ?_
           intro _ hw'
           obtain ⟨xq, hw''⟩ := hw'
           subst hw'')
          go_wp2
          go_ret
          exact ret_of (bool_ret HN.out.symm) (by repeat (first | exact More.refl _ | apply More.plus | apply More.alloc | apply More.drew | apply More.drewN))
        · have hyes : ps.take (k + 1) = qs.take (k + 1) := by
            apply ht.2
            have := of_decide_eq_true hpq
            cases p; cases q; simp_all
          have HY := Lib.hid hyes
          clear hyes hp hq ht htk
          go_wp2
          (refine wp_region_calm (by kernel_rfl) (by kernel_rfl) ?_
           repeat (first | go_big_quiet_skip | (go_big_quiet_want; go_big_quiet_op; first | go_big_quiet_on | (apply Exists.intro; refine ⟨fun _ => ?_, ?_⟩; (focus ((first | (go_at_call 63; first | refine calm_is (by assumption) (eqPair_any _ _ _ _ _) | refine calm_is_seq (by assumption) (eqPair_any _ _ _ _ _))))); go_big_quiet_on)))
           refine wpQuiet_nil ?_
           intro _ hw'
           obtain ⟨xq, hw''⟩ := hw'
           subst hw'')
          go_wp2
          go_roundw
          case rel => exact ⟨k + 1, _, by omega, by go_num, HY.out, rfl⟩
          case measure => simp [intOf]; omega
      · have hyes : ps = qs := by
          rw [List.take_of_length_le (by omega), List.take_of_length_le (by omega)] at htk
          exact htk
        have HY := Lib.hid hyes
        clear hyes htk
        go_wp2
        go_ret
        exact ret_of (bool_ret (by rw [HY.out]; simp)) (by repeat (first | exact More.refl _ | apply More.plus | apply More.alloc | apply More.drew | apply More.drewN))
  · have hno : decide (ps = qs) = false := by
      rw [decide_eq_false_iff_not]
      exact fun e => hl (by rw [e])
    rw [hno]
    have bl : ((ps.length : Int) != (qs.length : Int)) = true := by simp; omega
    clear hno
    go_enter Tryd.func33, Tryd.ntmps33
    go_wp2
    go_ret
    exact Ret.mk (by repeat (first | exact More.refl _ | apply More.plus | apply More.alloc | apply More.drew | apply More.drewN))

/-- the marks from k on -/
def marks (k : Int) : Nat → List Pr
  | 0 => []
  | n + 1 => marks k n ++ [⟨k + 2 * n, k + 2 * n + 1⟩]

theorem marks_len (k : Int) (n : Nat) : (marks k n).length = n := by
  induction n with
  | zero => rfl
  | succ n ih => simp [marks, ih]

theorem marks_get (k : Int) (n i : Nat) (h : i < n) : (marks k n)[i]? = some ⟨k + 2 * i, k + 2 * i + 1⟩ := by
  induction n with
  | zero => omega
  | succ n ih =>
    by_cases hi : i < n
    · rw [marks, List.getElem?_append_left (by rw [marks_len]; exact hi)]; exact ih hi
    · obtain rfl : i = n := by omega
      rw [marks, List.getElem?_append_right (by rw [marks_len]; omega), marks_len]
      simp

theorem markPairS_nil (a : Option Addr) (cap : Nat) (k : Int) (w : World) :
    Calls Tryd.prog 43 #[.slice a 0 cap, .int .i64 k] w (Ret w (.int .i64 k)) := by
  go_enter Tryd.func43, Tryd.ntmps43
  go_wp2
  go_loopw [1, 5] (fun q i wr => i = .int .i64 0 ∧ q = .int .i64 k ∧ wr = w) (fun _ i _ => 0)
  case atStart => exact ⟨rfl, rfl, rfl⟩
  case round =>
    obtain ⟨rfl, rfl, rfl⟩ := hrel
    go_wp2
    go_ret
    exact Ret.mk (by repeat (first | exact More.refl _ | apply More.plus | apply More.alloc | apply More.drew | apply More.drewN))

set_option maxHeartbeats 800000 in
theorem markPairS_some (b cap n : Nat) (cur : Array Value) (k : Int) (w : World) (hb : w.heap[b]? = some (.cells cur 53 (0, 0))) (hcur : cur.size = cap * 2) (hn : n ≤ cap) (hn2 : n ≤ 2000000) (hk0 : 0 ≤ k) (hk1 : k ≤ 4000000000) :
    Calls Tryd.prog 43 #[.slice (some ⟨b, 0, none⟩) n cap, .int .i64 k] w fun e w' => e = .returned (.int .i64 (k + 2 * n)) ∧
      ∃ cur', w' = patch w b (.cells cur' 53) ∧ cur'.size = cap * 2 ∧ Row encP cur' (marks k n) := by
  have hbs : b < w.heap.size := (Array.getElem?_eq_some_iff.1 hb).1
  go_enter Tryd.func43, Tryd.ntmps43
  go_wp2
  go_loopw [1, 5] (fun q i wr => ∃ (j : Nat) (c : Array Value), j ≤ n ∧ i = .int .i64 j ∧ q = .int .i64 (k + 2 * j) ∧ c.size = cap * 2 ∧ UpTo c (marks k n) j ∧ wr = patch w b (.cells c 53)) (fun _ i _ => n - (intOf i).toNat)
  case atStart => exact ⟨0, cur, Nat.zero_le _, rfl, by simp, hcur, UpTo.zero _ _, (patch_self w b _ hb).symm⟩
  case round =>
    obtain ⟨j, c, hj, rfl, rfl, hcs, hup, rfl⟩ := hrel
    rcases dec (j < n) with ⟨hlt, blt⟩ | ⟨hlt, blt⟩
    · have hm := marks_get k n j hlt
      obtain ⟨v1, hv1⟩ := get_some (cur := c) (i := j * 2) (by omega)
      obtain ⟨v2, hv2⟩ := get_some (cur := c) (i := j * 2 + 1) (by omega)
      have HU := Lib.hid (hup.step hm (by omega))
      have HC := Lib.hid hcs
      have hne : ¬ j * 2 = j * 2 + 1 := by omega
      clear hm hup hcs hb
      go_wp2
      go_roundw
      case rel => exact ⟨j + 1, _, by omega, by go_num, int_val (by omega), by simp [HC.out], HU.out, rfl⟩
      case measure => simp [intOf]; omega
    · have : j = n := by omega
      subst this
      have HU := Lib.hid hup
      have HC := Lib.hid hcs
      clear hup hcs hb
      go_wp2
      go_ret
      exact ⟨rfl, c, rfl, HC.out, UpTo.row (by rw [marks_len]; exact HU.out)⟩

end Go.Proofs.YtmddcbebaijjkaaDoor

/- Walks: looks at marks; comparisons and marks of what is known, of writers and readers. -/
namespace Go.Proofs.YtmddcbebaijjkaaDoor
open Go.RowKit
set_option linter.unusedVariables false
set_option linter.unusedSimpArgs false

set_option maxHeartbeats 800000 in
theorem heldPairS_yes (a : Option Addr) (cap n : Nat) (k : Int) (w : World) (hr : RdP w a cap (marks k n)) (hn2 : n ≤ 2000000) (hk0 : 0 ≤ k) (hk1 : k ≤ 4000000000) :
    Calls Tryd.prog 44 #[.slice a n cap, .int .i64 k] w (Ret w (.int .i64 (k + 2 * n))) := by
  obtain ⟨r1, r2, r3⟩ := hr.open
  rw [marks_len] at r1
  go_enter Tryd.func44, Tryd.ntmps44
  go_wp2
  go_loopw [1, 5] (fun q i wr => ∃ (j : Nat), j ≤ n ∧ i = .int .i64 j ∧ q = .int .i64 (k + 2 * j) ∧ wr = w) (fun _ i _ => n - (intOf i).toNat)
  case atStart => exact ⟨0, Nat.zero_le _, rfl, by simp, rfl⟩
  case round =>
    obtain ⟨j, hj, rfl, rfl, rfl⟩ := hrel
    rcases dec (j < n) with ⟨hlt, blt⟩ | ⟨hlt, blt⟩
    · rcases r3 with rfl | ⟨b, off, rfl, hb, hc⟩
      · exact absurd hlt (by omega)
      obtain ⟨c1, c2⟩ := hc j _ (marks_get k n j hlt)
      have k1 : (j : Int) < (n : Int) := by omega
      have e1 : (k + 2 * (j : Int) != k + 2 * (j : Int)) = false := by simp
      have e2 : (k + 2 * (j : Int) + 1 != k + 2 * (j : Int) + 1) = false := by simp
      clear hc hr
      go_wp2
      go_roundw
      case rel => exact ⟨j + 1, by omega, by go_num, int_val (by omega), by first | rfl | trivial⟩
      case measure => simp [intOf]; omega
    · have : j = n := by omega
      subst this
      clear hr
      go_wp2
      go_ret
      exact Ret.mk (by repeat (first | exact More.refl _ | apply More.plus | apply More.alloc | apply More.drew | apply More.drewN))

theorem markKnown_nil (o l m : Int) (a : Option Addr) (cap : Nat) (base last : Int) (k : Int) (w : World) :
    Calls Tryd.prog 13 #[.agg #[.int .i64 o, .int .i64 l, .int .i64 m, .slice a 0 cap, .int .i64 base, .int .i64 last], .int .i64 k] w (Ret w (.int .i64 k)) := by
  go_enter Tryd.func13, Tryd.ntmps13
  go_wp2_with (go_at_call 43; refine (markPairS_nil _ _ _ _).mono ?_; rintro e w' ⟨rfl, xc, rfl⟩)
  go_ret
  exact Ret.mk (by repeat (first | exact More.refl _ | apply More.plus | apply More.alloc | apply More.drew | apply More.drewN))

theorem heldKnown_yes (o l m : Int) (a : Option Addr) (cap n : Nat) (base last : Int) (k : Int) (w : World) (hr : RdP w a cap (marks k n)) (hn2 : n ≤ 2000000) (hk0 : 0 ≤ k) (hk1 : k ≤ 4000000000) :
    Calls Tryd.prog 14 #[.agg #[.int .i64 o, .int .i64 l, .int .i64 m, .slice a n cap, .int .i64 base, .int .i64 last], .int .i64 k] w (Ret w (.int .i64 (k + 2 * n))) := by
  have q : decide (k + 2 * (n : Int) < 0) = false := by simp; omega
  go_enter Tryd.func14, Tryd.ntmps14
  go_wp2_with (go_at_call 44; refine (heldPairS_yes _ _ _ _ _ (by repeat (first | exact hr | apply rd_seq | apply Rd.plus | apply Rd.alloc | apply Rd.drew | apply Rd.drewN | refine rd_patch ?_ _ _ (by intro A hA; first | (cases hA; show _ ≠ _; omega) | (have := hal A hA; omega)))) hn2 hk0 hk1).mono ?_; rintro e w' ⟨rfl, xc, rfl⟩)
  go_ret
  exact Ret.mk (by repeat (first | exact More.refl _ | apply More.plus | apply More.alloc | apply More.drew | apply More.drewN))

set_option maxHeartbeats 800000 in
theorem eqKnown_any (o l m : Int) (a : Option Addr) (cap : Nat) (ps : List Pr) (base last : Int) (o' l' m' : Int) (a' : Option Addr) (cap' : Nat) (qs : List Pr) (base' last' : Int) (w : World) (hr : RdP w a cap ps) (hr' : RdP w a' cap' qs) :
    Calls Tryd.prog 10 #[.agg #[.int .i64 o, .int .i64 l, .int .i64 m, .slice a ps.length cap, .int .i64 base, .int .i64 last], .agg #[.int .i64 o', .int .i64 l', .int .i64 m', .slice a' qs.length cap', .int .i64 base', .int .i64 last']] w
      (Ret w (.bool (decide ((o = o' ∧ l = l' ∧ m = m') ∧ ps = qs ∧ base = base' ∧ last = last')))) := by
  cases h1 : decide (o = o' ∧ l = l' ∧ m = m') <;> cases h2 : decide (ps = qs) <;> by_cases h3 : base = base' <;> by_cases h4 : last = last'
  all_goals
    have b3 : (base != base') = !decide (base = base') := rfl
    have b4 : (last != last') = !decide (last = last') := rfl
    simp only [h3, h4, decide_true, decide_false, Bool.not_true, Bool.not_false] at b3 b4
    have H1 := Lib.hid h1
    have H2 := Lib.hid h2
    go_enter Tryd.func10, Tryd.ntmps10
    go_wp2_with (first | (go_at_call 32; refine (eqSetting_any _ _ _ _ _ _ _).mono ?_; rintro e w' ⟨rfl, xc, rfl⟩) | (go_at_call 33; refine (eqPairS_any _ _ _ _ _ _ _ (by repeat (first | exact hr | apply rd_seq | apply Rd.plus | apply Rd.alloc | apply Rd.drew | apply Rd.drewN | refine rd_patch ?_ _ _ (by intro A hA; first | (cases hA; show _ ≠ _; omega) | (have := hal A hA; omega)))) (by repeat (first | exact hr' | apply rd_seq | apply Rd.plus | apply Rd.alloc | apply Rd.drew | apply Rd.drewN | refine rd_patch ?_ _ _ (by intro A hA; first | (cases hA; show _ ≠ _; omega) | (have := hal A hA; omega))))).mono ?_; rintro e w' ⟨rfl, xc, rfl⟩))
    go_ret
    exact ret_of (bool_ret (by have := H1.out; have := H2.out; simp_all)) (by repeat (first | exact More.refl _ | apply More.plus | apply More.alloc | apply More.drew | apply More.drewN))

end Go.Proofs.YtmddcbebaijjkaaDoor

/- What can be known: spec.KnownValid returns kvb. -/
namespace Go.Proofs.YtmddcbebaijjkaaDoor
open Go.RowKit
set_option linter.unusedVariables false
set_option linter.unusedSimpArgs false

theorem specKnownValid_set (o l m : Int) (a : Option Addr) (n cap : Nat) (ps : List Pr) (base last : Int) (w : World) (hs : sv o l m = false) :
    Calls Tryd.prog 21 #[.agg #[.int .i64 o, .int .i64 l, .int .i64 m, .slice a n cap, .int .i64 base, .int .i64 last]] w (Ret w (.bool false)) := by
  go_enter Tryd.func21, Tryd.ntmps21
  go_wp2
  (refine wp_region_calm (by kernel_rfl) (by kernel_rfl) ?_
   repeat (first | go_big_quiet_skip | (go_big_quiet_want; go_big_quiet_op; first | go_big_quiet_on | (apply Exists.intro; refine ⟨fun _ => ?_, ?_⟩; (focus ((first | (go_at_call 47; first | refine calm_is (by assumption) (specSettingValid_any _ _ _ _) | refine calm_is_seq (by assumption) (specSettingValid_any _ _ _ _))))); go_big_quiet_on)))
   refine wpQuiet_nil ?_
   intro _ hw'
   obtain ⟨xq, hw''⟩ := hw'
   subst hw'')
  go_wp2
  go_ret
  exact Ret.mk (by repeat (first | exact More.refl _ | apply More.plus | apply More.alloc | apply More.drew | apply More.drewN))

theorem specKnownValid_len (o l m : Int) (a : Option Addr) (n cap : Nat) (ps : List Pr) (base last : Int) (w : World) (hs : sv o l m = true) (hl : two m - 1 - (two l + 1) < (n : Int)) :
    Calls Tryd.prog 21 #[.agg #[.int .i64 o, .int .i64 l, .int .i64 m, .slice a n cap, .int .i64 base, .int .i64 last]] w (Ret w (.bool false)) := by
  obtain ⟨h0, h1, h2, h3, h4⟩ := sv_iff.1 hs
  obtain ⟨t1, t2⟩ := two_lit h1 h2
  obtain ⟨t3, t4⟩ := two_bd (n := m) (by omega) (by omega)
  clear h0
  have l0 : 0 ≤ l := by omega
  have l1 : l ≤ 10 := by omega
  have m0 : 0 ≤ m := by omega
  go_enter Tryd.func21, Tryd.ntmps21
  go_wp2
  (refine wp_region_calm (by kernel_rfl) (by kernel_rfl) ?_
   repeat (first | go_big_quiet_skip | (go_big_quiet_want; go_big_quiet_op; first | go_big_quiet_on | (apply Exists.intro; refine ⟨fun _ => ?_, ?_⟩; (focus ((first | (go_at_call 47; first | refine calm_is (by assumption) (specSettingValid_any _ _ _ _) | refine calm_is_seq (by assumption) (specSettingValid_any _ _ _ _)) | (go_at_call 48; first | refine calm_of (l1Last_any _ _ _ m0 h4 _) | refine calm_seq (l1Last_any _ _ _ m0 h4 _)) | (go_at_call 49; first | refine calm_of (l1End_any _ _ _ l0 l1 _) | refine calm_seq (l1End_any _ _ _ l0 l1 _))))); go_big_quiet_on)))
   refine wpQuiet_nil ?_
   intro _ hw'
   obtain ⟨xq, hw''⟩ := hw'
   subst hw'')
  go_wp2
  go_ret
  exact Ret.mk (by repeat (first | exact More.refl _ | apply More.plus | apply More.alloc | apply More.drew | apply More.drewN))

set_option maxHeartbeats 2000000 in
theorem specKnownValid_loop (o l m : Int) (a : Option Addr) (cap : Nat) (ps : List Pr) (base last : Int) (w : World) (hr : RdP w a cap ps) (hs : sv o l m = true) (hl : (ps.length : Int) ≤ two m - 1 - (two l + 1)) :
    Calls Tryd.prog 21 #[.agg #[.int .i64 o, .int .i64 l, .int .i64 m, .slice a ps.length cap, .int .i64 base, .int .i64 last]] w (Ret w (.bool (kvb o l m ps base last))) := by
  obtain ⟨h0, h1, h2, h3, h4⟩ := sv_iff.1 hs
  obtain ⟨t1, t2⟩ := two_lit h1 h2
  obtain ⟨t3, t4⟩ := two_bd (n := m) (by omega) (by omega)
  clear h0
  have l0 : 0 ≤ l := by omega
  have l1 : l ≤ 10 := by omega
  have m0 : 0 ≤ m := by omega
  obtain ⟨r1, r2, r3⟩ := hr.open
  have bl : decide (two m - 1 - (two l + 1) < (ps.length : Int)) = false := by simp; omega
  cases hbase : inB 0 base ps.length
  · have hno : kvb o l m ps base last = false := kvb_no.2 fun h => by have := inB_no.1 hbase; have := h.b0; have := h.b1; omega
    go_enter Tryd.func21, Tryd.ntmps21
    go_wp2
    (refine wp_region_calm (by kernel_rfl) (by kernel_rfl) ?_
     repeat (first | go_big_quiet_skip | (go_big_quiet_want; go_big_quiet_op; first | go_big_quiet_on | (apply Exists.intro; refine ⟨fun _ => ?_, ?_⟩; (focus ((first | (go_at_call 47; first | refine calm_is (by assumption) (specSettingValid_any _ _ _ _) | refine calm_is_seq (by assumption) (specSettingValid_any _ _ _ _)) | (go_at_call 48; first | refine calm_of (l1Last_any _ _ _ m0 h4 _) | refine calm_seq (l1Last_any _ _ _ m0 h4 _)) | (go_at_call 49; first | refine calm_of (l1End_any _ _ _ l0 l1 _) | refine calm_seq (l1End_any _ _ _ l0 l1 _)) | (go_at_call 50; first | refine calm_is (by assumption) (l1In_any _ _ _ _) | refine calm_is_seq (by assumption) (l1In_any _ _ _ _))))); go_big_quiet_on)))
     refine wpQuiet_nil ?_
     intro _ hw'
     obtain ⟨xq, hw''⟩ := hw'
     subst hw'')
    go_wp2
    go_ret
    first | exact ret_of (bool_ret hno.symm) (by repeat (first | exact More.refl _ | apply More.plus | apply More.alloc | apply More.drew | apply More.drewN)) | exact Ret.mk (by repeat (first | exact More.refl _ | apply More.plus | apply More.alloc | apply More.drew | apply More.drewN))
  have HB := Lib.hid (inB_iff.1 hbase)
  go_enter Tryd.func21, Tryd.ntmps21
  go_wp2
  (refine wp_region_calm (by kernel_rfl) (by kernel_rfl) ?_
   repeat (first | go_big_quiet_skip | (go_big_quiet_want; go_big_quiet_op; first | go_big_quiet_on | (apply Exists.intro; refine ⟨fun _ => ?_, ?_⟩; (focus ((first | (go_at_call 47; first | refine calm_is (by assumption) (specSettingValid_any _ _ _ _) | refine calm_is_seq (by assumption) (specSettingValid_any _ _ _ _)) | (go_at_call 48; first | refine calm_of (l1Last_any _ _ _ m0 h4 _) | refine calm_seq (l1Last_any _ _ _ m0 h4 _)) | (go_at_call 49; first | refine calm_of (l1End_any _ _ _ l0 l1 _) | refine calm_seq (l1End_any _ _ _ l0 l1 _)) | (go_at_call 50; first | refine calm_is (by assumption) (l1In_any _ _ _ _) | refine calm_is_seq (by assumption) (l1In_any _ _ _ _))))); go_big_quiet_on)))
   refine wpQuiet_nil ?_
   intro _ hw'
   obtain ⟨xq, hw''⟩ := hw'
   subst hw'')
  go_wp2
  go_loopw [4] (fun i wr => ∃ k : Nat, k ≤ ps.length ∧ i = .int .i64 k ∧ (∀ j p, ps[j]? = some p → j < k → okP l j p) ∧ ∃ x, wr = plus ((w.alloc (.cells #[.int .i64 o, .int .i64 l, .int .i64 m, .slice a ps.length cap, .int .i64 base, .int .i64 last] 32)).alloc (.cells #[.int .i64 o, .int .i64 l, .int .i64 m] 29)) x) (fun i _ => ps.length - (intOf i).toNat)
  case atStart => exact ⟨0, Nat.zero_le _, rfl, fun j p _ h => absurd h (by omega), xq, rfl⟩
  case round =>
    obtain ⟨k, hk, rfl, hok, x, rfl⟩ := hrel
    rcases dec (k < ps.length) with ⟨hlt, blt⟩ | ⟨hlt, blt⟩
    · have hex : ∃ p, ps[k]? = some p := ⟨ps[k], List.getElem?_eq_getElem hlt⟩
      obtain ⟨p, hp⟩ := hex
      rcases r3 with rfl | ⟨b, off, rfl, hb, hc⟩
      · exact absurd hlt (by omega)
      · obtain ⟨c1, c2⟩ := hc k p hp
        have hb2 : b < w.heap.size + 1 := by omega
        have HP := Lib.hid hp
        clear hp hc
        have k2 : (k : Int) ≤ 1000000 := by omega
        have k0 : 0 ≤ (k : Int) := by omega
        have k3 : (k : Int) < (ps.length : Int) := by omega
        cases q1 : hw l k p.p
        · have hno : kvb o l m ps base last = false := kvb_no.2 fun h => by have := (h.ok k p HP.out).1; rw [q1] at this; cases this
          go_wp2
          (refine wp_region_calm (by kernel_rfl) (by kernel_rfl) ?_
           repeat (first | go_big_quiet_skip | (go_big_quiet_want; go_big_quiet_op; first | go_big_quiet_on | (apply Exists.intro; refine ⟨fun _ => ?_, ?_⟩; (focus ((first | (go_at_call 51; first | refine calm_is (by assumption) (l2Code_yes _ _ _ _ _ hs k0 k2 _) | refine calm_is_seq (by assumption) (l2Code_yes _ _ _ _ _ hs k0 k2 _))))); go_big_quiet_on)))
           refine wpQuiet_nil ?_
           intro _ hw'
           obtain ⟨xq, hw''⟩ := hw'
           subst hw'')
          go_wp2
          go_ret
          first | exact ret_of (bool_ret hno.symm) (by repeat (first | exact More.refl _ | apply More.plus | apply More.alloc | apply More.drew | apply More.drewN)) | exact Ret.mk (by repeat (first | exact More.refl _ | apply More.plus | apply More.alloc | apply More.drew | apply More.drewN))
        · cases q2 : inB 0 p.b (two l - 1)
          · have hno : kvb o l m ps base last = false := kvb_no.2 fun h => by have := (h.ok k p HP.out).2; have := inB_no.1 q2; omega
            go_wp2
            (refine wp_region_calm (by kernel_rfl) (by kernel_rfl) ?_
             repeat (first | go_big_quiet_skip | (go_big_quiet_want; go_big_quiet_op; first | go_big_quiet_on | (apply Exists.intro; refine ⟨fun _ => ?_, ?_⟩; (focus ((first | (go_at_call 51; first | refine calm_is (by assumption) (l2Code_yes _ _ _ _ _ hs k0 k2 _) | refine calm_is_seq (by assumption) (l2Code_yes _ _ _ _ _ hs k0 k2 _)) | (go_at_call 52; first | refine calm_of (l1Clear_any _ _ _ l0 l1 _) | refine calm_seq (l1Clear_any _ _ _ l0 l1 _)) | (go_at_call 50; first | refine calm_is (by assumption) (l1In_any _ _ _ _) | refine calm_is_seq (by assumption) (l1In_any _ _ _ _))))); go_big_quiet_on)))
             refine wpQuiet_nil ?_
             intro _ hw'
             obtain ⟨xq, hw''⟩ := hw'
             subst hw'')
            go_wp2
            go_ret
            first | exact ret_of (bool_ret hno.symm) (by repeat (first | exact More.refl _ | apply More.plus | apply More.alloc | apply More.drew | apply More.drewN)) | exact Ret.mk (by repeat (first | exact More.refl _ | apply More.plus | apply More.alloc | apply More.drew | apply More.drewN))
          · have hok' : ∀ j p, ps[j]? = some p → j < k + 1 → okP l j p := by
              intro j p' hj hlt'
              by_cases hjk : j < k
              · exact hok j p' hj hjk
              · obtain rfl : j = k := by omega
                have hh := HP.out
                rw [hj] at hh
                cases hh
                have := inB_iff.1 q2
                exact ⟨q1, by omega, by omega⟩
            go_wp2
            (refine wp_region_calm (by kernel_rfl) (by kernel_rfl) ?_
             repeat (first | go_big_quiet_skip | (go_big_quiet_want; go_big_quiet_op; first | go_big_quiet_on | (apply Exists.intro; refine ⟨fun _ => ?_, ?_⟩; (focus ((first | (go_at_call 51; first | refine calm_is (by assumption) (l2Code_yes _ _ _ _ _ hs k0 k2 _) | refine calm_is_seq (by assumption) (l2Code_yes _ _ _ _ _ hs k0 k2 _)) | (go_at_call 52; first | refine calm_of (l1Clear_any _ _ _ l0 l1 _) | refine calm_seq (l1Clear_any _ _ _ l0 l1 _)) | (go_at_call 50; first | refine calm_is (by assumption) (l1In_any _ _ _ _) | refine calm_is_seq (by assumption) (l1In_any _ _ _ _))))); go_big_quiet_on)))
             refine wpQuiet_nil ?_
             intro _ hw'
             obtain ⟨xq, hw''⟩ := hw'
             subst hw'')
            go_wp2
            go_roundw
            case rel => exact ⟨k + 1, by omega, by go_num, hok', (by repeat (first | exact More.refl _ | apply More.plus | apply More.alloc | apply More.drew | apply More.drewN))⟩
            case measure => simp [intOf]; omega
    · have hall : ∀ i p, ps[i]? = some p → okP l i p := fun i p hp => hok i p hp (by have := (List.getElem?_eq_some_iff.1 hp).1; omega)
      have k2 : (ps.length : Int) ≤ 1000000 := by omega
      have k0 : 0 ≤ (ps.length : Int) := by omega
      obtain ⟨hb0, hb1⟩ := HB.out
      cases q4 : hw l ps.length last
      · by_cases q3 : last = -1
        · subst q3
          go_wp2_with (go_at_call 51; refine (l2Code_yes _ _ _ _ _ hs k0 k2 _).mono ?_; rintro e w' ⟨rfl, xc, rfl⟩)
          go_ret
          refine ret_of (bool_ret ?_) (by repeat (first | exact More.refl _ | apply More.plus | apply More.alloc | apply More.drew | apply More.drewN))
          by_cases q5 : base = ps.length
          · rw [kvb_iff.2 ⟨hs, hl, hall, by omega, by omega, .inl ⟨rfl, q5⟩⟩]; simp [q5]
          · rw [kvb_no.2 fun h => by
              rcases h.last with h | h
              · exact q5 h.2
              · have := hw_iff.1 h; omega]
            simp [q5]
        · have e3 : (last == -1) = false := by simp [q3]
          have hno : kvb o l m ps base last = false := kvb_no.2 fun h => by
            rcases h.last with h | h
            · exact q3 h.1
            · rw [q4] at h; cases h
          go_wp2_with (go_at_call 51; refine (l2Code_yes _ _ _ _ _ hs k0 k2 _).mono ?_; rintro e w' ⟨rfl, xc, rfl⟩)
          go_ret
          first | exact ret_of (bool_ret hno.symm) (by repeat (first | exact More.refl _ | apply More.plus | apply More.alloc | apply More.drew | apply More.drewN)) | exact Ret.mk (by repeat (first | exact More.refl _ | apply More.plus | apply More.alloc | apply More.drew | apply More.drewN))
      · have hyes : kvb o l m ps base last = true := kvb_iff.2 ⟨hs, hl, hall, by omega, by omega, .inr q4⟩
        go_wp2_with (go_at_call 51; refine (l2Code_yes _ _ _ _ _ hs k0 k2 _).mono ?_; rintro e w' ⟨rfl, xc, rfl⟩)
        go_ret
        first | exact ret_of (bool_ret hyes.symm) (by repeat (first | exact More.refl _ | apply More.plus | apply More.alloc | apply More.drew | apply More.drewN)) | exact Ret.mk (by repeat (first | exact More.refl _ | apply More.plus | apply More.alloc | apply More.drew | apply More.drewN))

theorem specKnownValid_any (o l m : Int) (a : Option Addr) (cap : Nat) (ps : List Pr) (base last : Int) (w : World) (hr : RdP w a cap ps) :
    Calls Tryd.prog 21 #[.agg #[.int .i64 o, .int .i64 l, .int .i64 m, .slice a ps.length cap, .int .i64 base, .int .i64 last]] w (Ret w (.bool (kvb o l m ps base last))) := by
  cases hs : sv o l m
  · rw [kvb_no.2 fun h => by have := h.s; rw [hs] at this; cases this]
    exact specKnownValid_set o l m a _ cap ps base last w hs
  · by_cases hl : (ps.length : Int) ≤ two m - 1 - (two l + 1)
    · exact specKnownValid_loop o l m a cap ps base last w hr hs hl
    · rw [kvb_no.2 fun h => hl h.len]
      exact specKnownValid_len o l m a _ cap ps base last w hs (by omega)

end Go.Proofs.YtmddcbebaijjkaaDoor

/- Blocks and readings through worlds that grew and turned; what a law leaves. -/
namespace Go.Proofs.YtmddcbebaijjkaaDoor
open Go.RowKit
set_option linter.unusedVariables false
set_option linter.unusedSimpArgs false

theorem blk_plus {w : World} {k : Nat} {o : Obj} (h : w.heap[k]? = some o) (x : Ext) : (plus w x).heap[k]? = some o := by
  rw [plus_block w x (Array.getElem?_eq_some_iff.1 h).1]; exact h

theorem rd_lt {α : Type} {E : Enc α} {w : World} {a : Option Addr} {cap : Nat} {xs : List α} (h : Rd E w a cap xs) : ∀ A, a = some A → 0 < cap → A.block < w.heap.size := by
  intro A hA hpos
  obtain ⟨h1, h2, h3⟩ := h
  rcases h3 with h3 | ⟨b, off, h3, hb, hc⟩
  · omega
  · rw [h3] at hA; cases hA; exact hb

theorem rd_patch1 {α : Type} {E : Enc α} {w : World} {b' off cap : Nat} {xs : List α} (h : Rd E w (some ⟨b', off, none⟩) cap xs) (b : Nat) (o : Obj) (hb : b' ≠ b) : Rd E (patch w b o) (some ⟨b', off, none⟩) cap xs :=
  rd_patch h b o (by intro A hA; cases hA; exact hb)

theorem rd_patch2 {α : Type} {E : Enc α} {w : World} {a : Option Addr} {N cap : Nat} {xs : List α} (h : Rd E w a cap xs) (b : Nat) (o : Obj) (hal : ∀ A, a = some A → 0 < cap → A.block < N) (hb : N ≤ b) : Rd E (patch w b o) a cap xs := by
  rcases Nat.eq_zero_or_pos cap with h0 | h0
  · obtain ⟨h1, h2, h3⟩ := h
    exact ⟨h1, h2, .inl h0⟩
  · exact rd_patch h b o (by intro A hA e; have := hal A hA h0; omega)

theorem below_plus {B : Nat} {a w : World} (h : Below B a w) (hB : B ≤ w.heap.size) (x : Ext) : Below B a (plus w x) :=
  h.trans ⟨rfl, rfl, rfl, by simp, fun k hk => plus_block w x (by omega)⟩

theorem below_patch {B : Nat} {a w : World} (h : Below B a w) {b : Nat} (hB : B ≤ b) (o : Obj) : Below B a (patch w b o) :=
  h.trans ⟨rfl, rfl, rfl, by simp, fun k hk => patch_other w b o (by omega)⟩

theorem more_below {w w' : World} (h : More w w') : Below w.heap.size w w' := by
  obtain ⟨x, rfl⟩ := h
  exact below_plus (Below.refl _ _) (Nat.le_refl _) x

end Go.Proofs.YtmddcbebaijjkaaDoor

/- Slices of strings: their cells; the laws' texts of marks. -/
namespace Go.Proofs.YtmddcbebaijjkaaDoor
open Go.RowKit
set_option linter.unusedVariables false
set_option linter.unusedSimpArgs false

def encS : Enc ByteArray where
  sz := 1
  enc s := [.string s]
  len _ := rfl
  one := by intro x u hu; simp at hu; subst hu; rfl

/-- the slice at a reads as the strings ss -/
def RdS (w : World) (a : Option Addr) (cap : Nat) (ss : List ByteArray) : Prop := Rd encS w a cap ss

theorem RdS.open {w : World} {a : Option Addr} {cap : Nat} {ss : List ByteArray} (h : RdS w a cap ss) : ss.length ≤ cap ∧ cap ≤ 9223372036854775807 ∧ (cap = 0 ∨ ∃ b off, a = some ⟨b, off, none⟩ ∧ b < w.heap.size ∧
    ∀ i s, ss[i]? = some s → w.cell? ⟨b, off + i, none⟩ = some (.string s)) := by
  obtain ⟨h1, h2, h3⟩ := h
  refine ⟨h1, h2, ?_⟩
  rcases h3 with h3 | ⟨b, off, rfl, hb, hc⟩
  · exact .inl h3
  · refine .inr ⟨b, off, rfl, hb, fun i s hs => ?_⟩
    have := flat_get encS ss i s hs 0 (by decide)
    have := hc (i * 1 + 0) _ this
    simpa using this

theorem rowS_of (cur : Array Value) (ss : List ByteArray) (h : ∀ (i : Nat) (s : ByteArray), ss[i]? = some s → cur[i]? = some (Value.string s)) : Row encS cur ss :=
  row_of encS cur ss fun i s hs j hj => by
    have hj' : j < 1 := hj
    obtain rfl : j = 0 := by omega
    have := h i s hs
    simpa [encS] using this

/-- the strings below k stand in cur -/
def UpToS (cur : Array Value) (ss : List ByteArray) (k : Nat) : Prop := ∀ (i : Nat) (s : ByteArray), ss[i]? = some s → i < k → cur[i]? = some (Value.string s)

theorem UpToS.zero (cur : Array Value) (ss : List ByteArray) : UpToS cur ss 0 := fun _ _ _ h => absurd h (by omega)

theorem UpToS.step {cur : Array Value} {ss : List ByteArray} {k : Nat} {s : ByteArray} (h : UpToS cur ss k) (hs : ss[k]? = some s) (hk : k < cur.size) : UpToS (cur.setIfInBounds k (.string s)) ss (k + 1) := by
  intro i q hq hi
  by_cases hik : i = k
  · subst hik
    rw [hs] at hq; cases hq
    simp [hk]
  · rw [Array.getElem?_setIfInBounds, if_neg (fun e => hik e.symm)]
    exact h i q hq (by omega)

theorem UpToS.row {cur : Array Value} {ss : List ByteArray} (h : UpToS cur ss ss.length) : Row encS cur ss :=
  rowS_of cur ss fun i s hs => h i s hs (List.getElem?_eq_some_iff.1 hs).1

end Go.Proofs.YtmddcbebaijjkaaDoor

/- Slices of bytes that become strings. -/
namespace Go.Proofs.YtmddcbebaijjkaaDoor
open Go.RowKit
set_option linter.unusedVariables false
set_option linter.unusedSimpArgs false

def encB : Enc UInt8 where
  sz := 1
  enc b := [.int .u8 b.toNat]
  len _ := rfl
  one := by intro x u hu; simp at hu; subst hu; rfl

theorem flatB (bs : List UInt8) : flat encB bs = (bs.map fun b => (b.toNat : Int)).map (Value.int .u8) := by
  induction bs with
  | nil => rfl
  | cons b bs ih =>
    have : flat encB (b :: bs) = encB.enc b ++ flat encB bs := by simp [flat]
    rw [this, ih]
    rfl

theorem push_bytes (bs : List UInt8) : ∀ (s : ByteArray), (bs.map fun b => (b.toNat : Int)).foldl (fun r n => r.push (UInt8.ofNat n.toNat)) s = ⟨s.data ++ bs.toArray⟩ := by
  induction bs with
  | nil => intro s; cases s; simp
  | cons b bs ih =>
    intro s
    rw [List.map_cons, List.foldl_cons, ih]
    simp [ByteArray.push]

/-- a slice of bytes, made a string -/
theorem run_str {P : Program} {W : World} {src dst e : TypeId} (hs : P.underlying src = some (.slice e)) (he : P.underlying e = some (.int .u8)) (hd : P.underlying dst = some .string)
    {a : Option Addr} {cap : Nat} {bs : List UInt8} (h : Rd encB W a cap bs) (hne : 0 < bs.length) : (convert src dst (.slice a bs.length cap)).run P W = .ok (.string ⟨bs.toArray⟩) W := by
  rw [run_convert_bytes_string W src dst e a bs.length cap hs he hd]
  obtain ⟨h1, h2, h3⟩ := h
  rcases h3 with h3 | ⟨b, off, rfl, hb, hc⟩
  · omega
  · have hl : (loadCells ⟨b, off, none⟩ bs.length).run P W = .ok ((bs.map fun b => (b.toNat : Int)).map (Value.int .u8)).toArray W := by
      have := run_loadCells_list (P := P) W ⟨b, off, none⟩ (flat encB bs) (fun j v hj => by rw [Addr.add_lit]; exact hc j v hj)
      rw [flat_len, flatB] at this
      simpa [encB] using this
    rw [run_bytesToString W _ _ _ _ hl, push_bytes]
    have e0 : (ByteArray.empty).data = #[] := rfl
    rw [e0, Array.empty_append]

/-- the one byte that n is -/
def one (n : Int) : ByteArray := ⟨#[UInt8.ofNat n.toNat]⟩

theorem run_one {P : Program} {W : World} {src dst e : TypeId} (hs : P.underlying src = some (.slice e)) (he : P.underlying e = some (.int .u8)) (hd : P.underlying dst = some .string)
    (b : Nat) (n : Int) (h0 : 0 ≤ n) (h1 : n ≤ 255) (hb : b = W.heap.size) : (convert src dst (.slice (some ⟨b, 0, none⟩) 1 1)).run P (W.alloc (.cells #[.int .u8 n] e)) = .ok (.string (one n)) (W.alloc (.cells #[.int .u8 n] e)) := by
  have hn : ((UInt8.ofNat n.toNat).toNat : Int) = n := by
    rw [UInt8.toNat_ofNat']
    omega
  have hrow : Row encB #[.int .u8 n] [UInt8.ofNat n.toNat] := row_of encB _ _ fun i x hx j hj => by
    have hj' : j < 1 := hj
    obtain rfl : j = 0 := by omega
    have hi : i < 1 := by simpa using (List.getElem?_eq_some_iff.1 hx).1
    obtain rfl : i = 0 := by omega
    simp at hx
    subst hx
    show _ = some (Value.int .u8 ((UInt8.ofNat n.toNat).toNat : Int))
    rw [hn]; rfl
  subst hb
  exact run_str hs he hd (Own.rd (Own.new (lo := 0) (Nat.zero_le _) rfl hrow (Nat.le_refl _) (by simp))) (by simp)

end Go.Proofs.YtmddcbebaijjkaaDoor

/- Walks: the laws' texts of marks, and marks in slices of strings. -/
namespace Go.Proofs.YtmddcbebaijjkaaDoor
open Go.RowKit
set_option linter.unusedVariables false
set_option linter.unusedSimpArgs false

end Go.Proofs.YtmddcbebaijjkaaDoor
