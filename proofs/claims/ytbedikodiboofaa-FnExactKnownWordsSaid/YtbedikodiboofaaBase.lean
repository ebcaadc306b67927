/- Worlds that grow, and the plain forms of settings, pairs and what is known; no program in sight. -/
import Derived.Test.YtbedikodiboofaaRows
import Derived.WalkKit
import Derived.ProofKit
import Derived.OpenShut
import Derived.JoinedCond
import Derived.Outline
import Derived.BigQuiet
import Derived.IntWalk
import Derived.Lib.Hide
namespace Go.Proofs.Ytbedikodiboofaa
open Go.RowKit
set_option linter.unusedVariables false
set_option linter.unusedSimpArgs false

/-- blocks more, and a count of draws -/
structure Ext where
  os : Array Obj
  d : Nat

instance : Inhabited Ext := ⟨⟨#[], 0⟩⟩

/-- w with blocks more, and some count of draws. -/
def plus (w : World) (x : Ext) : World := { w with heap := w.heap ++ x.os, drawn := x.d }

def Ext.n (x : Ext) : Nat := x.os.size

def Ext.seq (x y : Ext) : Ext := ⟨x.os ++ y.os, y.d⟩

def Ext.draw (x : Ext) (n : Nat) : Ext := ⟨x.os, x.d + n⟩

@[simp, go_sem] theorem plus_size (w : World) (x : Ext) : (plus w x).heap.size = w.heap.size + x.n := by simp [plus, Ext.n]

@[simp, go_sem] theorem plus_plus (w : World) (x y : Ext) : plus (plus w x) y = plus w (x.seq y) := by simp [plus, Ext.seq]

@[simp, go_sem] theorem plus_drew (w : World) (x : Ext) : (plus w x).drew = plus w (x.draw 1) := rfl

@[simp, go_sem] theorem plus_drewN (w : World) (x : Ext) (n : Nat) : (plus w x).drewN n = plus w (x.draw n) := rfl

@[simp, go_sem] theorem drew_plus (w : World) (x : Ext) : plus w.drew x = plus w x := rfl

@[simp, go_sem] theorem drewN_plus (w : World) (x : Ext) (n : Nat) : plus (w.drewN n) x = plus w x := rfl

@[simp, go_sem] theorem plus_tape (w : World) (x : Ext) : (plus w x).tape = w.tape := rfl

theorem plus_self (w : World) : plus w ⟨#[], w.drawn⟩ = w := by cases w; simp [plus]

theorem alloc_plus (w : World) (o : Obj) : w.alloc o = plus w ⟨#[o], w.drawn⟩ := by unfold plus World.alloc; rw [Array.push_eq_append]

theorem drew_is_plus (w : World) : w.drew = plus w ⟨#[], w.drawn + 1⟩ := by unfold plus World.drew; rw [Array.append_empty]

theorem drewN_is_plus (w : World) (n : Nat) : w.drewN n = plus w ⟨#[], w.drawn + n⟩ := by unfold plus World.drewN; rw [Array.append_empty]

theorem plus_block (w : World) (x : Ext) {k : Nat} (h : k < w.heap.size) : (plus w x).heap[k]? = w.heap[k]? := by
  simp [plus, Array.getElem?_append, h]

theorem plus_cell_lt (w : World) (x : Ext) {a : Addr} (h : a.block < w.heap.size) : (plus w x).cell? a = w.cell? a :=
  World.cell?_of_block (plus_block w x h)

theorem plus_frozen_lt (w : World) (x : Ext) {a : Addr} (h : a.block < w.heap.size) : (plus w x).frozen? a = w.frozen? a :=
  World.frozen?_of_block (plus_block w x h)

def cellPast (w : World) (a : Addr) : Option Value := w.cell? a

def frozenPast (w : World) (a : Addr) : Bool := w.frozen? a

@[go_sem] theorem plus_cell (w : World) (x : Ext) (n i : Nat) : (plus w x).cell? ⟨n, i, none⟩ = if n < w.heap.size then w.cell? ⟨n, i, none⟩ else cellPast (plus w x) ⟨n, i, none⟩ := by
  split
  · exact plus_cell_lt w x (by assumption)
  · rfl

@[go_sem] theorem plus_frozen (w : World) (x : Ext) (n i : Nat) : (plus w x).frozen? ⟨n, i, none⟩ = if n < w.heap.size then w.frozen? ⟨n, i, none⟩ else frozenPast (plus w x) ⟨n, i, none⟩ := by
  split
  · exact plus_frozen_lt w x (by assumption)
  · rfl

def setPast (w : World) (a : Addr) (v : Value) : World := w.setCell a v

theorem plus_setCell_lt (w : World) (x : Ext) (a : Addr) (v : Value) (h : a.block < w.heap.size) : (plus w x).setCell a v = plus (w.setCell a v) x := by
  unfold World.setCell plus
  congr 1
  apply Array.ext_getElem?
  intro k
  simp only [Array.getElem?_modify, Array.getElem?_append, Array.size_modify]
  by_cases hk : k < w.heap.size
  · simp [hk]
  · simp [hk, show ¬ a.block = k by omega]

@[go_sem] theorem plus_setCell (w : World) (x : Ext) (n i : Nat) (v : Value) : (plus w x).setCell ⟨n, i, none⟩ v = if n < w.heap.size then plus (w.setCell ⟨n, i, none⟩ v) x else setPast (plus w x) ⟨n, i, none⟩ v := by
  split
  · exact plus_setCell_lt w x _ _ (by assumption)
  · rfl

@[go_sem] theorem alloc_setCell (w : World) (c : Array Value) (t : TypeId) (n i : Nat) (v : Value) : (w.alloc (.cells c t)).setCell ⟨n, i, none⟩ v =
    if n < w.heap.size then (w.setCell ⟨n, i, none⟩ v).alloc (.cells c t) else if n = w.heap.size then w.alloc (.cells (c.setIfInBounds i v) t) else setPast (w.alloc (.cells c t)) ⟨n, i, none⟩ v := by
  split
  · exact World.setCell_alloc_past _ _ _ _ (by assumption)
  · split
    · exact World.setCell_alloc_at _ _ _ _ _ (by assumption)
    · rfl

theorem push_at (w : World) (o : Obj) (n : Nat) : (w.alloc o).heap[n]? = if n < w.heap.size then w.heap[n]? else if n = w.heap.size then some o else none := by
  show (w.heap.push o)[n]? = _
  rw [Array.getElem?_push]
  by_cases h : n = w.heap.size
  · rw [if_pos h, if_neg (by omega), if_pos h]
  · rw [if_neg h, if_neg h]
    by_cases h2 : n < w.heap.size
    · rw [if_pos h2]
    · rw [if_neg h2]; exact Array.getElem?_eq_none (by omega)

@[go_sem] theorem alloc_cell (w : World) (c : Array Value) (t : TypeId) (fz : Nat × Nat) (n i : Nat) : (w.alloc (.cells c t fz)).cell? ⟨n, i, none⟩ = if n < w.heap.size then w.cell? ⟨n, i, none⟩ else if n = w.heap.size then c[i]? else none := by
  by_cases h : n < w.heap.size
  · rw [if_pos h]; exact World.cell?_alloc_lt _ _ _ h
  unfold World.cell?
  show (match (w.alloc (.cells c t fz)).heap[n]? with | some (.cells c _ _) => _ | _ => _) = _
  rw [push_at]
  by_cases h2 : n = w.heap.size
  · simp only [if_neg h, if_pos h2]; rfl
  · simp only [if_neg h, if_neg h2]

@[go_sem] theorem alloc_frozen (w : World) (c : Array Value) (t : TypeId) (n i : Nat) : (w.alloc (.cells c t)).frozen? ⟨n, i, none⟩ = if n < w.heap.size then w.frozen? ⟨n, i, none⟩ else false := by
  by_cases h : n < w.heap.size
  · rw [if_pos h]; exact World.frozen?_alloc_past _ _ _ h
  unfold World.frozen?
  show (match (w.alloc (.cells c t)).heap[n]? with | some (.cells _ _ (lo, hi)) => _ | _ => _) = _
  rw [push_at]
  by_cases h2 : n = w.heap.size
  · simp only [if_neg h, if_pos h2]; simp
  · simp only [if_neg h, if_neg h2]

/-- w with block b turned into o -/
def patch (w : World) (b : Nat) (o : Obj) : World := { w with heap := w.heap.setIfInBounds b o }

@[simp, go_sem] theorem patch_size (w : World) (b : Nat) (o : Obj) : (patch w b o).heap.size = w.heap.size := by simp [patch]

@[simp, go_sem] theorem patch_tape (w : World) (b : Nat) (o : Obj) : (patch w b o).tape = w.tape := rfl

theorem patch_other (w : World) (b : Nat) (o : Obj) {n : Nat} (h : n ≠ b) : (patch w b o).heap[n]? = w.heap[n]? := by
  simp only [patch, Array.getElem?_setIfInBounds]
  rw [if_neg (fun e => h e.symm)]

theorem patch_at (w : World) (b : Nat) (o : Obj) (h : b < w.heap.size) : (patch w b o).heap[b]? = some o := by
  simp [patch, h]

theorem patch_self (w : World) (b : Nat) (o : Obj) (h : w.heap[b]? = some o) : patch w b o = w := by
  unfold patch
  have : w.heap.setIfInBounds b o = w.heap := by
    apply Array.ext_getElem?
    intro k
    rw [Array.getElem?_setIfInBounds]
    split
    · rename_i hk; subst hk
      rw [h, if_pos (Array.getElem?_eq_some_iff.1 h).1]
    · rfl
  rw [this]

theorem patch_patch (w : World) (b : Nat) (o o' : Obj) : patch (patch w b o) b o' = patch w b o' := by
  unfold patch
  congr 1
  simp

@[go_sem] theorem patch_cell (w : World) (b : Nat) (c : Array Value) (t : TypeId) (n i : Nat) : (patch w b (.cells c t)).cell? ⟨n, i, none⟩ = if b < w.heap.size then if n = b then c[i]? else w.cell? ⟨n, i, none⟩ else cellPast (patch w b (.cells c t)) ⟨n, i, none⟩ := by
  by_cases hb : b < w.heap.size
  · rw [if_pos hb]
    by_cases h : n = b
    · subst h
      rw [if_pos rfl]
      unfold World.cell?
      rw [patch_at w n _ hb]
      rfl
    · rw [if_neg h]; exact World.cell?_of_block (patch_other w b _ h)
  · rw [if_neg hb]; rfl

@[go_sem] theorem patch_frozen (w : World) (b : Nat) (c : Array Value) (t : TypeId) (n i : Nat) : (patch w b (.cells c t)).frozen? ⟨n, i, none⟩ = if b < w.heap.size then if n = b then false else w.frozen? ⟨n, i, none⟩ else frozenPast (patch w b (.cells c t)) ⟨n, i, none⟩ := by
  by_cases hb : b < w.heap.size
  · rw [if_pos hb]
    by_cases h : n = b
    · subst h
      rw [if_pos rfl]
      unfold World.frozen?
      rw [patch_at w n _ hb]
      simp
    · rw [if_neg h]; exact World.frozen?_of_block (patch_other w b _ h)
  · rw [if_neg hb]; rfl

def setObj (i : Nat) (v : Value) : Obj → Obj
  | .cells c elem fz => .cells (c.setIfInBounds i v) elem fz
  | o => o

theorem setCell_at (w : World) (n i : Nat) (v : Value) (k : Nat) : (w.setCell ⟨n, i, none⟩ v).heap[k]? = if k = n then (w.heap[k]?).map (setObj i v) else w.heap[k]? := by
  show (w.heap.modify n _)[k]? = _
  rw [Array.getElem?_modify]
  by_cases h : n = k
  · subst h
    rw [if_pos rfl, if_pos rfl]
    congr 1
  · rw [if_neg h, if_neg (fun e => h e.symm)]

theorem world_ext {w w' : World} (h1 : ∀ k : Nat, w.heap[k]? = w'.heap[k]?) (h2 : w.tape = w'.tape) (h3 : w.drawn = w'.drawn) (h4 : w.os = w'.os) (h5 : w.output = w'.output) : w = w' := by
  have : w.heap = w'.heap := Array.ext_getElem? h1
  cases w; cases w'; simp_all

theorem patch_heap (w : World) (b : Nat) (o : Obj) (k : Nat) : (patch w b o).heap[k]? = if b = k then if b < w.heap.size then some o else none else w.heap[k]? := by
  simp only [patch, Array.getElem?_setIfInBounds]

@[go_sem] theorem patch_setCell (w : World) (b : Nat) (c : Array Value) (t : TypeId) (n i : Nat) (v : Value) : (patch w b (.cells c t)).setCell ⟨n, i, none⟩ v = if b < w.heap.size then if n = b then patch w b (.cells (c.setIfInBounds i v) t) else patch (w.setCell ⟨n, i, none⟩ v) b (.cells c t) else setPast (patch w b (.cells c t)) ⟨n, i, none⟩ v := by
  by_cases hb : b < w.heap.size
  · rw [if_pos hb]
    by_cases h : n = b
    · subst h
      rw [if_pos rfl]
      refine world_ext (fun k => ?_) rfl rfl rfl rfl
      rw [setCell_at, patch_heap, patch_heap]
      by_cases hk : k = n
      · subst hk; simp [hb, setObj]
      · rw [if_neg hk, if_neg (fun e => hk e.symm), if_neg (fun e => hk e.symm)]
    · rw [if_neg h]
      refine world_ext (fun k => ?_) rfl rfl rfl rfl
      rw [setCell_at, patch_heap, patch_heap, setCell_at]
      by_cases hk : k = n
      · subst hk; rw [if_pos rfl, if_neg (fun e => h e.symm), if_pos rfl, if_neg (fun e => h e.symm)]
      · rw [if_neg hk, if_neg hk, World.size_setCell]
  · rw [if_neg hb]; rfl

/-- w' is w with blocks more. -/
def More (w w' : World) : Prop := ∃ x, w' = plus w x

theorem More.refl (w : World) : More w w := ⟨⟨#[], w.drawn⟩, (plus_self w).symm⟩

theorem More.plus {w w' : World} (h : More w w') (x : Ext) : More w (plus w' x) := by
  obtain ⟨x1, rfl⟩ := h
  exact ⟨x1.seq x, plus_plus ..⟩

theorem More.alloc {w w' : World} (h : More w w') (o : Obj) : More w (w'.alloc o) := by rw [alloc_plus]; exact h.plus _

theorem More.drew {w w' : World} (h : More w w') : More w w'.drew := by rw [drew_is_plus]; exact h.plus _

theorem More.drewN {w w' : World} (h : More w w') (n : Nat) : More w (w'.drewN n) := by rw [drewN_is_plus]; exact h.plus _

theorem More.trans {a b c : World} (h : More a b) (k : More b c) : More a c := by
  obtain ⟨x, rfl⟩ := k
  exact h.plus _

/-- A call that returns v and makes at most new blocks. -/
def Ret (w : World) (v : Value) (e : Ending) (w' : World) : Prop := e = .returned v ∧ ∃ x, w' = plus w x

theorem Ret.mk {w w' : World} {v : Value} (h : More w w') : Ret w v (.returned v) w' := ⟨rfl, h⟩

theorem ret_of {w w' : World} {v v' : Value} (e : v' = v) (h : More w w') : Ret w v (.returned v') w' := ⟨by rw [e], h⟩

/-- In the class of w's extensions a region that draws its order may be walked in the text's order. -/
theorem wp_region_calm {P : Program} {id : Nat} {Q : Exit → Act → World → Prop} {a : Act} {w : World} {l : List Oper} (hm : P.follows .mixedOrders = true) (hB : Region.lexB .any l.toArray = true)
    (h : wpQuiet P l.toArray (fun w' => ∃ x, w' = plus w x) (fun a' => ∀ w', (∃ x, w' = plus w x) → Q .normal a' w') l a) : (Code.region id l.toArray true).wp P Q a w :=
  wp_region_quiet (C := fun w' => ∃ x, w' = plus w x) hm hB ⟨⟨#[], w.drawn + 1⟩, by simp [plus]⟩ (by simpa using h)

theorem calm_of {P : Program} {f : FuncId} {args : Array Value} {w : World} {x : Ext} {v : Value}
    (h : Calls P f args (plus w x) (Ret (plus w x) v)) : Calls P f args (plus w x) fun e w'' => e = .returned v ∧ ∃ x', w'' = plus w x' :=
  h.mono fun _ _ ⟨he, x', hw⟩ => ⟨he, x.seq x', by rw [hw, plus_plus]⟩

theorem calm_is {P : Program} {f : FuncId} {args : Array Value} {w : World} {x : Ext} {b c : Bool} (e : c = b)
    (h : Calls P f args (plus w x) (Ret (plus w x) (.bool c))) : Calls P f args (plus w x) fun e w'' => e = .returned (.bool b) ∧ ∃ x', w'' = plus w x' := by
  subst e
  exact calm_of h

theorem Ext.seq_seq (x y z : Ext) : (x.seq y).seq z = x.seq (y.seq z) := by simp [Ext.seq, Array.append_assoc]

theorem calm_seq {P : Program} {f : FuncId} {args : Array Value} {w : World} {x y : Ext} {v : Value}
    (h : Calls P f args (plus w (x.seq y)) (Ret (plus w (x.seq y)) v)) : Calls P f args (plus w (x.seq y)) fun e w'' => e = .returned v ∧ ∃ x', w'' = plus w (x.seq x') :=
  h.mono fun _ _ ⟨he, x', hw⟩ => ⟨he, y.seq x', by rw [hw, plus_plus, Ext.seq_seq]⟩

theorem calm_is_seq {P : Program} {f : FuncId} {args : Array Value} {w : World} {x y : Ext} {b c : Bool} (e : c = b)
    (h : Calls P f args (plus w (x.seq y)) (Ret (plus w (x.seq y)) (.bool c))) : Calls P f args (plus w (x.seq y)) fun e w'' => e = .returned (.bool b) ∧ ∃ x', w'' = plus w (x.seq x') := by
  subst e
  exact calm_seq h

theorem ret_int {k : IntKind} {a b : Int} (h : a = b) : Ending.returned (.int k a) = .returned (.int k b) := by rw [h]

/-! ### Settings -/

def ov (o : Int) : Bool := decide (o = 0 ∨ o = 1)

theorem ov_iff {o : Int} : ov o = true ↔ (o = 0 ∨ o = 1) := by simp [ov]

theorem ov_no {o : Int} : ov o = false ↔ ¬ (o = 0 ∨ o = 1) := by simp [ov]

/-- a number in a range -/
def inB (a n b : Int) : Bool := decide (a ≤ n ∧ n ≤ b)

theorem inB_iff {a n b : Int} : inB a n b = true ↔ (a ≤ n ∧ n ≤ b) := by simp [inB]

theorem inB_no {a n b : Int} : inB a n b = false ↔ ¬ (a ≤ n ∧ n ≤ b) := by simp [inB]

def sv (o l m : Int) : Bool := decide ((o = 0 ∨ o = 1) ∧ 1 ≤ l ∧ l ≤ 8 ∧ l + 2 ≤ m ∧ m ≤ 10)

theorem sv_iff {o l m : Int} : sv o l m = true ↔ ((o = 0 ∨ o = 1) ∧ 1 ≤ l ∧ l ≤ 8 ∧ l + 2 ≤ m ∧ m ≤ 10) := by simp [sv]

theorem sv_no {o l m : Int} : sv o l m = false ↔ ¬ ((o = 0 ∨ o = 1) ∧ 1 ≤ l ∧ l ≤ 8 ∧ l + 2 ≤ m ∧ m ≤ 10) := by rw [← sv_iff]; simp

theorem dec (p : Prop) [Decidable p] : (p ∧ decide p = true) ∨ (¬ p ∧ decide p = false) := by
  by_cases h : p
  · exact .inl ⟨h, decide_eq_true h⟩
  · exact .inr ⟨h, decide_eq_false h⟩

theorem bool_ret {a b : Bool} (h : a = b) : Value.bool a = Value.bool b := by rw [h]

/-- 2 to the n-th. -/
def two (n : Int) : Int := (2 : Int) ^ n.toNat

theorem int_val {a b : Int} (h : a = b) : Value.int .i64 a = Value.int .i64 b := by rw [h]

theorem wrap64_of {n : Int} (h0 : -9223372036854775808 ≤ n) (h1 : n ≤ 9223372036854775807) : wrap64 n = n := IntWalk.wrap64_in n ⟨h0, h1⟩

theorem two_cases {n : Int} (h0 : 0 ≤ n) (h1 : n ≤ 10) : n = 0 ∨ n = 1 ∨ n = 2 ∨ n = 3 ∨ n = 4 ∨ n = 5 ∨ n = 6 ∨ n = 7 ∨ n = 8 ∨ n = 9 ∨ n = 10 := by omega

theorem two_bd {n : Int} (h0 : 0 ≤ n) (h1 : n ≤ 10) : 1 ≤ two n ∧ two n ≤ 1024 := by
  rcases two_cases h0 h1 with rfl | rfl | rfl | rfl | rfl | rfl | rfl | rfl | rfl | rfl | rfl <;> decide +kernel

theorem two_wrap {n : Int} (h0 : 0 ≤ n) (h1 : n ≤ 10) : wrap64 (2 ^ n.toNat) = two n := by
  obtain ⟨a, b⟩ := two_bd h0 h1
  exact wrap64_of (n := two n) (by omega) (by omega)

theorem two_lit {n : Int} (h0 : 1 ≤ n) (h1 : n ≤ 8) : 2 ≤ two n ∧ two n ≤ 256 := by
  rcases two_cases (by omega : 0 ≤ n) (by omega) with rfl | rfl | rfl | rfl | rfl | rfl | rfl | rfl | rfl | rfl | rfl <;> first | decide +kernel | omega

theorem two_four {l m : Int} (h0 : 1 ≤ l) (h1 : l + 2 ≤ m) (h2 : m ≤ 10) : 4 * two l ≤ two m := by
  rcases two_cases (by omega : 0 ≤ l) (by omega) with rfl | rfl | rfl | rfl | rfl | rfl | rfl | rfl | rfl | rfl | rfl <;>
  rcases two_cases (by omega : 0 ≤ m) (by omega) with rfl | rfl | rfl | rfl | rfl | rfl | rfl | rfl | rfl | rfl | rfl <;> first | decide +kernel | omega

/-- a code is a literal, or that of one of the first n pairs -/
def hw (l n c : Int) : Bool := decide ((0 ≤ c ∧ c < two l) ∨ (two l + 1 < c ∧ c ≤ two l + 1 + n))

theorem hw_iff {l n c : Int} : hw l n c = true ↔ ((0 ≤ c ∧ c < two l) ∨ (two l + 1 < c ∧ c ≤ two l + 1 + n)) := by simp [hw]

theorem hw_no {l n c : Int} : hw l n c = false ↔ ¬ ((0 ≤ c ∧ c < two l) ∨ (two l + 1 < c ∧ c ≤ two l + 1 + n)) := by rw [← hw_iff]; simp

end Go.Proofs.Ytbedikodiboofaa
