/- Walks: new writers and readers; their comparisons and marks. -/
import Derived.Test.YtbedikodiboofaaEqk
import Derived.Test.YtbedikodiboofaaKvs
namespace Go.Proofs.Ytbedikodiboofaa
open Go.RowKit
set_option linter.unusedVariables false
set_option linter.unusedSimpArgs false

theorem patch_plus (w : World) (x : Ext) (b : Nat) (o : Obj) (h : b < w.heap.size) : patch (plus w x) b o = plus (patch w b o) x := by
  refine world_ext (fun k => ?_) rfl rfl rfl rfl
  rw [patch_heap]
  by_cases hk : b = k
  · subst hk
    rw [if_pos rfl, if_pos (by rw [plus_size]; omega), plus_block _ _ (by simpa using h), patch_at w b o h]
  · rw [if_neg hk]
    by_cases hk2 : k < w.heap.size
    · rw [plus_block _ _ hk2, plus_block _ _ (by simpa using hk2), patch_other w b o (fun e => hk e.symm)]
    · exact plus_above _ _ _ (by simp) (by simpa using Nat.le_of_not_lt hk2)

theorem patch_alloc (w : World) (o1 : Obj) (b : Nat) (o : Obj) (h : b < w.heap.size) : patch (w.alloc o1) b o = (patch w b o).alloc o1 := by
  rw [alloc_plus, patch_plus _ _ _ _ h, alloc_plus]
  rfl

/-- what a call leaves that writes marks from k on into n pairs in block b -/
def RetM (w : World) (b cap n : Nat) (k : Int) (e : Ending) (w' : World) : Prop :=
  e = .returned (.int .i64 (k + 2 * n)) ∧ ∃ cur' x, w' = plus (patch w b (.cells cur' 86)) x ∧ cur'.size = cap * 2 ∧ Row encP cur' (marks k n)

theorem markKnown_some (o l m : Int) (b cap n : Nat) (base last : Int) (cur : Array Value) (k : Int) (w : World) (hb : w.heap[b]? = some (.cells cur 86 (0, 0))) (hcur : cur.size = cap * 2) (hn : n ≤ cap) (hn2 : n ≤ 2000000) (hk0 : 0 ≤ k) (hk1 : k ≤ 4000000000) :
    Calls Try.prog 21 #[.agg #[.int .i64 o, .int .i64 l, .int .i64 m, .slice (some ⟨b, 0, none⟩) n cap, .int .i64 base, .int .i64 last], .int .i64 k] w (RetM w b cap n k) := by
  have hbs : b < w.heap.size := (Array.getElem?_eq_some_iff.1 hb).1
  have hb2 : ∀ o1, (w.alloc o1).heap[b]? = some (.cells cur 86 (0, 0)) := fun o1 => by rw [push_at, if_pos hbs]; exact hb
  have HB := Lib.hid hb2
  clear hb hb2
  go_enter Try.func21, Try.ntmps21
  go_wp2_with (go_at_call 66; refine (markPairS_some b cap n cur k _ (HB.out _) hcur hn hn2 hk0 hk1).mono ?_; rintro e w' ⟨rfl, cur', rfl, hc1, hc2⟩)
  go_ret
  exact ⟨rfl, cur', ⟨#[_], _⟩, by rw [patch_alloc _ _ _ _ hbs, alloc_plus], hc1, hc2⟩

theorem eqWriter_yes (o l m : Int) (a : Option Addr) (cap : Nat) (ps : List Pr) (base last : Int) (a' : Option Addr) (cap' : Nat) (s t : ByteArray) (g : Bool) (w : World) (hr : RdP w a cap ps) (hr' : RdP w a' cap' ps) :
    Calls Try.prog 19 #[.agg #[.int .i64 o, .int .i64 l, .int .i64 m, .slice a ps.length cap, .int .i64 base, .int .i64 last, .string s, .string t, .bool g], .agg #[.int .i64 o, .int .i64 l, .int .i64 m, .slice a' ps.length cap', .int .i64 base, .int .i64 last, .string s, .string t, .bool g]] w (Ret w (.bool true)) := by
  go_enter Try.func19, Try.ntmps19
  go_wp2_with (go_at_call 20; refine (eqKnown_any _ _ _ _ _ _ _ _ _ _ _ _ _ _ _ _ _ (by repeat (first | exact hr | apply rd_seq | apply Rd.plus | apply Rd.alloc | apply Rd.drew | apply Rd.drewN | refine rd_patch ?_ _ _ (by intro A hA; first | (cases hA; show _ ≠ _; omega) | (have := hal A hA; omega)))) (by repeat (first | exact hr' | apply rd_seq | apply Rd.plus | apply Rd.alloc | apply Rd.drew | apply Rd.drewN | refine rd_patch ?_ _ _ (by intro A hA; first | (cases hA; show _ ≠ _; omega) | (have := hal A hA; omega))))).mono ?_; rintro e w' ⟨rfl, xc, rfl⟩)
  go_ret
  exact Ret.mk (by repeat (first | exact More.refl _ | apply More.plus | apply More.alloc | apply More.drew | apply More.drewN))

theorem eqReader_yes (o l m : Int) (a : Option Addr) (cap : Nat) (ps : List Pr) (base last : Int) (a' : Option Addr) (cap' : Nat) (s : ByteArray) (z c e : Int) (w : World) (hr : RdP w a cap ps) (hr' : RdP w a' cap' ps) :
    Calls Try.prog 26 #[.agg #[.int .i64 o, .int .i64 l, .int .i64 m, .slice a ps.length cap, .int .i64 base, .int .i64 last, .string s, .int .i64 z, .int .i64 c, .int .i64 e], .agg #[.int .i64 o, .int .i64 l, .int .i64 m, .slice a' ps.length cap', .int .i64 base, .int .i64 last, .string s, .int .i64 z, .int .i64 c, .int .i64 e]] w (Ret w (.bool true)) := by
  go_enter Try.func26, Try.ntmps26
  go_wp2_with (go_at_call 20; refine (eqKnown_any _ _ _ _ _ _ _ _ _ _ _ _ _ _ _ _ _ (by repeat (first | exact hr | apply rd_seq | apply Rd.plus | apply Rd.alloc | apply Rd.drew | apply Rd.drewN | refine rd_patch ?_ _ _ (by intro A hA; first | (cases hA; show _ ≠ _; omega) | (have := hal A hA; omega)))) (by repeat (first | exact hr' | apply rd_seq | apply Rd.plus | apply Rd.alloc | apply Rd.drew | apply Rd.drewN | refine rd_patch ?_ _ _ (by intro A hA; first | (cases hA; show _ ≠ _; omega) | (have := hal A hA; omega))))).mono ?_; rintro e w' ⟨rfl, xc, rfl⟩)
  go_ret
  exact Ret.mk (by repeat (first | exact More.refl _ | apply More.plus | apply More.alloc | apply More.drew | apply More.drewN))

theorem markWriter_nil (o l m : Int) (a : Option Addr) (cap : Nat) (base last : Int) (s t : ByteArray) (g : Bool) (k : Int) (w : World) :
    Calls Try.prog 22 #[.agg #[.int .i64 o, .int .i64 l, .int .i64 m, .slice a 0 cap, .int .i64 base, .int .i64 last, .string s, .string t, .bool g], .int .i64 k] w (Ret w (.int .i64 k)) := by
  go_enter Try.func22, Try.ntmps22
  go_wp2_with (go_at_call 21; refine (markKnown_nil _ _ _ _ _ _ _ _ _).mono ?_; rintro e w' ⟨rfl, xc, rfl⟩)
  go_ret
  exact Ret.mk (by repeat (first | exact More.refl _ | apply More.plus | apply More.alloc | apply More.drew | apply More.drewN))

theorem markWriter_some (o l m : Int) (b cap n : Nat) (base last : Int) (s t : ByteArray) (g : Bool) (cur : Array Value) (k : Int) (w : World) (hb : w.heap[b]? = some (.cells cur 86 (0, 0))) (hcur : cur.size = cap * 2) (hn : n ≤ cap) (hn2 : n ≤ 2000000) (hk0 : 0 ≤ k) (hk1 : k ≤ 4000000000) :
    Calls Try.prog 22 #[.agg #[.int .i64 o, .int .i64 l, .int .i64 m, .slice (some ⟨b, 0, none⟩) n cap, .int .i64 base, .int .i64 last, .string s, .string t, .bool g], .int .i64 k] w (RetM w b cap n k) := by
  have hbs : b < w.heap.size := (Array.getElem?_eq_some_iff.1 hb).1
  have hb2 : ∀ o1, (w.alloc o1).heap[b]? = some (.cells cur 86 (0, 0)) := fun o1 => by rw [push_at, if_pos hbs]; exact hb
  have HB := Lib.hid hb2
  clear hb hb2
  go_enter Try.func22, Try.ntmps22
  go_wp2_with (go_at_call 21; refine (markKnown_some o l m b cap n base last cur k _ (HB.out _) hcur hn hn2 hk0 hk1).mono ?_; rintro e w' ⟨rfl, cur', x, rfl, hc1, hc2⟩)
  go_ret
  exact ⟨rfl, cur', _, by rw [patch_alloc _ _ _ _ hbs, alloc_plus, plus_plus], hc1, hc2⟩

theorem heldWriter_yes (o l m : Int) (a : Option Addr) (cap n : Nat) (base last : Int) (s t : ByteArray) (g : Bool) (k : Int) (w : World) (hr : RdP w a cap (marks k n)) (hn2 : n ≤ 2000000) (hk0 : 0 ≤ k) (hk1 : k ≤ 4000000000) :
    Calls Try.prog 23 #[.agg #[.int .i64 o, .int .i64 l, .int .i64 m, .slice a n cap, .int .i64 base, .int .i64 last, .string s, .string t, .bool g], .int .i64 k] w (Ret w (.int .i64 (k + 2 * n))) := by
  have q : decide (k + 2 * (n : Int) < 0) = false := by simp; omega
  go_enter Try.func23, Try.ntmps23
  go_wp2_with (go_at_call 55; refine (heldKnown_yes _ _ _ _ _ _ _ _ _ _ (by repeat (first | exact hr | apply rd_seq | apply Rd.plus | apply Rd.alloc | apply Rd.drew | apply Rd.drewN | refine rd_patch ?_ _ _ (by intro A hA; first | (cases hA; show _ ≠ _; omega) | (have := hal A hA; omega)))) hn2 hk0 hk1).mono ?_; rintro e w' ⟨rfl, xc, rfl⟩)
  go_ret
  exact Ret.mk (by repeat (first | exact More.refl _ | apply More.plus | apply More.alloc | apply More.drew | apply More.drewN))

/-- what NewWriter leaves -/
def RetW (w : World) (o l m : Int) (ps : List Pr) (base last : Int) (e : Ending) (w' : World) : Prop :=
  ∃ a cap, e = .returned (.tuple #[.agg #[.int .i64 o, .int .i64 l, .int .i64 m, .slice a ps.length cap, .int .i64 base, .int .i64 last, .string ⟨#[]⟩, .string ⟨#[]⟩, .bool false], .bool true]) ∧ Own encP 86 w' a cap ps w.heap.size ∧ ∃ x, w' = plus w x

theorem kv_len {o l m : Int} {ps : List Pr} {base last : Int} (h : kvb o l m ps base last = true) : ps.length ≤ 2000 := by
  have hk := kvb_iff.1 h
  have := hk.len
  obtain ⟨h0, h1, h2, h3, h4⟩ := sv_iff.1 hk.s
  obtain ⟨t1, t2⟩ := two_lit h1 h2
  obtain ⟨t3, t4⟩ := two_bd (n := m) (by omega) (by omega)
  omega

/-- what NewReader leaves -/
def RetR (w : World) (o l m : Int) (ps : List Pr) (base last : Int) (e : Ending) (w' : World) : Prop :=
  ∃ a cap, e = .returned (.tuple #[.agg #[.int .i64 o, .int .i64 l, .int .i64 m, .slice a ps.length cap, .int .i64 base, .int .i64 last, .string ⟨#[]⟩, .int .i64 0, .int .i64 0, .int .i64 1], .bool true]) ∧ Own encP 86 w' a cap ps w.heap.size ∧ ∃ x, w' = plus w x

theorem implNewWriter_yes (o l m : Int) (a : Option Addr) (cap : Nat) (ps : List Pr) (base last : Int) (w : World) (hr : RdP w a cap ps) (hk : kvb o l m ps base last = true) :
    Calls Try.prog 18 #[.agg #[.int .i64 o, .int .i64 l, .int .i64 m, .slice a ps.length cap, .int .i64 base, .int .i64 last]] w (RetW w o l m ps base last) := by
  have hn : ps.length ≤ 2000000 := by have := kv_len hk; omega
  go_enter Try.func18, Try.ntmps18
  go_wp2_with (first | (go_at_call 62; refine (KnownValid_any _ _ _ _ _ _ _ _ _ (by repeat (first | exact hr | apply rd_seq | apply Rd.plus | apply Rd.alloc | apply Rd.drew | apply Rd.drewN | refine rd_patch ?_ _ _ (by intro A hA; first | (cases hA; show _ ≠ _; omega) | (have := hal A hA; omega))))).mono ?_; rintro e w' ⟨rfl, xc, rfl⟩) | (go_at_call 63; refine (copyKnown_any _ _ _ _ _ ps _ _ _ (by repeat (first | exact hr | apply rd_seq | apply Rd.plus | apply Rd.alloc | apply Rd.drew | apply Rd.drewN | refine rd_patch ?_ _ _ (by intro A hA; first | (cases hA; show _ ≠ _; omega) | (have := hal A hA; omega)))) hn).mono ?_; rintro e w' ⟨a', c', rfl, hown, x, rfl⟩))
  rw [plus_plus] at hown
  exact bodyPost_ret (v := .tuple #[.agg #[.int .i64 o, .int .i64 l, .int .i64 m, .slice a' ps.length c', .int .i64 base, .int .i64 last, .string ⟨#[]⟩, .string ⟨#[]⟩, .bool false], .bool true]) (by simp [results, Try.results18, go_sem]) rfl ⟨a', c', rfl, ((own_swap hown (by simp <;> omega) (by simp <;> omega)).lower (by simp <;> omega)), (by repeat (first | exact More.refl _ | apply More.plus | apply More.alloc | apply More.drew | apply More.drewN))⟩

theorem implNewWriter_no (o l m : Int) (a : Option Addr) (cap : Nat) (ps : List Pr) (base last : Int) (w : World) (hr : RdP w a cap ps) (hk : kvb o l m ps base last = false) :
    Calls Try.prog 18 #[.agg #[.int .i64 o, .int .i64 l, .int .i64 m, .slice a ps.length cap, .int .i64 base, .int .i64 last]] w (Ret w (.tuple #[.agg #[.int .i64 0, .int .i64 0, .int .i64 0, .slice none 0 0, .int .i64 0, .int .i64 0, .string ⟨#[]⟩, .string ⟨#[]⟩, .bool false], .bool false])) := by
  go_enter Try.func18, Try.ntmps18
  go_wp2_with (first | (go_at_call 62; refine (KnownValid_any _ _ _ _ _ _ _ _ _ (by repeat (first | exact hr | apply rd_seq | apply Rd.plus | apply Rd.alloc | apply Rd.drew | apply Rd.drewN | refine rd_patch ?_ _ _ (by intro A hA; first | (cases hA; show _ ≠ _; omega) | (have := hal A hA; omega))))).mono ?_; rintro e w' ⟨rfl, xc, rfl⟩))
  exact bodyPost_ret (v := .tuple #[.agg #[.int .i64 0, .int .i64 0, .int .i64 0, .slice none 0 0, .int .i64 0, .int .i64 0, .string ⟨#[]⟩, .string ⟨#[]⟩, .bool false], .bool false]) (by simp [results, Try.results18, go_sem]) rfl (Ret.mk (by repeat (first | exact More.refl _ | apply More.plus | apply More.alloc | apply More.drew | apply More.drewN)))

theorem specNewWriter_yes (o l m : Int) (a : Option Addr) (cap : Nat) (ps : List Pr) (base last : Int) (w : World) (hr : RdP w a cap ps) (hk : kvb o l m ps base last = true) :
    Calls Try.prog 16 #[.agg #[.int .i64 o, .int .i64 l, .int .i64 m, .slice a ps.length cap, .int .i64 base, .int .i64 last]] w (RetW w o l m ps base last) := by
  have hn : ps.length ≤ 2000000 := by have := kv_len hk; omega
  go_enter Try.func16, Try.ntmps16
  go_wp2_with (first | (go_at_call 59; refine (specKnownValid_any _ _ _ _ _ _ _ _ _ (by repeat (first | exact hr | apply rd_seq | apply Rd.plus | apply Rd.alloc | apply Rd.drew | apply Rd.drewN | refine rd_patch ?_ _ _ (by intro A hA; first | (cases hA; show _ ≠ _; omega) | (have := hal A hA; omega))))).mono ?_; rintro e w' ⟨rfl, xc, rfl⟩) | (go_at_call 60; refine (l3Copy_any _ _ _ _ _ ps _ _ _ (by repeat (first | exact hr | apply rd_seq | apply Rd.plus | apply Rd.alloc | apply Rd.drew | apply Rd.drewN | refine rd_patch ?_ _ _ (by intro A hA; first | (cases hA; show _ ≠ _; omega) | (have := hal A hA; omega)))) hn).mono ?_; rintro e w' ⟨a', c', rfl, hown, x, rfl⟩))
  rw [plus_plus] at hown
  exact bodyPost_ret (v := .tuple #[.agg #[.int .i64 o, .int .i64 l, .int .i64 m, .slice a' ps.length c', .int .i64 base, .int .i64 last, .string ⟨#[]⟩, .string ⟨#[]⟩, .bool false], .bool true]) (by simp [results, Try.results16, go_sem]) rfl ⟨a', c', rfl, ((own_swap hown (by simp <;> omega) (by simp <;> omega)).lower (by simp <;> omega)), (by repeat (first | exact More.refl _ | apply More.plus | apply More.alloc | apply More.drew | apply More.drewN))⟩

theorem specNewWriter_no (o l m : Int) (a : Option Addr) (cap : Nat) (ps : List Pr) (base last : Int) (w : World) (hr : RdP w a cap ps) (hk : kvb o l m ps base last = false) :
    Calls Try.prog 16 #[.agg #[.int .i64 o, .int .i64 l, .int .i64 m, .slice a ps.length cap, .int .i64 base, .int .i64 last]] w (Ret w (.tuple #[.agg #[.int .i64 0, .int .i64 0, .int .i64 0, .slice none 0 0, .int .i64 0, .int .i64 0, .string ⟨#[]⟩, .string ⟨#[]⟩, .bool false], .bool false])) := by
  go_enter Try.func16, Try.ntmps16
  go_wp2_with (first | (go_at_call 59; refine (specKnownValid_any _ _ _ _ _ _ _ _ _ (by repeat (first | exact hr | apply rd_seq | apply Rd.plus | apply Rd.alloc | apply Rd.drew | apply Rd.drewN | refine rd_patch ?_ _ _ (by intro A hA; first | (cases hA; show _ ≠ _; omega) | (have := hal A hA; omega))))).mono ?_; rintro e w' ⟨rfl, xc, rfl⟩))
  exact bodyPost_ret (v := .tuple #[.agg #[.int .i64 0, .int .i64 0, .int .i64 0, .slice none 0 0, .int .i64 0, .int .i64 0, .string ⟨#[]⟩, .string ⟨#[]⟩, .bool false], .bool false]) (by simp [results, Try.results16, go_sem]) rfl (Ret.mk (by repeat (first | exact More.refl _ | apply More.plus | apply More.alloc | apply More.drew | apply More.drewN)))

theorem implNewReader_yes (o l m : Int) (a : Option Addr) (cap : Nat) (ps : List Pr) (base last : Int) (w : World) (hr : RdP w a cap ps) (hk : kvb o l m ps base last = true) :
    Calls Try.prog 25 #[.agg #[.int .i64 o, .int .i64 l, .int .i64 m, .slice a ps.length cap, .int .i64 base, .int .i64 last]] w (RetR w o l m ps base last) := by
  have hn : ps.length ≤ 2000000 := by have := kv_len hk; omega
  go_enter Try.func25, Try.ntmps25
  go_wp2_with (first | (go_at_call 62; refine (KnownValid_any _ _ _ _ _ _ _ _ _ (by repeat (first | exact hr | apply rd_seq | apply Rd.plus | apply Rd.alloc | apply Rd.drew | apply Rd.drewN | refine rd_patch ?_ _ _ (by intro A hA; first | (cases hA; show _ ≠ _; omega) | (have := hal A hA; omega))))).mono ?_; rintro e w' ⟨rfl, xc, rfl⟩) | (go_at_call 63; refine (copyKnown_any _ _ _ _ _ ps _ _ _ (by repeat (first | exact hr | apply rd_seq | apply Rd.plus | apply Rd.alloc | apply Rd.drew | apply Rd.drewN | refine rd_patch ?_ _ _ (by intro A hA; first | (cases hA; show _ ≠ _; omega) | (have := hal A hA; omega)))) hn).mono ?_; rintro e w' ⟨a', c', rfl, hown, x, rfl⟩))
  rw [plus_plus] at hown
  exact bodyPost_ret (v := .tuple #[.agg #[.int .i64 o, .int .i64 l, .int .i64 m, .slice a' ps.length c', .int .i64 base, .int .i64 last, .string ⟨#[]⟩, .int .i64 0, .int .i64 0, .int .i64 1], .bool true]) (by simp [results, Try.results25, go_sem]) rfl ⟨a', c', rfl, ((own_swap hown (by simp <;> omega) (by simp <;> omega)).lower (by simp <;> omega)), (by repeat (first | exact More.refl _ | apply More.plus | apply More.alloc | apply More.drew | apply More.drewN))⟩

theorem implNewReader_no (o l m : Int) (a : Option Addr) (cap : Nat) (ps : List Pr) (base last : Int) (w : World) (hr : RdP w a cap ps) (hk : kvb o l m ps base last = false) :
    Calls Try.prog 25 #[.agg #[.int .i64 o, .int .i64 l, .int .i64 m, .slice a ps.length cap, .int .i64 base, .int .i64 last]] w (Ret w (.tuple #[.agg #[.int .i64 0, .int .i64 0, .int .i64 0, .slice none 0 0, .int .i64 0, .int .i64 0, .string ⟨#[]⟩, .int .i64 0, .int .i64 0, .int .i64 0], .bool false])) := by
  go_enter Try.func25, Try.ntmps25
  go_wp2_with (first | (go_at_call 62; refine (KnownValid_any _ _ _ _ _ _ _ _ _ (by repeat (first | exact hr | apply rd_seq | apply Rd.plus | apply Rd.alloc | apply Rd.drew | apply Rd.drewN | refine rd_patch ?_ _ _ (by intro A hA; first | (cases hA; show _ ≠ _; omega) | (have := hal A hA; omega))))).mono ?_; rintro e w' ⟨rfl, xc, rfl⟩))
  exact bodyPost_ret (v := .tuple #[.agg #[.int .i64 0, .int .i64 0, .int .i64 0, .slice none 0 0, .int .i64 0, .int .i64 0, .string ⟨#[]⟩, .int .i64 0, .int .i64 0, .int .i64 0], .bool false]) (by simp [results, Try.results25, go_sem]) rfl (Ret.mk (by repeat (first | exact More.refl _ | apply More.plus | apply More.alloc | apply More.drew | apply More.drewN)))

theorem specNewReader_yes (o l m : Int) (a : Option Addr) (cap : Nat) (ps : List Pr) (base last : Int) (w : World) (hr : RdP w a cap ps) (hk : kvb o l m ps base last = true) :
    Calls Try.prog 24 #[.agg #[.int .i64 o, .int .i64 l, .int .i64 m, .slice a ps.length cap, .int .i64 base, .int .i64 last]] w (RetR w o l m ps base last) := by
  have hn : ps.length ≤ 2000000 := by have := kv_len hk; omega
  go_enter Try.func24, Try.ntmps24
  go_wp2_with (first | (go_at_call 59; refine (specKnownValid_any _ _ _ _ _ _ _ _ _ (by repeat (first | exact hr | apply rd_seq | apply Rd.plus | apply Rd.alloc | apply Rd.drew | apply Rd.drewN | refine rd_patch ?_ _ _ (by intro A hA; first | (cases hA; show _ ≠ _; omega) | (have := hal A hA; omega))))).mono ?_; rintro e w' ⟨rfl, xc, rfl⟩) | (go_at_call 60; refine (l3Copy_any _ _ _ _ _ ps _ _ _ (by repeat (first | exact hr | apply rd_seq | apply Rd.plus | apply Rd.alloc | apply Rd.drew | apply Rd.drewN | refine rd_patch ?_ _ _ (by intro A hA; first | (cases hA; show _ ≠ _; omega) | (have := hal A hA; omega)))) hn).mono ?_; rintro e w' ⟨a', c', rfl, hown, x, rfl⟩))
  rw [plus_plus] at hown
  exact bodyPost_ret (v := .tuple #[.agg #[.int .i64 o, .int .i64 l, .int .i64 m, .slice a' ps.length c', .int .i64 base, .int .i64 last, .string ⟨#[]⟩, .int .i64 0, .int .i64 0, .int .i64 1], .bool true]) (by simp [results, Try.results24, go_sem]) rfl ⟨a', c', rfl, ((own_swap hown (by simp <;> omega) (by simp <;> omega)).lower (by simp <;> omega)), (by repeat (first | exact More.refl _ | apply More.plus | apply More.alloc | apply More.drew | apply More.drewN))⟩

theorem specNewReader_no (o l m : Int) (a : Option Addr) (cap : Nat) (ps : List Pr) (base last : Int) (w : World) (hr : RdP w a cap ps) (hk : kvb o l m ps base last = false) :
    Calls Try.prog 24 #[.agg #[.int .i64 o, .int .i64 l, .int .i64 m, .slice a ps.length cap, .int .i64 base, .int .i64 last]] w (Ret w (.tuple #[.agg #[.int .i64 0, .int .i64 0, .int .i64 0, .slice none 0 0, .int .i64 0, .int .i64 0, .string ⟨#[]⟩, .int .i64 0, .int .i64 0, .int .i64 0], .bool false])) := by
  go_enter Try.func24, Try.ntmps24
  go_wp2_with (first | (go_at_call 59; refine (specKnownValid_any _ _ _ _ _ _ _ _ _ (by repeat (first | exact hr | apply rd_seq | apply Rd.plus | apply Rd.alloc | apply Rd.drew | apply Rd.drewN | refine rd_patch ?_ _ _ (by intro A hA; first | (cases hA; show _ ≠ _; omega) | (have := hal A hA; omega))))).mono ?_; rintro e w' ⟨rfl, xc, rfl⟩))
  exact bodyPost_ret (v := .tuple #[.agg #[.int .i64 0, .int .i64 0, .int .i64 0, .slice none 0 0, .int .i64 0, .int .i64 0, .string ⟨#[]⟩, .int .i64 0, .int .i64 0, .int .i64 0], .bool false]) (by simp [results, Try.results24, go_sem]) rfl (Ret.mk (by repeat (first | exact More.refl _ | apply More.plus | apply More.alloc | apply More.drew | apply More.drewN)))

theorem markReader_nil (o l m : Int) (a : Option Addr) (cap : Nat) (base last : Int) (s : ByteArray) (z c0 e0 : Int) (k : Int) (w : World) :
    Calls Try.prog 27 #[.agg #[.int .i64 o, .int .i64 l, .int .i64 m, .slice a 0 cap, .int .i64 base, .int .i64 last, .string s, .int .i64 z, .int .i64 c0, .int .i64 e0], .int .i64 k] w (Ret w (.int .i64 k)) := by
  go_enter Try.func27, Try.ntmps27
  go_wp2_with (go_at_call 21; refine (markKnown_nil _ _ _ _ _ _ _ _ _).mono ?_; rintro e w' ⟨rfl, xc, rfl⟩)
  go_ret
  exact Ret.mk (by repeat (first | exact More.refl _ | apply More.plus | apply More.alloc | apply More.drew | apply More.drewN))

theorem markReader_some (o l m : Int) (b cap n : Nat) (base last : Int) (s : ByteArray) (z c0 e0 : Int) (cur : Array Value) (k : Int) (w : World) (hb : w.heap[b]? = some (.cells cur 86 (0, 0))) (hcur : cur.size = cap * 2) (hn : n ≤ cap) (hn2 : n ≤ 2000000) (hk0 : 0 ≤ k) (hk1 : k ≤ 4000000000) :
    Calls Try.prog 27 #[.agg #[.int .i64 o, .int .i64 l, .int .i64 m, .slice (some ⟨b, 0, none⟩) n cap, .int .i64 base, .int .i64 last, .string s, .int .i64 z, .int .i64 c0, .int .i64 e0], .int .i64 k] w (RetM w b cap n k) := by
  have hbs : b < w.heap.size := (Array.getElem?_eq_some_iff.1 hb).1
  have hb2 : ∀ o1, (w.alloc o1).heap[b]? = some (.cells cur 86 (0, 0)) := fun o1 => by rw [push_at, if_pos hbs]; exact hb
  have HB := Lib.hid hb2
  clear hb hb2
  go_enter Try.func27, Try.ntmps27
  go_wp2_with (go_at_call 21; refine (markKnown_some o l m b cap n base last cur k _ (HB.out _) hcur hn hn2 hk0 hk1).mono ?_; rintro e w' ⟨rfl, cur', x, rfl, hc1, hc2⟩)
  go_ret
  exact ⟨rfl, cur', _, by rw [patch_alloc _ _ _ _ hbs, alloc_plus, plus_plus], hc1, hc2⟩

theorem heldReader_yes (o l m : Int) (a : Option Addr) (cap n : Nat) (base last : Int) (s : ByteArray) (z c0 e0 : Int) (k : Int) (w : World) (hr : RdP w a cap (marks k n)) (hn2 : n ≤ 2000000) (hk0 : 0 ≤ k) (hk1 : k ≤ 4000000000) :
    Calls Try.prog 28 #[.agg #[.int .i64 o, .int .i64 l, .int .i64 m, .slice a n cap, .int .i64 base, .int .i64 last, .string s, .int .i64 z, .int .i64 c0, .int .i64 e0], .int .i64 k] w (Ret w (.int .i64 (k + 2 * n))) := by
  have q : decide (k + 2 * (n : Int) < 0) = false := by simp; omega
  go_enter Try.func28, Try.ntmps28
  go_wp2_with (go_at_call 55; refine (heldKnown_yes _ _ _ _ _ _ _ _ _ _ (by repeat (first | exact hr | apply rd_seq | apply Rd.plus | apply Rd.alloc | apply Rd.drew | apply Rd.drewN | refine rd_patch ?_ _ _ (by intro A hA; first | (cases hA; show _ ≠ _; omega) | (have := hal A hA; omega)))) hn2 hk0 hk1).mono ?_; rintro e w' ⟨rfl, xc, rfl⟩)
  go_ret
  exact Ret.mk (by repeat (first | exact More.refl _ | apply More.plus | apply More.alloc | apply More.drew | apply More.drewN))

end Go.Proofs.Ytbedikodiboofaa
