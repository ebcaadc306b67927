/- Lemmas and walks, part Gb. -/
import Derived.Test.YtmddcbebaijjkaaGreatDoorGa
import Derived.OrdersHeld
import Derived.Deep.RegionHeld3
import Derived.Deep.SlicePairs

/- Walks: the next word's code, whether it grows, the greatest code, the width. -/
namespace Go.Proofs.YtmddcbebaijjkaaGreatDoor
open Go.RowKit
set_option linter.unusedVariables false
set_option linter.unusedSimpArgs false

/-- the code of the next word -/
def nw (l n : Int) : Int := two l + 1 + 1 + n

def grB (l m n last : Int) : Bool := decide (last ≠ -1 ∧ nw l n ≤ two m - 1)

theorem grB_iff {l m n last : Int} : grB l m n last = true ↔ (last ≠ -1 ∧ nw l n ≤ two m - 1) := by simp [grB]

theorem grB_no {l m n last : Int} : grB l m n last = false ↔ ¬ (last ≠ -1 ∧ nw l n ≤ two m - 1) := by rw [← grB_iff]; simp

/-- the greatest code that can follow -/
def gt (l m n last : Int) : Int := if grB l m n last then nw l n else nw l n - 1

/-- the number of binary digits -/
def need (n : Int) : Int := if n < 2 then 1 else if n < 4 then 2 else if n < 8 then 3 else if n < 16 then 4 else if n < 32 then 5 else if n < 64 then 6 else if n < 128 then 7 else if n < 256 then 8 else if n < 512 then 9 else if n < 1024 then 10 else 11

theorem need_half {n : Int} (h : 2 ≤ n) (h2 : n < 2048) : need n = need (n / 2) + 1 := by unfold need; omega

theorem need_bd (n : Int) : 1 ≤ need n ∧ need n ≤ 11 := by unfold need; omega

/-- the width of the next code -/
def wd (l m n last : Int) : Int := max (need (gt l m n last)) (l + 1)

structure Lim (o l m n last : Int) : Prop where
  s : sv o l m = true
  n0 : 0 ≤ n
  n1 : n ≤ two m - 1 - (two l + 1)
  last : -1 ≤ last

theorem KV.lim {o l m : Int} {ps : List Pr} {base last : Int} (h : KV o l m ps base last) : Lim o l m ps.length last :=
  ⟨h.s, by omega, h.len, by
    rcases h.last with h1 | h1
    · omega
    · have := hw_iff.1 h1
      obtain ⟨_, h2, h3, _, _⟩ := sv_iff.1 h.s
      obtain ⟨t1, t2⟩ := two_lit h2 h3
      omega⟩

theorem Lim.bds {o l m n last : Int} (h : Lim o l m n last) : 1 ≤ l ∧ l ≤ 8 ∧ m ≤ 10 ∧ l + 2 ≤ m ∧ 2 ≤ two l ∧ two l ≤ 256 ∧ 4 * two l ≤ two m ∧ two m ≤ 1024 := by
  obtain ⟨_, h2, h3, h4, h5⟩ := sv_iff.1 h.s
  obtain ⟨t1, t2⟩ := two_lit h2 h3
  obtain ⟨t3, t4⟩ := two_bd (n := m) (by omega) (by omega)
  exact ⟨h2, h3, h5, h4, t1, t2, two_four h2 h4 h5, t4⟩

theorem gt_bd {o l m n last : Int} (h : Lim o l m n last) : 1 ≤ gt l m n last ∧ gt l m n last ≤ two m - 1 ∧ gt l m n last ≤ 1023 := by
  obtain ⟨q1, q2, q3, q4, q5, q6, q7, q8⟩ := h.bds
  have := h.n0
  have := h.n1
  unfold gt
  cases hg : grB l m n last
  · simp [nw]; omega
  · have := grB_iff.1 hg; simp [nw] at *; omega

theorem nextWord_any (o l m : Int) (a : Option Addr) (n cap : Nat) (base last : Int) (w : World) (h : sv o l m = true) (hn : n ≤ 1000000) :
    Calls Tryz.prog 130 #[.agg #[.int .i64 o, .int .i64 l, .int .i64 m, .slice a n cap, .int .i64 base, .int .i64 last]] w (Ret w (.int .i64 (nw l n))) := by
  obtain ⟨_, h2, h3, h4, h5⟩ := sv_iff.1 h
  obtain ⟨t1, t2⟩ := two_lit h2 h3
  go_enter Tryz.func130, Tryz.ntmps130
  go_wp2
  (refine wp_region_calm (by kernel_rfl) (by kernel_rfl) ?_
   repeat (first | go_big_quiet_skip | (go_big_quiet_want; go_big_quiet_op; first | go_big_quiet_on | (apply Exists.intro; refine ⟨fun _ => ?_, ?_⟩; (focus ((first | (go_at_call 66; first | refine calm_of (EndCode_yes _ _ _ h _) | refine calm_seq (EndCode_yes _ _ _ h _))))); go_big_quiet_on)))
   refine wpQuiet_nil ?_
   intro _ hw'
   obtain ⟨xq, hw''⟩ := hw'
   subst hw'')
  go_wp2
  go_ret
  exact ret_of (int_val rfl) (by repeat (first | exact More.refl _ | apply More.plus | apply More.alloc | apply More.drew | apply More.drewN))

theorem l2Next_any (o l m : Int) (a : Option Addr) (n cap : Nat) (base last : Int) (w : World) (h : sv o l m = true) (hn : n ≤ 1000000) :
    Calls Tryz.prog 127 #[.agg #[.int .i64 o, .int .i64 l, .int .i64 m, .slice a n cap, .int .i64 base, .int .i64 last]] w (Ret w (.int .i64 (nw l n))) := by
  obtain ⟨_, h2, h3, h4, h5⟩ := sv_iff.1 h
  obtain ⟨t1, t2⟩ := two_lit h2 h3
  have l0 : 0 ≤ l := by omega
  have l1 : l ≤ 10 := by omega
  go_enter Tryz.func127, Tryz.ntmps127
  go_wp2
  (refine wp_region_calm (by kernel_rfl) (by kernel_rfl) ?_
   repeat (first | go_big_quiet_skip | (go_big_quiet_want; go_big_quiet_op; first | go_big_quiet_on | (apply Exists.intro; refine ⟨fun _ => ?_, ?_⟩; (focus ((first | (go_at_call 105; first | refine calm_of (l1End_any _ _ _ l0 l1 _) | refine calm_seq (l1End_any _ _ _ l0 l1 _))))); go_big_quiet_on)))
   refine wpQuiet_nil ?_
   intro _ hw'
   obtain ⟨xq, hw''⟩ := hw'
   subst hw'')
  go_wp2
  go_ret
  exact ret_of (int_val rfl) (by repeat (first | exact More.refl _ | apply More.plus | apply More.alloc | apply More.drew | apply More.drewN))

set_option maxHeartbeats 800000 in
theorem grows_any (o l m : Int) (a : Option Addr) (n cap : Nat) (base last : Int) (w : World) (h : sv o l m = true) (hn : n ≤ 1000000) :
    Calls Tryz.prog 129 #[.agg #[.int .i64 o, .int .i64 l, .int .i64 m, .slice a n cap, .int .i64 base, .int .i64 last]] w (Ret w (.bool (grB l m n last))) := by
  by_cases h1 : last = -1
  · have b1 : (last != -1) = false := by simp [h1]
    have e : grB l m n last = false := grB_no.2 (by omega)
    rw [e]
    clear h1 e
    go_enter Tryz.func129, Tryz.ntmps129
    go_wp2
    (refine wp_region_calm (by kernel_rfl) (by kernel_rfl) ?_
     repeat (first | go_big_quiet_skip | (go_big_quiet_want; go_big_quiet_op; first | go_big_quiet_on | (apply Exists.intro; refine ⟨fun _ => ?_, ?_⟩; (focus (fail)); go_big_quiet_on)))
     refine wpQuiet_nil ?_
     intro _ hw'
     obtain ⟨xq, hw''⟩ := hw'
     subst hw'')
    go_wp2
    go_ret
    exact Ret.mk (by repeat (first | exact More.refl _ | apply More.plus | apply More.alloc | apply More.drew | apply More.drewN))
  · have b1 : (last != -1) = true := by simp [h1]
    go_enter Tryz.func129, Tryz.ntmps129
    go_wp2
    (refine wp_region_calm (by kernel_rfl) (by kernel_rfl) ?_
     repeat (first | go_big_quiet_skip | (go_big_quiet_want; go_big_quiet_op; first | go_big_quiet_on | (apply Exists.intro; refine ⟨fun _ => ?_, ?_⟩; (focus ((first | (go_at_call 130; first | refine calm_of (nextWord_any _ _ _ _ _ _ _ _ _ h hn) | refine calm_seq (nextWord_any _ _ _ _ _ _ _ _ _ h hn)) | (go_at_call 65; first | refine calm_of (LastCode_yes _ _ _ h _) | refine calm_seq (LastCode_yes _ _ _ h _))))); go_big_quiet_on)))
     refine wpQuiet_nil ?_
     intro _ hw'
     obtain ⟨xq, hw''⟩ := hw'
     subst hw'')
    go_wp2
    go_ret
    exact ret_of (bool_ret (by simp [grB, h1])) (by repeat (first | exact More.refl _ | apply More.plus | apply More.alloc | apply More.drew | apply More.drewN))

set_option maxHeartbeats 800000 in
theorem l2Grows_any (o l m : Int) (a : Option Addr) (n cap : Nat) (base last : Int) (w : World) (h : sv o l m = true) (hn : n ≤ 1000000) (hlast : -1 ≤ last) :
    Calls Tryz.prog 143 #[.agg #[.int .i64 o, .int .i64 l, .int .i64 m, .slice a n cap, .int .i64 base, .int .i64 last]] w (Ret w (.bool (grB l m n last))) := by
  obtain ⟨_, h2, h3, h4, h5⟩ := sv_iff.1 h
  have m0 : 0 ≤ m := by omega
  rcases dec (0 ≤ last) with ⟨h1, b1⟩ | ⟨h1, b1⟩
  · go_enter Tryz.func143, Tryz.ntmps143
    go_wp2
    (refine wp_region_calm (by kernel_rfl) (by kernel_rfl) ?_
     repeat (first | go_big_quiet_skip | (go_big_quiet_want; go_big_quiet_op; first | go_big_quiet_on | (apply Exists.intro; refine ⟨fun _ => ?_, ?_⟩; (focus ((first | (go_at_call 127; first | refine calm_of (l2Next_any _ _ _ _ _ _ _ _ _ h hn) | refine calm_seq (l2Next_any _ _ _ _ _ _ _ _ _ h hn)) | (go_at_call 104; first | refine calm_of (l1Last_any _ _ _ m0 h5 _) | refine calm_seq (l1Last_any _ _ _ m0 h5 _))))); go_big_quiet_on)))
     refine wpQuiet_nil ?_
     intro _ hw'
     obtain ⟨xq, hw''⟩ := hw'
     subst hw'')
    go_wp2
    go_ret
    exact ret_of (bool_ret (by simp [grB]; omega)) (by repeat (first | exact More.refl _ | apply More.plus | apply More.alloc | apply More.drew | apply More.drewN))
  · have e : grB l m n last = false := grB_no.2 (by omega)
    rw [e]
    clear e
    go_enter Tryz.func143, Tryz.ntmps143
    go_wp2
    (refine wp_region_calm (by kernel_rfl) (by kernel_rfl) ?_
     repeat (first | go_big_quiet_skip | (go_big_quiet_want; go_big_quiet_op; first | go_big_quiet_on | (apply Exists.intro; refine ⟨fun _ => ?_, ?_⟩; (focus (fail)); go_big_quiet_on)))
     refine wpQuiet_nil ?_
     intro _ hw'
     obtain ⟨xq, hw''⟩ := hw'
     subst hw'')
    go_wp2
    go_ret
    exact Ret.mk (by repeat (first | exact More.refl _ | apply More.plus | apply More.alloc | apply More.drew | apply More.drewN))

end Go.Proofs.YtmddcbebaijjkaaGreatDoor

/- Walks: looks at marks and comparisons in slices of strings. -/
namespace Go.Proofs.YtmddcbebaijjkaaGreatDoor
open Go.RowKit
set_option linter.unusedVariables false
set_option linter.unusedSimpArgs false

end Go.Proofs.YtmddcbebaijjkaaGreatDoor

/- Walks: new writers and readers; their comparisons and marks. -/
namespace Go.Proofs.YtmddcbebaijjkaaGreatDoor
open Go.RowKit
set_option linter.unusedVariables false
set_option linter.unusedSimpArgs false

theorem patch_plus (w : World) (x : Ext) (b : Nat) (o : Obj) (h : b < w.heap.size) : patch (plus w x) b o = plus (patch w b o) x := by
  refine world_ext (fun k => ?_) rfl rfl rfl rfl
  rw [patch_heap]
  by_cases hk : b = k
  · subst hk
    rw [if_pos rfl, if_pos (by rw [plus_size]; omega), plus_block _ _ (by simpa using h), patch_at w b o h]
  · rw [if_neg hk]
    by_cases hk2 : k < w.heap.size
    · rw [plus_block _ _ hk2, plus_block _ _ (by simpa using hk2), patch_other w b o (fun e => hk e.symm)]
    · exact plus_above _ _ _ (by simp) (by simpa using Nat.le_of_not_lt hk2)

theorem patch_alloc (w : World) (o1 : Obj) (b : Nat) (o : Obj) (h : b < w.heap.size) : patch (w.alloc o1) b o = (patch w b o).alloc o1 := by
  rw [alloc_plus, patch_plus _ _ _ _ h, alloc_plus]
  rfl

/-- what a call leaves that writes marks from k on into n pairs in block b -/
def RetM (w : World) (b cap n : Nat) (k : Int) (e : Ending) (w' : World) : Prop :=
  e = .returned (.int .i64 (k + 2 * n)) ∧ ∃ cur' x, w' = plus (patch w b (.cells cur' 81)) x ∧ cur'.size = cap * 2 ∧ Row encP cur' (marks k n)

theorem markKnown_some (o l m : Int) (b cap n : Nat) (base last : Int) (cur : Array Value) (k : Int) (w : World) (hb : w.heap[b]? = some (.cells cur 81 (0, 0))) (hcur : cur.size = cap * 2) (hn : n ≤ cap) (hn2 : n ≤ 2000000) (hk0 : 0 ≤ k) (hk1 : k ≤ 4000000000) :
    Calls Tryz.prog 36 #[.agg #[.int .i64 o, .int .i64 l, .int .i64 m, .slice (some ⟨b, 0, none⟩) n cap, .int .i64 base, .int .i64 last], .int .i64 k] w (RetM w b cap n k) := by
  have hbs : b < w.heap.size := (Array.getElem?_eq_some_iff.1 hb).1
  have hb2 : ∀ o1, (w.alloc o1).heap[b]? = some (.cells cur 81 (0, 0)) := fun o1 => by rw [push_at, if_pos hbs]; exact hb
  have HB := Lib.hid hb2
  clear hb hb2
  go_enter Tryz.func36, Tryz.ntmps36
  go_wp2_with (go_at_call 78; refine (markPairS_some b cap n cur k _ (HB.out _) hcur hn hn2 hk0 hk1).mono ?_; rintro e w' ⟨rfl, cur', rfl, hc1, hc2⟩)
  go_ret
  exact ⟨rfl, cur', ⟨#[_], _⟩, by rw [patch_alloc _ _ _ _ hbs, alloc_plus], hc1, hc2⟩

theorem eqReader_yes (o l m : Int) (a : Option Addr) (cap : Nat) (ps : List Pr) (base last : Int) (a' : Option Addr) (cap' : Nat) (s : ByteArray) (z c e : Int) (w : World) (hr : RdP w a cap ps) (hr' : RdP w a' cap' ps) :
    Calls Tryz.prog 9 #[.agg #[.int .i64 o, .int .i64 l, .int .i64 m, .slice a ps.length cap, .int .i64 base, .int .i64 last, .string s, .int .i64 z, .int .i64 c, .int .i64 e], .agg #[.int .i64 o, .int .i64 l, .int .i64 m, .slice a' ps.length cap', .int .i64 base, .int .i64 last, .string s, .int .i64 z, .int .i64 c, .int .i64 e]] w (Ret w (.bool true)) := by
  go_enter Tryz.func9, Tryz.ntmps9
  go_wp2_with (go_at_call 35; refine (eqKnown_any _ _ _ _ _ _ _ _ _ _ _ _ _ _ _ _ _ (by repeat (first | exact hr | apply rd_seq | apply Rd.plus | apply Rd.alloc | apply Rd.drew | apply Rd.drewN | refine rd_patch ?_ _ _ (by intro A hA; first | (cases hA; show _ ≠ _; omega) | (have := hal A hA; omega)))) (by repeat (first | exact hr' | apply rd_seq | apply Rd.plus | apply Rd.alloc | apply Rd.drew | apply Rd.drewN | refine rd_patch ?_ _ _ (by intro A hA; first | (cases hA; show _ ≠ _; omega) | (have := hal A hA; omega))))).mono ?_; rintro e w' ⟨rfl, xc, rfl⟩)
  go_ret
  exact Ret.mk (by repeat (first | exact More.refl _ | apply More.plus | apply More.alloc | apply More.drew | apply More.drewN))

theorem kv_len {o l m : Int} {ps : List Pr} {base last : Int} (h : kvb o l m ps base last = true) : ps.length ≤ 2000 := by
  have hk := kvb_iff.1 h
  have := hk.len
  obtain ⟨h0, h1, h2, h3, h4⟩ := sv_iff.1 hk.s
  obtain ⟨t1, t2⟩ := two_lit h1 h2
  obtain ⟨t3, t4⟩ := two_bd (n := m) (by omega) (by omega)
  omega

/-- what NewReader leaves -/
def RetR (w : World) (o l m : Int) (ps : List Pr) (base last : Int) (e : Ending) (w' : World) : Prop :=
  ∃ a cap, e = .returned (.tuple #[.agg #[.int .i64 o, .int .i64 l, .int .i64 m, .slice a ps.length cap, .int .i64 base, .int .i64 last, .string ⟨#[]⟩, .int .i64 0, .int .i64 0, .int .i64 1], .bool true]) ∧ Own encP 81 w' a cap ps w.heap.size ∧ ∃ x, w' = plus w x

theorem specNewReader_yes (o l m : Int) (a : Option Addr) (cap : Nat) (ps : List Pr) (base last : Int) (w : World) (hr : RdP w a cap ps) (hk : kvb o l m ps base last = true) :
    Calls Tryz.prog 84 #[.agg #[.int .i64 o, .int .i64 l, .int .i64 m, .slice a ps.length cap, .int .i64 base, .int .i64 last]] w (RetR w o l m ps base last) := by
  have hn : ps.length ≤ 2000000 := by have := kv_len hk; omega
  go_enter Tryz.func84, Tryz.ntmps84
  go_wp2_with (first | (go_at_call 62; refine (specKnownValid_any _ _ _ _ _ _ _ _ _ (by repeat (first | exact hr | apply rd_seq | apply Rd.plus | apply Rd.alloc | apply Rd.drew | apply Rd.drewN | refine rd_patch ?_ _ _ (by intro A hA; first | (cases hA; show _ ≠ _; omega) | (have := hal A hA; omega))))).mono ?_; rintro e w' ⟨rfl, xc, rfl⟩) | (go_at_call 48; refine (l3Copy_any _ _ _ _ _ ps _ _ _ (by repeat (first | exact hr | apply rd_seq | apply Rd.plus | apply Rd.alloc | apply Rd.drew | apply Rd.drewN | refine rd_patch ?_ _ _ (by intro A hA; first | (cases hA; show _ ≠ _; omega) | (have := hal A hA; omega)))) hn).mono ?_; rintro e w' ⟨a', c', rfl, hown, x, rfl⟩))
  rw [plus_plus] at hown
  exact bodyPost_ret (v := .tuple #[.agg #[.int .i64 o, .int .i64 l, .int .i64 m, .slice a' ps.length c', .int .i64 base, .int .i64 last, .string ⟨#[]⟩, .int .i64 0, .int .i64 0, .int .i64 1], .bool true]) (by simp [results, Tryz.results84, go_sem]) rfl ⟨a', c', rfl, ((own_swap hown (by simp <;> omega) (by simp <;> omega)).lower (by simp <;> omega)), (by repeat (first | exact More.refl _ | apply More.plus | apply More.alloc | apply More.drew | apply More.drewN))⟩

theorem markReader_nil (o l m : Int) (a : Option Addr) (cap : Nat) (base last : Int) (s : ByteArray) (z c0 e0 : Int) (k : Int) (w : World) :
    Calls Tryz.prog 10 #[.agg #[.int .i64 o, .int .i64 l, .int .i64 m, .slice a 0 cap, .int .i64 base, .int .i64 last, .string s, .int .i64 z, .int .i64 c0, .int .i64 e0], .int .i64 k] w (Ret w (.int .i64 k)) := by
  go_enter Tryz.func10, Tryz.ntmps10
  go_wp2_with (go_at_call 36; refine (markKnown_nil _ _ _ _ _ _ _ _ _).mono ?_; rintro e w' ⟨rfl, xc, rfl⟩)
  go_ret
  exact Ret.mk (by repeat (first | exact More.refl _ | apply More.plus | apply More.alloc | apply More.drew | apply More.drewN))

theorem markReader_some (o l m : Int) (b cap n : Nat) (base last : Int) (s : ByteArray) (z c0 e0 : Int) (cur : Array Value) (k : Int) (w : World) (hb : w.heap[b]? = some (.cells cur 81 (0, 0))) (hcur : cur.size = cap * 2) (hn : n ≤ cap) (hn2 : n ≤ 2000000) (hk0 : 0 ≤ k) (hk1 : k ≤ 4000000000) :
    Calls Tryz.prog 10 #[.agg #[.int .i64 o, .int .i64 l, .int .i64 m, .slice (some ⟨b, 0, none⟩) n cap, .int .i64 base, .int .i64 last, .string s, .int .i64 z, .int .i64 c0, .int .i64 e0], .int .i64 k] w (RetM w b cap n k) := by
  have hbs : b < w.heap.size := (Array.getElem?_eq_some_iff.1 hb).1
  have hb2 : ∀ o1, (w.alloc o1).heap[b]? = some (.cells cur 81 (0, 0)) := fun o1 => by rw [push_at, if_pos hbs]; exact hb
  have HB := Lib.hid hb2
  clear hb hb2
  go_enter Tryz.func10, Tryz.ntmps10
  go_wp2_with (go_at_call 36; refine (markKnown_some o l m b cap n base last cur k _ (HB.out _) hcur hn hn2 hk0 hk1).mono ?_; rintro e w' ⟨rfl, cur', x, rfl, hc1, hc2⟩)
  go_ret
  exact ⟨rfl, cur', _, by rw [patch_alloc _ _ _ _ hbs, alloc_plus, plus_plus], hc1, hc2⟩

theorem heldReader_yes (o l m : Int) (a : Option Addr) (cap n : Nat) (base last : Int) (s : ByteArray) (z c0 e0 : Int) (k : Int) (w : World) (hr : RdP w a cap (marks k n)) (hn2 : n ≤ 2000000) (hk0 : 0 ≤ k) (hk1 : k ≤ 4000000000) :
    Calls Tryz.prog 11 #[.agg #[.int .i64 o, .int .i64 l, .int .i64 m, .slice a n cap, .int .i64 base, .int .i64 last, .string s, .int .i64 z, .int .i64 c0, .int .i64 e0], .int .i64 k] w (Ret w (.int .i64 (k + 2 * n))) := by
  have q : decide (k + 2 * (n : Int) < 0) = false := by simp; omega
  go_enter Tryz.func11, Tryz.ntmps11
  go_wp2_with (go_at_call 37; refine (heldKnown_yes _ _ _ _ _ _ _ _ _ _ (by repeat (first | exact hr | apply rd_seq | apply Rd.plus | apply Rd.alloc | apply Rd.drew | apply Rd.drewN | refine rd_patch ?_ _ _ (by intro A hA; first | (cases hA; show _ ≠ _; omega) | (have := hal A hA; omega)))) hn2 hk0 hk1).mono ?_; rintro e w' ⟨rfl, xc, rfl⟩)
  go_ret
  exact Ret.mk (by repeat (first | exact More.refl _ | apply More.plus | apply More.alloc | apply More.drew | apply More.drewN))

end Go.Proofs.YtmddcbebaijjkaaGreatDoor

/- Words of pairs, as strings; the walk of impl.KnownWords. -/
namespace Go.Proofs.YtmddcbebaijjkaaGreatDoor
open Go.RowKit
set_option linter.unusedVariables false
set_option linter.unusedSimpArgs false

/-- the word of a code, where ws are the words behind the end code -/
def lkw (l : Int) (ws : List ByteArray) (c : Int) : ByteArray := if two l + 1 < c then (ws[(c - (two l + 1)).toNat - 1]?).getD ⟨#[]⟩ else one c

def wstep (l : Int) (ws : List ByteArray) (p : Pr) : List ByteArray := ws ++ [lkw l ws p.p ++ one p.b]

/-- the words of the pairs -/
def wordsL (l : Int) (ps : List Pr) : List ByteArray := ps.foldl (wstep l) []

theorem wordsL_snoc (l : Int) (ps : List Pr) (p : Pr) : wordsL l (ps ++ [p]) = wstep l (wordsL l ps) p := by simp [wordsL]

theorem take_snoc_some {α : Type} {xs : List α} {k : Nat} {x : α} (h : xs[k]? = some x) : xs.take (k + 1) = xs.take k ++ [x] := by
  rw [List.take_add_one, h]; rfl

theorem wordsL_len (l : Int) (ps : List Pr) : (wordsL l ps).length = ps.length := by
  have key : ∀ (ps : List Pr) (ws : List ByteArray), (ps.foldl (wstep l) ws).length = ws.length + ps.length := by
    intro ps
    induction ps with
    | nil => intro ws; simp
    | cons p ps ih => intro ws; rw [List.foldl_cons, ih]; simp [wstep]; omega
  unfold wordsL
  simpa using key ps []

/-- a beginning of the pairs has a beginning of the words -/
theorem wordsL_pre (l : Int) (ps qs : List Pr) : ∃ ws, wordsL l (ps ++ qs) = wordsL l ps ++ ws := by
  induction qs generalizing ps with
  | nil => exact ⟨[], by simp⟩
  | cons q qs ih =>
    obtain ⟨ws, h⟩ := ih (ps ++ [q])
    rw [List.append_assoc] at h
    refine ⟨[lkw l (wordsL l ps) q.p ++ one q.b] ++ ws, ?_⟩
    rw [show ps ++ q :: qs = ps ++ ([q] ++ qs) by simp, h, wordsL_snoc]
    simp [wstep]

theorem wordsL_get {l : Int} {ps : List Pr} {k : Nat} {p : Pr} (h : ps[k]? = some p) : (wordsL l ps)[k]? = some (lkw l (wordsL l (ps.take k)) p.p ++ one p.b) := by
  obtain ⟨ws, hw⟩ := wordsL_pre l (ps.take (k + 1)) (ps.drop (k + 1))
  rw [List.take_append_drop] at hw
  rw [hw, take_snoc_some h, wordsL_snoc]
  have hl : (wordsL l (ps.take k)).length = k := by
    rw [wordsL_len]
    have := (List.getElem?_eq_some_iff.1 h).1
    simp; omega
  simp [wstep, hl]

theorem wordsL_take {l : Int} {ps : List Pr} {k i : Nat} (hi : i < k) : (wordsL l (ps.take k))[i]? = (wordsL l ps)[i]? := by
  obtain ⟨ws, hw⟩ := wordsL_pre l (ps.take k) (ps.drop k)
  rw [List.take_append_drop] at hw
  by_cases hk : k ≤ ps.length
  · rw [hw, List.getElem?_append_left (by rw [wordsL_len]; simp; omega)]
  · rw [List.take_of_length_le (by omega)]

/-- a word has at most as many bytes as it stands behind, and two -/
theorem wordsL_size (l : Int) (ps : List Pr) : ∀ i s, (wordsL l ps)[i]? = some s → 1 ≤ s.size ∧ s.size ≤ i + 2 := by
  have key : ∀ n, ∀ ps : List Pr, ps.length = n → ∀ i s, (wordsL l ps)[i]? = some s → 1 ≤ s.size ∧ s.size ≤ i + 2 := by
    intro n
    induction n with
    | zero =>
      intro ps h i s hs
      obtain rfl : ps = [] := List.eq_nil_of_length_eq_zero h
      simp [wordsL] at hs
    | succ n ih =>
      intro ps h i s hs
      have hlt : i < ps.length := by have := (List.getElem?_eq_some_iff.1 hs).1; rwa [wordsL_len] at this
      by_cases hi : i < n
      · rw [← wordsL_take hi] at hs
        exact ih (ps.take n) (by simp; omega) i s hs
      · obtain rfl : i = n := by omega
        rw [wordsL_get (List.getElem?_eq_getElem hlt)] at hs
        cases hs
        rw [ByteArray.size_append, one_size]
        unfold lkw
        split
        · cases hw : (wordsL l (ps.take i))[((ps[i]).p - (two l + 1)).toNat - 1]? with
          | none =>
            have e0 : (⟨#[]⟩ : ByteArray).size = 0 := rfl
            simp only [Option.getD_none, e0]
            omega
          | some t =>
            have hj : ((ps[i]).p - (two l + 1)).toNat - 1 < i := by
              have := (List.getElem?_eq_some_iff.1 hw).1
              rw [wordsL_len] at this
              simp at this
              omega
            have := ih (ps.take i) (by simp; omega) _ t hw
            simp
            omega
        · rw [one_size]; omega
  exact key ps.length ps rfl

theorem infoString : (Tryz.prog.info? 9).map (fun i => (i.zero, i.size, i.bytes)) = some (some (.string ⟨#[]⟩), 1, 16) := by kernel_rfl

end Go.Proofs.YtmddcbebaijjkaaGreatDoor

/- A region that draws its order, of loads (quiet in every extension of the world at hand) and of operations that come up alone: walked once. -/
namespace Go.Proofs.YtmddcbebaijjkaaGreatDoor
open Go.RowKit
set_option linter.unusedVariables false
set_option linter.unusedSimpArgs false

section
variable {P : Program} {ops : Array Oper} {md : Region.Mode} {S : World → Prop} {Q : Exit → Act → World → Prop}

end
end Go.Proofs.YtmddcbebaijjkaaGreatDoor

/- A region that draws its order, walked once by a schedule: quiet operations as soon as they may come up, the others when they come up alone. -/
namespace Go.Proofs.YtmddcbebaijjkaaGreatDoor
open Go.RowKit
set_option linter.unusedVariables false
set_option linter.unusedSimpArgs false

section
variable {P : Program} {ops : Array Oper} {md : Region.Mode} {S : World → Prop} {Q : Exit → Act → World → Prop}

end
end Go.Proofs.YtmddcbebaijjkaaGreatDoor

/- A region that draws its order, walked by a plan: quiet operations first, one that comes up alone, or two that may come up in either order. -/
namespace Go.Proofs.YtmddcbebaijjkaaGreatDoor
open Go.RowKit
set_option linter.unusedVariables false
set_option linter.unusedSimpArgs false

inductive Plan where
  | done : Plan
  | quiet (k : Nat) (p : Plan) : Plan
  | one (k : Nat) (p : Plan) : Plan
  | two (k1 : Nat) (p1 : Plan) (k2 : Nat) (p2 : Plan) : Plan

def Plan.len : Plan → Nat
  | .done => 0
  | .quiet _ p => p.len + 1
  | .one _ p => p.len + 1
  | .two _ p1 _ _ => p1.len + 1

section
variable {P : Program} {ops : Array Oper} {md : Region.Mode} {S : World → Prop} {Q : Exit → Act → World → Prop}

def wpPlan (P : Program) (ops : Array Oper) (S : World → Prop) (Q : Exit → Act → World → Prop) : Plan → Act → World → Prop
  | .done, a, w => Q .normal a w
  | .quiet k p, a, w => ∃ o v, ops[k]? = some o ∧ YieldsIf P ops S o v a ∧ wpPlan P ops S Q p (a.put o.dst v) w
  | .one k p, a, w => wpOp P ops Q k (fun a' w' => S w' ∧ wpPlan P ops S Q p a' w') a w
  | .two k1 p1 k2 p2, a, w => wpOp P ops Q k1 (fun a' w' => S w' ∧ wpPlan P ops S Q p1 a' w') a w ∧ wpOp P ops Q k2 (fun a' w' => S w' ∧ wpPlan P ops S Q p2 a' w') a w

def planB (md : Region.Mode) (ops : Array Oper) : Plan → Array Bool → Bool
  | .done, listed => (Region.ready md ops listed).isEmpty
  | .quiet k p, listed => (Region.ready md ops listed).contains k && Region.free md ops listed k && planB md ops p (listed.setIfInBounds k true)
  | .one k p, listed => decide (Region.ready md ops listed = [k]) && planB md ops p (listed.setIfInBounds k true)
  | .two k1 p1 k2 p2, listed => decide (Region.ready md ops listed = [k1, k2]) && decide (p1.len = p2.len) && planB md ops p1 (listed.setIfInBounds k1 true) && planB md ops p2 (listed.setIfInBounds k2 true)

theorem wpAnyH_plan (hs : Region.noSelect ops = true) (hQ : ∀ c (a : Act) d v w, Q (.panic c) (a.put d v) w → Q (.panic c) a w) :
    ∀ (p : Plan) (listed : Array Bool) (a : Act) (w : World), planB md ops p listed = true → S w → wpPlan P ops S Q p a w → wpAnyH P md ops Q S p.len listed a w
  | .done, _, _, _, hB, _, h => ⟨by simpa [planB] using hB, h⟩
  | .quiet k p, listed, a, w, hB, hS, h => by
    simp only [planB, Bool.and_eq_true] at hB
    obtain ⟨⟨hr, hf⟩, hB'⟩ := hB
    obtain ⟨o, v, h0, hy, hK⟩ := h
    exact wpAnyH_take h0 hs hf hr (fun c a w => hQ c a _ _ w) hy hS (wpAnyH_plan hs hQ p _ _ w hB' hS hK)
  | .one k p, listed, a, w, hB, hS, h => by
    simp only [planB, Bool.and_eq_true, decide_eq_true_eq] at hB
    obtain ⟨hr, hB'⟩ := hB
    refine wpAnyH_all hr (by simp) fun i hi => ?_
    obtain rfl : i = k := by simpa using hi
    exact wpOp_mono (fun a' w' h' => ⟨h'.1, wpAnyH_plan hs hQ p _ _ w' hB' h'.1 h'.2⟩) h
  | .two k1 p1 k2 p2, listed, a, w, hB, hS, h => by
    simp only [planB, Bool.and_eq_true, decide_eq_true_eq] at hB
    obtain ⟨⟨⟨hr, hl⟩, hB1⟩, hB2⟩ := hB
    refine wpAnyH_all hr (by simp) fun i hi => ?_
    rcases (by simpa using hi : i = k1 ∨ i = k2) with rfl | rfl
    · exact wpOp_mono (fun a' w' h' => ⟨h'.1, wpAnyH_plan hs hQ p1 _ _ w' hB1 h'.1 h'.2⟩) h.1
    · exact wpOp_mono (fun a' w' h' => ⟨h'.1, by rw [hl]; exact wpAnyH_plan hs hQ p2 _ _ w' hB2 h'.1 h'.2⟩) h.2

theorem wp_region_plan {id : Nat} {a : Act} {w : World} {l : List Oper} (S : World → Prop) (p : Plan) (hm : P.follows .mixedOrders = true)
    (hB : (Region.noSelect l.toArray && decide (p.len = l.length) && planB .any l.toArray p (Array.replicate l.length false)) = true) (hS : S w.drew)
    (h : wpPlan P l.toArray S (NoPanic Q) p a w.drew) : (Code.region id l.toArray true).wp P Q a w := by
  simp only [Bool.and_eq_true, decide_eq_true_eq] at hB
  obtain ⟨⟨h1, h2⟩, h3⟩ := hB
  refine wp_region_noPanic (wp_region_held (S := S) hm ?_)
  have := wpAnyH_plan (md := .any) (S := S) (Q := NoPanic Q) h1 (fun c a d v w h => h) p (Array.replicate l.length false) a w.drew h3 hS h
  rw [h2] at this
  simpa using this

theorem wpPlan_quiet {p : Plan} {k : Nat} {o : Oper} {a : Act} {w : World} (v : Value) (ho : ops[k]? = some o) (hg : o.guard = none) (hr : ∀ w', S w' → (execOp a.eval o).run P w' = .ok (.value v) w')
    (h : wpPlan P ops S Q p (a.put o.dst v) w) : wpPlan P ops S Q (.quiet k p) a w :=
  ⟨o, v, ho, .inl ⟨by unfold Region.wanted; rw [hg], hr⟩, h⟩

theorem wpOp_of_one {k : Nat} {o : Oper} {a : Act} {w : World} {R : Act → World → Prop} (hi : ops[k]? = some o) (hg : o.guard = none)
    (h : ∀ K : Act → World → Prop, (∀ a' w', R a' w' → K a' w') → o.wp P a w K Q) : wpOp P ops Q k R a w := by
  unfold wpOp
  simp only [hi]
  rw [if_pos (by unfold Region.wanted; rw [hg])]
  exact .inl (h _ fun a' w' h1 => h1)

theorem wpPlan_one {p : Plan} {k : Nat} {o : Oper} {a : Act} {w : World} (hi : ops[k]? = some o) (hg : o.guard = none)
    (h : ∀ K : Act → World → Prop, (∀ a' w', S w' → wpPlan P ops S Q p a' w' → K a' w') → o.wp P a w K Q) : wpPlan P ops S Q (.one k p) a w :=
  wpOp_of_one hi hg fun K hK => h K fun a' w' h1 h2 => hK a' w' ⟨h1, h2⟩

theorem wpPlan_two {p1 p2 : Plan} {k1 k2 : Nat} {o1 o2 : Oper} {a : Act} {w : World} (hi1 : ops[k1]? = some o1) (hg1 : o1.guard = none) (hi2 : ops[k2]? = some o2) (hg2 : o2.guard = none)
    (h1 : ∀ K : Act → World → Prop, (∀ a' w', S w' → wpPlan P ops S Q p1 a' w' → K a' w') → o1.wp P a w K Q)
    (h2 : ∀ K : Act → World → Prop, (∀ a' w', S w' → wpPlan P ops S Q p2 a' w' → K a' w') → o2.wp P a w K Q) : wpPlan P ops S Q (.two k1 p1 k2 p2) a w :=
  ⟨wpOp_of_one hi1 hg1 fun K hK => h1 K fun a' w' h1 h2 => hK a' w' ⟨h1, h2⟩, wpOp_of_one hi2 hg2 fun K hK => h2 K fun a' w' h1 h2 => hK a' w' ⟨h1, h2⟩⟩

end
end Go.Proofs.YtmddcbebaijjkaaGreatDoor

/- Own slices that grow by append: the kit's law on rows, in the words of Own. -/
namespace Go.Proofs.YtmddcbebaijjkaaGreatDoor
open Go.RowKit
set_option linter.unusedVariables false
set_option linter.unusedSimpArgs false

theorem row_take {α : Type} {E : Enc α} {cur : Array Value} {xs : List α} (h : Row E cur xs) : cur.toList.take (xs.length * E.sz) = flat E xs := by
  apply List.ext_getElem?
  intro j
  have hl := flat_len E xs
  by_cases hj : j < xs.length * E.sz
  · rw [List.getElem?_take, if_pos hj]
    have : (flat E xs)[j]? = some ((flat E xs)[j]'(by omega)) := List.getElem?_eq_getElem (by omega)
    rw [this]
    have := h j _ this
    simpa using this
  · rw [List.getElem?_take, if_neg hj, List.getElem?_eq_none (by omega)]

theorem take_row {α : Type} {E : Enc α} {cur : Array Value} {xs : List α} {n : Nat} (h : cur.toList.take n = flat E xs) : Row E cur xs := by
  refine (fun j u hj => ?_ : ∀ (j : Nat) (u : Value), (flat E xs)[j]? = some u → _)
  rw [← h, List.getElem?_take] at hj
  split at hj
  · simpa using hj
  · cases hj

theorem own_to {α : Type} {E : Enc α} {e : TypeId} {w : World} {a : Option Addr} {cap : Nat} {xs : List α} {lo : Nat} (h : Own E e w a cap xs lo) : w.ownsRow lo e E.sz (.slice a xs.length cap) xs.length (flat E xs) := by
  refine ⟨flat_len E xs, ?_⟩
  rcases h with ⟨rfl, rfl, rfl⟩ | ⟨b, cur, rfl, h1, hb, hs, hr, hl, hm⟩
  · exact .inl ⟨rfl, rfl⟩
  · exact .inr ⟨b, cap, cur, rfl, h1, hb, hl, by simpa [maxLen] using hm, hs, row_take hr⟩

theorem own_of {α : Type} {E : Enc α} {e : TypeId} {w : World} {v : Value} {xs : List α} {lo : Nat} (h : w.ownsRow lo e E.sz v xs.length (flat E xs)) : ∃ a cap, v = .slice a xs.length cap ∧ Own E e w a cap xs lo := by
  obtain ⟨_, h2⟩ := h
  rcases h2 with ⟨rfl, h0⟩ | ⟨g, cap, cur, rfl, h1, hb, hl, hm, hs, ht⟩
  · obtain rfl : xs = [] := List.eq_nil_of_length_eq_zero h0
    exact ⟨none, 0, rfl, .inl ⟨rfl, rfl, rfl⟩⟩
  · exact ⟨some ⟨g, 0, none⟩, cap, rfl, .inr ⟨g, cur, rfl, h1, hb, hs, take_row ht, hl, by simpa [maxLen] using hm⟩⟩

/-- below B nothing has turned, and no block but a's has -/
structure Grew (a : Option Addr) (w w' : World) : Prop where
  os : w'.os = w.os
  tape : w'.tape = w.tape
  output : w'.output = w.output
  size : w.heap.size ≤ w'.heap.size
  block : ∀ k, k < w.heap.size → (∀ A, a = some A → A.block ≠ k) → w'.heap[k]? = w.heap[k]?

theorem Grew.below {a : Option Addr} {w w' : World} (h : Grew a w w') {B : Nat} (hB : B ≤ w.heap.size) (ha : ∀ A, a = some A → B ≤ A.block) : Below B w w' :=
  ⟨h.os, h.tape, h.output, h.size, fun k hk => h.block k (by omega) fun A hA e => by have := ha A hA; omega⟩

section
variable {P : Program} {ops : Array Oper} {rest : List Oper} {o : Oper} {a : Act} {w : World} {Q : Exit → Act → World → Prop}

/-- append of elements that lie in memory onto an own slice -/
theorem wpList_append_more {α : Type} (E : Enc α) (s x : Operand) (t e : TypeId) (i : TypeInfo) (z : Value) (bytes : Nat) (hgd : o.guard = none)
    (ho : o.op = .call { callee := .builtin .append, args := #[s, x], argTypes := #[t, t] }) (ht : P.underlying t = some (.slice e)) (hi : P.info? e = some i) (hz : i.zero = some z) (hsz : i.size = E.sz) (hby : i.bytes = bytes)
    (hzs : z.cells.size = E.sz) (hpos : 0 < E.sz) (xs : List α) (A : Option Addr) (cap : Nat) (lo : Nat) (hown : Own E e w A cap xs lo) (hs : a.eval s = .slice A xs.length cap)
    (ys : List α) (b off c : Nat) (hr : ∀ j u, (flat E ys)[j]? = some u → w.cell? ⟨b, off + j, none⟩ = some u) (hx : a.eval x = .slice (some ⟨b, off, none⟩) ys.length c)
    (h63 : xs.length + ys.length ≤ 140737488355328) (hbd : (xs.length + ys.length) * bytes ≤ 140737488355328) (hlo : lo ≤ w.heap.size)
    (h : ∀ (A' : Option Addr) (c' : Nat) (w' : World), Own E e w' A' c' (xs ++ ys) lo → Grew A w w' → wpList P ops Q rest (a.put o.dst (.slice A' (xs ++ ys).length c')) w') :
    wpList P ops Q (o :: rest) a w := by
  refine wpList_append_own (P := P) w hgd s x t ho lo e i z E.sz bytes ht hi hz hsz hby hzs hpos _ xs.length (flat E xs) hs (own_to hown) ⟨b, off, none⟩ ys.length c (flat E ys) hx (flat_len E ys)
    (fun j u hj => by rw [Addr.add_lit]; exact hr j u hj) (flat_one E ys) (by simp [maxLen]; omega) hbd hlo ?_
  intro v' w' h1 h2 _
  rw [← flat_append, ← List.length_append] at h1
  obtain ⟨A', c', rfl, hown'⟩ := own_of h1
  refine h A' c' w' hown' ⟨h2.os, h2.tape, h2.output, h2.size, fun k hk hA => h2.block k hk fun he => ?_⟩
  cases A with
  | none => simp [Value.ownBlock] at he
  | some d => simp [Value.ownBlock] at he; exact hA d rfl he.symm

end
end Go.Proofs.YtmddcbebaijjkaaGreatDoor

/- The walk of spec.l2Word: the word of a code, back along the pairs, then turned round. -/
namespace Go.Proofs.YtmddcbebaijjkaaGreatDoor
open Go.RowKit
set_option linter.unusedVariables false
set_option linter.unusedSimpArgs false

theorem infoByte : (Tryz.prog.info? 5).map (fun i => (i.zero, i.size, i.bytes)) = some (some (.int .u8 0), 1, 1) := by kernel_rfl

theorem below_more {w w' : World} (h : Below w.heap.size w w') : More w w' := by
  refine ⟨⟨w'.heap.extract w.heap.size w'.heap.size, w'.drawn⟩, world_ext (fun k => ?_) h.tape rfl h.os h.output⟩
  show w'.heap[k]? = (w.heap ++ w'.heap.extract w.heap.size w'.heap.size)[k]?
  rw [Array.getElem?_append]
  by_cases hk : k < w.heap.size
  · rw [if_pos hk]; exact h.block k hk
  · rw [if_neg hk, Array.getElem?_extract]
    have := h.size
    by_cases hk2 : k < w'.heap.size
    · rw [if_pos (by omega), show w.heap.size + (k - w.heap.size) = k by omega]
    · rw [if_neg (by omega)]; exact Array.getElem?_eq_none (by omega)

/-- cells below B read as they did: a rule for the walk -/
theorem below_rule {B : Nat} {w w' : World} (h : Below B w w') (n i : Nat) : w'.cell? ⟨n, i, none⟩ = if n < B then w.cell? ⟨n, i, none⟩ else cellPast w' ⟨n, i, none⟩ := by
  split
  · exact h.cell (p := ⟨n, i, none⟩) (by assumption)
  · rfl

/-- the bytes of the word of a code -/
def wb (l : Int) (ws : List ByteArray) (c : Int) : List UInt8 := (lkw l ws c).data.toList

theorem wb_lit {l : Int} {ws : List ByteArray} {c : Int} (h : ¬ two l + 1 < c) : wb l ws c = [UInt8.ofNat c.toNat] := by
  unfold wb lkw; rw [if_neg h]; rfl

theorem wb_pair {l : Int} {ps : List Pr} {c : Int} {p : Pr} (h : two l + 1 < c) (hp : ps[(c - (two l + 1)).toNat - 1]? = some p) (hpre : two l + 1 < p.p → (p.p - (two l + 1)).toNat - 1 < (c - (two l + 1)).toNat - 1) :
    wb l (wordsL l ps) c = wb l (wordsL l ps) p.p ++ [UInt8.ofNat p.b.toNat] := by
  have h1 := wordsL_get (l := l) hp
  have e : lkw l (wordsL l (ps.take ((c - (two l + 1)).toNat - 1))) p.p = lkw l (wordsL l ps) p.p := by
    unfold lkw
    split
    · rename_i hq; rw [wordsL_take (hpre hq)]
    · rfl
  rw [e] at h1
  unfold wb
  have e2 : lkw l (wordsL l ps) c = lkw l (wordsL l ps) p.p ++ one p.b := by
    rw [show lkw l (wordsL l ps) c = ((wordsL l ps)[(c - (two l + 1)).toNat - 1]?).getD ⟨#[]⟩ by unfold lkw; rw [if_pos h], h1]; rfl
  rw [e2]
  simp [one, ByteArray.data_append]

theorem wb_len {l : Int} {ps : List Pr} {c : Int} (h : hw l ps.length c = true) : (wb l (wordsL l ps) c).length ≤ ps.length + 2 := by
  unfold wb lkw
  split
  · cases hs : (wordsL l ps)[(c - (two l + 1)).toNat - 1]? with
    | none => simp
    | some s =>
      have h1 := (wordsL_size l ps _ s hs).2
      have h2 := (List.getElem?_eq_some_iff.1 hs).1
      rw [wordsL_len] at h2
      simp only [Option.getD_some]
      have : s.data.toList.length = s.size := by show s.data.toList.length = s.data.size; simp
      omega
  · show 1 ≤ _; omega

/-- what lay outside a's block reads as it did: a rule for the walk -/
theorem grew_rule {A : Option Addr} {w w' : World} {B : Nat} (h : Grew A w w') (hA : ∀ a, A = some a → a.block < B) (n i : Nat) :
    w'.cell? ⟨n, i, none⟩ = if B ≤ n then if n < w.heap.size then w.cell? ⟨n, i, none⟩ else cellPast w' ⟨n, i, none⟩ else cellPast w' ⟨n, i, none⟩ := by
  split
  · split
    · rename_i h1 h2
      exact World.cell?_of_block (a := ⟨n, i, none⟩) (h.block n h2 fun a ha e => by have := hA a ha; omega)
    · rfl
  · rfl

theorem own_lt {α : Type} {E : Enc α} {e : TypeId} {w : World} {a : Option Addr} {cap : Nat} {xs : List α} {lo : Nat} (h : Own E e w a cap xs lo) : ∀ A, a = some A → lo ≤ A.block ∧ A.block < w.heap.size := by
  intro A hA
  rcases h with ⟨h0, _⟩ | ⟨b, cur, h0, h1, hb, _⟩
  · rw [h0] at hA; cases hA
  · rw [h0] at hA; cases hA; exact ⟨h1, (Array.getElem?_eq_some_iff.1 hb).1⟩

theorem more_seq {v w : World} {x y : Ext} (h : More v (plus w x)) : More v (plus w (x.seq y)) := by
  rw [← plus_plus]; exact h.plus _

theorem more_draw {v w : World} {x : Ext} {n : Nat} (h : More v (plus w x)) : More v (plus w (x.draw n)) := h.drewN n

theorem one_cells {e : TypeId} (W : World) (b : Nat) (n : Int) (h0 : 0 ≤ n) (h1 : n ≤ 255) (hb : b = W.heap.size) : ∀ (j : Nat) (u : Value), (flat encB [UInt8.ofNat n.toNat])[j]? = some u → (W.alloc (.cells #[.int .u8 n] e)).cell? ⟨b, 0 + j, none⟩ = some u := by
  intro j u hj
  subst hb
  have hn : ((UInt8.ofNat n.toNat).toNat : Int) = n := by
    rw [UInt8.toNat_ofNat']
    omega
  have hl := (List.getElem?_eq_some_iff.1 hj).1
  rw [flat_len] at hl
  have : j = 0 := by simp [encB] at hl; exact hl
  subst this
  have e1 : flat encB [UInt8.ofNat n.toNat] = [.int .u8 ((UInt8.ofNat n.toNat).toNat : Int)] := rfl
  rw [e1, hn] at hj
  simp at hj
  subst hj
  rw [alloc_cell, if_neg (by omega), if_pos rfl]
  rfl

def bv (xs : List UInt8) (j : Nat) : Int := ((xs[j]?).getD 0).toNat

theorem bv_ok (xs : List UInt8) (j : Nat) : 0 ≤ bv xs j ∧ bv xs j ≤ 255 := by
  unfold bv
  have := ((xs[j]?).getD 0).toNat_lt
  omega

/-- the row after i swaps -/
def Rvc (cur : Array Value) (xs : List UInt8) (i : Nat) : Prop :=
  ∀ j, j < xs.length → cur[j]? = some (.int .u8 (if j < i ∨ xs.length - 1 - j < i then bv xs (xs.length - 1 - j) else bv xs j))

theorem Rvc.zero {cur : Array Value} {xs : List UInt8} (h : Row encB cur xs) : Rvc cur xs 0 := by
  intro j hj
  rw [if_neg (by omega)]
  obtain ⟨x, hx⟩ : ∃ x, xs[j]? = some x := ⟨_, List.getElem?_eq_getElem hj⟩
  have : (flat encB xs)[j]? = some (.int .u8 (x.toNat : Int)) := by rw [flatB]; simp [hx]
  rw [h j _ this]
  simp [bv, hx]

theorem Rvc.lo {cur : Array Value} {xs : List UInt8} {i : Nat} (h : Rvc cur xs i) (hi : i < xs.length / 2) : cur[i]? = some (.int .u8 (bv xs i)) := by
  rw [h i (by omega), if_neg (by omega)]

theorem Rvc.hi {cur : Array Value} {xs : List UInt8} {i : Nat} (h : Rvc cur xs i) (hi : i < xs.length / 2) : cur[xs.length - 1 - i]? = some (.int .u8 (bv xs (xs.length - 1 - i))) := by
  rw [h _ (by omega), if_neg (by omega)]

theorem Rvc.step {cur : Array Value} {xs : List UInt8} {i : Nat} (h : Rvc cur xs i) (hi : i < xs.length / 2) (hs : xs.length ≤ cur.size) :
    Rvc ((cur.setIfInBounds i (.int .u8 (bv xs (xs.length - 1 - i)))).setIfInBounds (xs.length - 1 - i) (.int .u8 (bv xs i))) xs (i + 1) := by
  intro j hj
  simp only [Array.getElem?_setIfInBounds, Array.size_setIfInBounds]
  by_cases e1 : xs.length - 1 - i = j
  · rw [if_pos e1, if_pos (by omega), if_pos (by omega), show xs.length - 1 - j = i by omega]
  · rw [if_neg e1]
    by_cases e2 : i = j
    · rw [if_pos e2, if_pos (by omega), if_pos (by omega), e2]
    · rw [if_neg e2, h j hj]
      by_cases e3 : j < i ∨ xs.length - 1 - j < i
      · rw [if_pos e3, if_pos (by omega)]
      · rw [if_neg e3, if_neg (by omega)]

theorem Rvc.done {cur : Array Value} {xs : List UInt8} {i : Nat} (h : Rvc cur xs i) (hi : ¬ i < xs.length / 2) : Row encB cur xs.reverse := by
  refine row_of encB _ _ fun j x hx k hk => ?_
  have hk' : k < 1 := hk
  obtain rfl : k = 0 := by omega
  have hj : j < xs.length := by simpa using (List.getElem?_eq_some_iff.1 hx).1
  have hb : bv xs (xs.length - 1 - j) = x.toNat := by
    rw [List.getElem?_reverse hj] at hx
    simp [bv, hx]
  show cur[j * 1 + 0]? = some (.int .u8 (x.toNat : Int))
  rw [show j * 1 + 0 = j by omega, h j hj, ← hb]
  split
  · rfl
  · rw [show xs.length - 1 - j = j by omega]

theorem lkw_of {l : Int} {ps : List Pr} {c0 c : Int} {bs : List UInt8} (hc : ¬ two l + 1 < c) (h : wb l (wordsL l ps) c0 = wb l (wordsL l ps) c ++ bs.reverse) :
    lkw l (wordsL l ps) c0 = ⟨((bs ++ [UInt8.ofNat c.toNat]).reverse).toArray⟩ := by
  rw [wb_lit hc] at h
  have : (lkw l (wordsL l ps) c0).data = ((bs ++ [UInt8.ofNat c.toNat]).reverse).toArray := by
    rw [← Array.toArray_toList (xs := (lkw l (wordsL l ps) c0).data), show (lkw l (wordsL l ps) c0).data.toList = _ from h]
    simp
  rw [← this]

set_option maxRecDepth 100000 in
set_option maxHeartbeats 4000000 in
theorem l2Word_any (o l m : Int) (a : Option Addr) (cap : Nat) (ps : List Pr) (base last : Int) (c0 : Int) (w : World) (hr : RdP w a cap ps) (hkv : KV o l m ps base last) (hc0 : hw l ps.length c0 = true) :
    Calls Tryz.prog 153 #[.agg #[.int .i64 o, .int .i64 l, .int .i64 m, .slice a ps.length cap, .int .i64 base, .int .i64 last], .int .i64 c0] w (Ret w (.string (lkw l (wordsL l ps) c0))) := by
  have hs := hkv.s
  have hn := kv_len (kvb_iff.2 hkv)
  obtain ⟨_, l1, l2, _, _⟩ := sv_iff.1 hs
  obtain ⟨t1, t2⟩ := two_lit l1 l2
  have la : 0 ≤ l := by omega
  have lb : l ≤ 10 := by omega
  obtain ⟨i0, hi, hz0, hz1, hz2⟩ := info_parts infoByte
  obtain ⟨r1, r2, r3⟩ := hr.open
  have HKV := Lib.hid hkv
  clear hkv
  go_enter Tryz.func153, Tryz.ntmps153
  go_wp2_with fail
  go_loopw [1, 5] (fun q s wr => ∃ (c : Int) (bs : List UInt8) (A : Option Addr) (cp : Nat), hw l ps.length c = true ∧ q = .int .i64 c ∧ s = .slice A bs.length cp ∧ Own encB 5 wr A cp bs (w.heap.size + 1) ∧
      wb l (wordsL l ps) c0 = wb l (wordsL l ps) c ++ bs.reverse ∧ Below (w.heap.size + 1) (w.alloc (.cells #[.int .i64 o, .int .i64 l, .int .i64 m, .slice a ps.length cap, .int .i64 base, .int .i64 last] 26)) wr) (fun q _ _ => (intOf q).toNat)
  case atStart => exact ⟨c0, [], some ⟨w.heap.size + 1, 0, none⟩, 0, hc0, rfl, rfl, Own.newAt (by simp) (by omega) rfl (row_of encB _ _ (fun i x h => by simp at h)) (by simp) (by omega), by simp, Below.alloc (Below.refl _ _) (by simp) _⟩
  case round =>
    obtain ⟨c, bs, A, cp, hcw, rfl, rfl, hown, hwb, hbl⟩ := hrel
    have hrule := below_rule hbl
    have hsz : w.heap.size + 1 ≤ wr.heap.size := by have := hbl.size; simp at this; exact this
    have HB := Lib.hid hbl
    have HO := Lib.hid hown
    have HW := Lib.hid hwb
    have hbs : bs.length ≤ 3000 := by
      have h1 := congrArg List.length hwb
      have h2 := wb_len hc0
      simp at h1
      omega
    have hAlt := fun A hA => (own_lt hown A hA).2
    have hAlo := fun A hA => (own_lt hown A hA).1
    clear hbl hown hwb
    rcases dec (two l + 1 < c) with ⟨g1, v1⟩ | ⟨g1, v1⟩
    · have hidx : (c - (two l + 1)).toNat - 1 < ps.length := by have := hw_iff.1 hcw; omega
      have hex : ∃ p, ps[(c - (two l + 1)).toNat - 1]? = some p := ⟨_, List.getElem?_eq_getElem hidx⟩
      obtain ⟨p, hp⟩ := hex
      obtain ⟨ok1, ok2, ok3⟩ := HKV.out.ok _ p hp
      have okw := hw_iff.1 ok1
      have hcw2 := hw_iff.1 hcw
      rcases r3 with rfl | ⟨b, off, rfl, hb, hc⟩
      · exact absurd hidx (by omega)
      obtain ⟨c1, c2⟩ := hc _ p hp
      have hpre : two l + 1 < p.p → (p.p - (two l + 1)).toNat - 1 < (c - (two l + 1)).toNat - 1 := by omega
      have HP := Lib.hid (wb_pair (l := l) g1 hp hpre)
      have HN := Lib.hid (show hw l ps.length p.p = true from hw_iff.2 (by omega))
      have hdec : p.p < c := by omega
      have hb3 : p.b ≤ 255 := by omega
      clear hp hc okw hcw2 hpre ok1
      go_wp2_with fail
      refine (l1End_any _ _ _ la lb _).mono ?_
      rintro e w' ⟨rfl, x1, rfl⟩
      go_wp2_with fail
      refine wp_region_plan (fun w' => ∃ y, w' = plus (plus wr x1) y) (Plan.quiet 0 (Plan.quiet 1 (Plan.quiet 2 (Plan.quiet 3 (Plan.quiet 4 (Plan.two 5 (Plan.quiet 6 (Plan.quiet 7 (Plan.quiet 8 (Plan.quiet 9 (Plan.one 10 (Plan.one 11 Plan.done)))))) 10 (Plan.one 5 (Plan.quiet 6 (Plan.quiet 7 (Plan.quiet 8 (Plan.quiet 9 (Plan.one 11 Plan.done)))))))))))) (by kernel_rfl) (by kernel_rfl) ⟨_, drew_is_plus _⟩ ?_
      refine wpPlan_quiet (.pointer (some ⟨w.heap.size, 3, none⟩)) rfl rfl (by rintro w' ⟨y, rfl⟩; simp [go_sem, ↓IntWalk.iteOmega, hrule, c1, c2] <;> first | done | (rw [IntWalk.i64_in _ (by omega)]) | trace_state) ?_
      refine wpPlan_quiet (.slice (some ⟨b, off, none⟩) ps.length cap) rfl rfl (by rintro w' ⟨y, rfl⟩; simp [go_sem, ↓IntWalk.iteOmega, hrule, c1, c2] <;> first | done | (rw [IntWalk.i64_in _ (by omega)]) | trace_state) ?_
      refine wpPlan_quiet (.int .i64 c) rfl rfl (by rintro w' ⟨y, rfl⟩; simp [go_sem, ↓IntWalk.iteOmega, hrule, c1, c2] <;> first | done | (rw [IntWalk.i64_in _ (by omega)]) | trace_state) ?_
      refine wpPlan_quiet (.pointer (some ⟨w.heap.size, 0, none⟩)) rfl rfl (by rintro w' ⟨y, rfl⟩; simp [go_sem, ↓IntWalk.iteOmega, hrule, c1, c2] <;> first | done | (rw [IntWalk.i64_in _ (by omega)]) | trace_state) ?_
      refine wpPlan_quiet (.agg #[.int .i64 o, .int .i64 l, .int .i64 m]) rfl rfl (by rintro w' ⟨y, rfl⟩; simp [go_sem, ↓IntWalk.iteOmega, hrule, c1, c2] <;> first | done | (rw [IntWalk.i64_in _ (by omega)]) | trace_state) ?_
      refine wpPlan_two rfl rfl rfl rfl (fun K hK => ?_) (fun K hK => ?_)
      · go_simp
        refine (l1End_any _ _ _ la lb _).mono ?_
        rintro e w' ⟨rfl, x2, rfl⟩
        refine hK _ _ (by repeat (first | exact More.refl _ | (with_reducible apply more_seq) | (with_reducible apply more_draw) | apply More.plus | apply More.alloc | apply More.drew)) ?_
        clear hK K
        refine wpPlan_quiet (.int .i64 (c - (two l + 1))) rfl rfl (by rintro w' ⟨y, rfl⟩; simp [go_sem, ↓IntWalk.iteOmega, hrule, c1, c2] <;> first | done | (rw [IntWalk.i64_in _ (by omega)]) | trace_state) ?_
        refine wpPlan_quiet (.int .i64 (c - (two l + 1) - 1)) rfl rfl (by rintro w' ⟨y, rfl⟩; simp [go_sem, ↓IntWalk.iteOmega, hrule, c1, c2] <;> first | done | (rw [IntWalk.i64_in _ (by omega)]) | trace_state) ?_
        refine wpPlan_quiet (.pointer (some ⟨b, off + ((c - (two l + 1)).toNat - 1) * 2, none⟩)) rfl rfl (by rintro w' ⟨y, rfl⟩; simp [go_sem, ↓IntWalk.iteOmega, hrule, c1, c2] <;> first | done | (rw [IntWalk.i64_in _ (by omega)]) | trace_state) ?_
        refine wpPlan_quiet (.agg #[.int .i64 p.p, .int .i64 p.b]) rfl rfl (by rintro w' ⟨y, rfl⟩; simp [go_sem, ↓IntWalk.iteOmega, hrule, c1, c2] <;> first | done | (rw [IntWalk.i64_in _ (by omega)]) | trace_state) ?_
        refine wpPlan_one rfl rfl (fun K hK => ?_)
        go_simp
        refine hK _ _ (by repeat (first | exact More.refl _ | (with_reducible apply more_seq) | (with_reducible apply more_draw) | apply More.plus | apply More.alloc | apply More.drew)) ?_
        clear hK K
        refine wpPlan_one rfl rfl (fun K hK => ?_)
        go_simp
        refine hK _ _ (by repeat (first | exact More.refl _ | (with_reducible apply more_seq) | (with_reducible apply more_draw) | apply More.plus | apply More.alloc | apply More.drew)) ?_
        clear hK K
        refine NoPanic.normal ?_
        go_wp2_with (at_builtin; refine wpList_append_more encB _ _ _ _ i0 _ 1 rfl rfl Tryz.underlying34 hi hz0 hz1 hz2 rfl (by decide) bs A cp (w.heap.size + 1) (by repeat (first | exact HO.out | apply Own.plus | apply Own.alloc | apply Own.drew)) rfl [UInt8.ofNat p.b.toNat] _ 0 1 (one_cells _ _ p.b ok2 hb3 (by simp)) rfl (by simp <;> omega) (by simp <;> omega) (by simp <;> omega) ?_; intro A' c' w2 hown2 hgrew; have HO2 := Lib.hid hown2; have hrule2 := grew_rule hgrew hAlt; have HG := Lib.hid hgrew; clear hown2 hgrew)
        go_outline
        go_roundw
        case rel => exact ⟨p.p, bs ++ [UInt8.ofNat p.b.toNat], A', c', HN.out, rfl, by simp, HO2.out, by rw [HW.out, HP.out]; simp, by refine HB.out.trans (Below.trans ?_ (HG.out.below (by simp <;> omega) hAlo)); exact (by repeat (first | exact Below.refl _ _ | refine below_plus ?_ (by first | omega | (simp <;> omega)) _ | refine Below.alloc ?_ (by first | omega | (simp <;> omega)) _ | refine below_patch ?_ (by omega) _ | refine Below.drew ?_))⟩
        case measure => simp [intOf]; omega
      · go_simp
        refine hK _ _ (by repeat (first | exact More.refl _ | (with_reducible apply more_seq) | (with_reducible apply more_draw) | apply More.plus | apply More.alloc | apply More.drew)) ?_
        clear hK K
        refine wpPlan_one rfl rfl (fun K hK => ?_)
        go_simp
        refine (l1End_any _ _ _ la lb _).mono ?_
        rintro e w' ⟨rfl, x2, rfl⟩
        refine hK _ _ (by repeat (first | exact More.refl _ | (with_reducible apply more_seq) | (with_reducible apply more_draw) | apply More.plus | apply More.alloc | apply More.drew)) ?_
        clear hK K
        refine wpPlan_quiet (.int .i64 (c - (two l + 1))) rfl rfl (by rintro w' ⟨y, rfl⟩; simp [go_sem, ↓IntWalk.iteOmega, hrule, c1, c2] <;> first | done | (rw [IntWalk.i64_in _ (by omega)]) | trace_state) ?_
        refine wpPlan_quiet (.int .i64 (c - (two l + 1) - 1)) rfl rfl (by rintro w' ⟨y, rfl⟩; simp [go_sem, ↓IntWalk.iteOmega, hrule, c1, c2] <;> first | done | (rw [IntWalk.i64_in _ (by omega)]) | trace_state) ?_
        refine wpPlan_quiet (.pointer (some ⟨b, off + ((c - (two l + 1)).toNat - 1) * 2, none⟩)) rfl rfl (by rintro w' ⟨y, rfl⟩; simp [go_sem, ↓IntWalk.iteOmega, hrule, c1, c2] <;> first | done | (rw [IntWalk.i64_in _ (by omega)]) | trace_state) ?_
        refine wpPlan_quiet (.agg #[.int .i64 p.p, .int .i64 p.b]) rfl rfl (by rintro w' ⟨y, rfl⟩; simp [go_sem, ↓IntWalk.iteOmega, hrule, c1, c2] <;> first | done | (rw [IntWalk.i64_in _ (by omega)]) | trace_state) ?_
        refine wpPlan_one rfl rfl (fun K hK => ?_)
        go_simp
        refine hK _ _ (by repeat (first | exact More.refl _ | (with_reducible apply more_seq) | (with_reducible apply more_draw) | apply More.plus | apply More.alloc | apply More.drew)) ?_
        clear hK K
        refine NoPanic.normal ?_
        go_wp2_with (at_builtin; refine wpList_append_more encB _ _ _ _ i0 _ 1 rfl rfl Tryz.underlying34 hi hz0 hz1 hz2 rfl (by decide) bs A cp (w.heap.size + 1) (by repeat (first | exact HO.out | apply Own.plus | apply Own.alloc | apply Own.drew)) rfl [UInt8.ofNat p.b.toNat] _ 0 1 (one_cells _ _ p.b ok2 hb3 (by simp)) rfl (by simp <;> omega) (by simp <;> omega) (by simp <;> omega) ?_; intro A' c' w2 hown2 hgrew; have HO2 := Lib.hid hown2; have hrule2 := grew_rule hgrew hAlt; have HG := Lib.hid hgrew; clear hown2 hgrew)
        go_outline
        go_roundw
        case rel => exact ⟨p.p, bs ++ [UInt8.ofNat p.b.toNat], A', c', HN.out, rfl, by simp, HO2.out, by rw [HW.out, HP.out]; simp, by refine HB.out.trans (Below.trans ?_ (HG.out.below (by simp <;> omega) hAlo)); exact (by repeat (first | exact Below.refl _ _ | refine below_plus ?_ (by first | omega | (simp <;> omega)) _ | refine Below.alloc ?_ (by first | omega | (simp <;> omega)) _ | refine below_patch ?_ (by omega) _ | refine Below.drew ?_))⟩
        case measure => simp [intOf]; omega
    · have okw := hw_iff.1 hcw
      have ok1 : 0 ≤ c := by omega
      have ok2 : c ≤ 255 := by omega
      go_wp2_with fail
      refine (l1End_any _ _ _ la lb _).mono ?_
      rintro e w' ⟨rfl, x1, rfl⟩
      go_wp2_with (at_builtin; refine wpList_append_more encB _ _ _ _ i0 _ 1 rfl rfl Tryz.underlying34 hi hz0 hz1 hz2 rfl (by decide) bs A cp (w.heap.size + 1) (by repeat (first | exact HO.out | apply Own.plus | apply Own.alloc | apply Own.drew)) rfl [UInt8.ofNat c.toNat] _ 0 1 (one_cells _ _ c ok1 ok2 (by simp)) rfl (by simp <;> omega) (by simp <;> omega) (by simp <;> omega) ?_; intro A' c' w2 hown2 hgrew; have HO2 := Lib.hid hown2; have hrule2 := grew_rule hgrew hAlt; have HG := Lib.hid hgrew; clear hown2 hgrew)
      have hval := Lib.hid (lkw_of (by omega) HW.out)
      have hgr := Lib.hid (show Below (w.heap.size + 1) (w.alloc (.cells #[.int .i64 o, .int .i64 l, .int .i64 m, .slice a ps.length cap, .int .i64 base, .int .i64 last] 26)) w2 by refine HB.out.trans (Below.trans ?_ (HG.out.below (by simp <;> omega) hAlo)); exact (by repeat (first | exact Below.refl _ _ | refine below_plus ?_ (by first | omega | (simp <;> omega)) _ | refine Below.alloc ?_ (by first | omega | (simp <;> omega)) _ | refine below_patch ?_ (by omega) _ | refine Below.drew ?_)))
      obtain ⟨b', cur, rfl, hb'1, hb'3, hb'2, hcs, hrow, hle, hcap⟩ := own_some HO2.out (by simp)
      have hlen := Lib.hid (show (bs ++ [UInt8.ofNat c.toNat]).length = bs.length + 1 by simp)
      generalize bs ++ [UInt8.ofNat c.toNat] = xs at *
      have hxl := hlen.out
      rw [← hxl]
      clear hlen
      have hxb : xs.length ≤ 3001 := by omega
      have hx0 : 0 < xs.length := by omega
      clear hxl
      have hcs' : cur.size = c' := by simpa [encB] using hcs
      have HR := Lib.hid (Rvc.zero hrow)
      have HBK := Lib.hid hb'2
      have HHL := Lib.hid hcap
      clear hrow hcap
      go_loopw [7] (fun i wr2 => ∃ (k : Nat) (cu : Array Value), k ≤ xs.length / 2 ∧ i = .int .i64 k ∧ cu.size = c' ∧ Rvc cu xs k ∧ wr2 = patch w2 b' (.cells cu 5)) (fun i _ => xs.length - (intOf i).toNat)
      case atStart => exact ⟨0, cur, Nat.zero_le _, rfl, hcs', HR.out, (patch_self w2 b' _ HBK.out).symm⟩
      case round =>
        obtain ⟨k, cu, hk, rfl, hcu, hrv, rfl⟩ := hrel
        rcases dec ((k : Int) < (xs.length : Int) / 2) with ⟨g2, v2⟩ | ⟨g2, v2⟩
        · have hk2 : k < xs.length / 2 := by omega
          have hlo := hrv.lo hk2
          have hhi := hrv.hi hk2
          have HRS := Lib.hid (hrv.step hk2 (by omega))
          obtain ⟨y1, y2⟩ := bv_ok xs k
          obtain ⟨y3, y4⟩ := bv_ok xs (xs.length - 1 - k)
          clear hrv
          have hhx : ∃ z, (cu.setIfInBounds k (.int .u8 (bv xs (xs.length - 1 - k))))[xs.length - 1 - k]? = some z := ⟨_, Array.getElem?_eq_getElem (by simp; omega)⟩
          obtain ⟨z, hhi2⟩ := hhx
          go_wp2_with fail
          go_roundw
          case rel => exact ⟨k + 1, _, by omega, by simp, by simp [hcu], HRS.out, by first | rfl | rw [patch_patch]⟩
          case measure => simp [intOf]; omega
        · have hrd : Rd encB (patch w2 b' (.cells cu 5)) (some ⟨b', 0, none⟩) c' xs.reverse := rd_patched hb'3 (hrv.done (by omega)) (by simpa using hle) HHL.out
          have hst := run_str (P := Tryz.prog) Tryz.underlying34 Tryz.underlying5 Tryz.underlying9 hrd (by simpa using hx0)
          rw [List.length_reverse] at hst
          have HF := Lib.hid (below_patch hgr.out hb'1 (.cells cu 5))
          clear hrv hrd
          go_wp2_with fail
          go_ret
          exact ⟨congrArg (fun s => Ending.returned (Value.string s)) hval.out.symm, below_more (Below.trans (Below.alloc (Below.refl _ _) (Nat.le_refl _) _) (HF.out.mono (by omega)))⟩

end Go.Proofs.YtmddcbebaijjkaaGreatDoor

/- How a law's row is closed: from the walk's 'true, and nothing old has turned'; and arguments opened. -/
namespace Go.Proofs.YtmddcbebaijjkaaGreatDoor
open Go.RowKit
open Go.ChangeShapes Go.WideShapes Go.ChangeAt Go.RowKit Go.WideElems
set_option linter.unusedVariables false
set_option linter.unusedSimpArgs false

section
variable {H : Type} {enc : TypeId × Value → H} {P : Program} {W W' : World}

theorem trodAll_later (hl : laidOutB P = true) {sp : Nat → Bool} (hb : Below W.heap.size W W') :
    ∀ (ts : List TypeId) (vs : List Value) (ds : List (DataW H)) (p : List MemPlace), ts.all (fun t => P.readableRec t && decide (t < P.types.size)) = true → DataW.TrodAll enc P W 0 (fun _ => true) true ts vs ds p →
      (∀ x ∈ p, x.block < W.heap.size) → (∀ x ∈ p, sp x.block = true) → DataW.TrodAll enc P W' 0 sp true ts vs ds p
  | [], vs, ds, p, _, h, _, _ => by
    obtain ⟨rfl, rfl, rfl⟩ := trodAll_nil h
    exact trodAll_mk0
  | t :: ts, vs, ds, p, ht, h, hlt, hsp => by
    simp only [List.all_cons, Bool.and_eq_true, decide_eq_true_eq] at ht
    obtain ⟨⟨h1, h2⟩, h3⟩ := ht
    obtain ⟨v, vs', d, ds', p1, p2, rfl, rfl, rfl, h4, h5⟩ := trodAll_cons h
    exact trodAll_cons_mk (Trod_stays hl h1 h2 h4 (fun x hx => hb.same (hlt x (List.mem_append_left _ hx))) (fun x hx => hsp x (List.mem_append_left _ hx)))
      (trodAll_later hl hb ts vs' ds' p2 (by simpa using h3) h5 (fun x hx => hlt x (List.mem_append_right _ hx)) (fun x hx => hsp x (List.mem_append_right _ hx)))

/-- the row's post, from a walk that returns true and turns nothing old -/
theorem law_post {f : Func} {s : ChangeSpec} {args : Array Value} {ds gs : List (DataW H)} {before : List MemPlace} {tb : TypeId} (hl : laidOutB P = true)
    (hW : DataW.Whole enc P f.params.toList s.vars false W args.toList ds gs before) (hv : s.vars = []) (hts : f.params.toList.all (fun t => P.readableRec t && decide (t < P.types.size)) = true)
    (hres : f.resultTypes.toList = [tb]) (hbool : P.underlying tb = some .bool) (hfn : s.fn H ds = { results := [.lit (.bool true)], args := ds }) (hb : Below W.heap.size W W') :
    s.post enc P f false true false false W args (.bool true) W' := by
  have hlt : ∀ p ∈ before, p.block < W.heap.size := fun p hp => hW.lt p hp
  have hW2 := hW
  obtain ⟨p, q, hA, hV, rfl, _, _⟩ := hW
  rw [hv] at hV
  obtain ⟨rfl, rfl⟩ := trodVars_none hV
  simp only [List.append_nil] at hW2 hlt
  refine ⟨ds, [], p, [], p, [], hW2, ?_, ?_, ?_, hb.frame _, fun h => by cases h⟩
  · simp only [List.append_nil, hfn, hres]
    have hn : f.resultTypes.size = 1 := by
      have := congrArg List.length hres
      simpa using this
    rw [hn]
    exact trodAll_cons_mk (shut_bool hbool _) trodAll_mk0
  · simp only [List.append_nil, hfn]
    exact trodAll_later hl hb _ _ _ _ hts hA hlt (fun x hx => by simpa using hlt x hx)
  · simp only [List.append_nil, hfn, hv]
    rfl

theorem row_cells {α : Type} (E : Enc α) (g : Nat → Option Value) (xs : List α) (h : ∀ i x, xs[i]? = some x → ∀ j, j < E.sz → g (i * E.sz + j) = (E.enc x)[j]?) : ∀ (j : Nat) (u : Value), (flat E xs)[j]? = some u → g j = some u := by
  intro j u hj
  have hl := (List.getElem?_eq_some_iff.1 hj).1
  rw [flat_len] at hl
  have hpos : 0 < E.sz := by
    rcases Nat.eq_zero_or_pos E.sz with h0 | h0
    · rw [h0] at hl; omega
    · exact h0
  have hi : j / E.sz < xs.length := Nat.div_lt_of_lt_mul (by rw [Nat.mul_comm]; exact hl)
  have hx : xs[j / E.sz]? = some xs[j / E.sz] := List.getElem?_eq_getElem hi
  have hm : j % E.sz < E.sz := Nat.mod_lt _ hpos
  have hj2 : j / E.sz * E.sz + j % E.sz = j := by rw [Nat.mul_comm]; exact Nat.div_add_mod j E.sz
  have h1 := flat_get E xs _ _ hx _ hm
  have h2 := h _ _ hx _ hm
  rw [hj2] at h1 h2
  rw [h2, ← h1, hj]

end
end Go.Proofs.YtmddcbebaijjkaaGreatDoor

/- Arguments that hold something known, opened. -/
namespace Go.Proofs.YtmddcbebaijjkaaGreatDoor
open Go.RowKit
open Go.ChangeShapes Go.WideShapes Go.ChangeAt Go.RowKit Go.WideElems
set_option linter.unusedVariables false
set_option linter.unusedSimpArgs false

section
variable {H : Type} {enc : TypeId × Value → H} {P : Program} {W W' : World}

end
end Go.Proofs.YtmddcbebaijjkaaGreatDoor

/- Arguments that are settings, opened. -/
namespace Go.Proofs.YtmddcbebaijjkaaGreatDoor
open Go.RowKit
open Go.ChangeShapes Go.WideShapes Go.ChangeAt Go.RowKit Go.WideElems
set_option linter.unusedVariables false
set_option linter.unusedSimpArgs false

end Go.Proofs.YtmddcbebaijjkaaGreatDoor
