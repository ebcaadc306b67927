/- Lemmas and walks, part Gj. -/
import Derived.Test.YtmddcbebaijjkaaGreatDoorGi
import Derived.Test.YtmddcbebaijjkaaGreatDoorGc
import Derived.Test.YtmddcbebaijjkaaGreatDoorGa

/- Draws: the walks of l9Open, pick, l1Bytes. -/
namespace Go.Proofs.YtmddcbebaijjkaaGreatDoor
open Go.RowKit
set_option linter.unusedVariables false
set_option linter.unusedSimpArgs false

theorem rdB_open {w : World} {a : Option Addr} {cap : Nat} {xs : List UInt8} (h : Rd encB w a cap xs) : xs.length ≤ cap ∧ cap ≤ 9223372036854775807 ∧ (cap = 0 ∨ ∃ b off, a = some ⟨b, off, none⟩ ∧ b < w.heap.size ∧
    ∀ i x, xs[i]? = some x → w.cell? ⟨b, off + i, none⟩ = some (.int .u8 (x.toNat : Int))) := by
  obtain ⟨h1, h2, h3⟩ := h
  refine ⟨h1, h2, ?_⟩
  rcases h3 with h3 | ⟨b, off, rfl, hb, hc⟩
  · exact .inl h3
  · refine .inr ⟨b, off, rfl, hb, fun i x hx => ?_⟩
    have := hc (i * 1 + 0) _ (flat_get encB xs i x hx 0 (by decide))
    simpa using this

/-- a source of draws in block B, with at most n draws so far -/
def Dsrc (w : World) (B n : Nat) : Prop := ∃ (ba : Option Addr) (bc : Nat) (bs : List UInt8) (p : Nat), w.heap[B]? = some (.cells #[.slice ba bs.length bc, .int .i64 p] 100 (0, 0)) ∧ Rd encB w ba bc bs ∧ (bc = 0 ∨ ∀ X, ba = some X → X.block < B) ∧ bs.length ≤ 2000 ∧ p ≤ n

section
variable {w w' : World} {B n : Nat}

theorem Dsrc.of_block (h : Dsrc w B n) (hs : ∀ k, k ≤ B → k < w.heap.size → w'.heap[k]? = w.heap[k]?) (hz : w.heap.size ≤ w'.heap.size) : Dsrc w' B n := by
  obtain ⟨ba, bc, bs, p, hb, hr, ho, hl, hp⟩ := h
  have hB := (Array.getElem?_eq_some_iff.1 hb).1
  exact ⟨ba, bc, bs, p, (hs B (Nat.le_refl _) hB).trans hb, by
    rcases ho with h0 | ho
    · exact ⟨hr.1, hr.2.1, .inl h0⟩
    · exact hr.of_block fun A hA hlt => ⟨by omega, hs _ (by have := ho A hA; omega) hlt⟩, ho, hl, hp⟩

theorem Dsrc.plus (h : Dsrc w B n) (x : Ext) : Dsrc (Go.Proofs.YtmddcbebaijjkaaGreatDoor.plus w x) B n := h.of_block (fun k _ hk => plus_block w x hk) (by rw [plus_size]; omega)

theorem Dsrc.alloc (h : Dsrc w B n) (ob : Obj) : Dsrc (w.alloc ob) B n := by rw [alloc_plus]; exact h.plus _

theorem Dsrc.drew (h : Dsrc w B n) : Dsrc w.drew B n := by rw [drew_is_plus]; exact h.plus _

theorem dsrc_seq {x y : Ext} (h : Dsrc (Go.Proofs.YtmddcbebaijjkaaGreatDoor.plus w x) B n) : Dsrc (Go.Proofs.YtmddcbebaijjkaaGreatDoor.plus w (x.seq y)) B n := by rw [← plus_plus]; exact h.plus y

theorem dsrc_draw {x : Ext} {k : Nat} (h : Dsrc (Go.Proofs.YtmddcbebaijjkaaGreatDoor.plus w x) B n) : Dsrc (Go.Proofs.YtmddcbebaijjkaaGreatDoor.plus w (x.draw k)) B n := h

theorem Dsrc.mono {n' : Nat} (h : Dsrc w B n) (hn : n ≤ n') : Dsrc w B n' := by
  obtain ⟨ba, bc, bs, p, hb, hr, ho, hl, hp⟩ := h
  exact ⟨ba, bc, bs, p, hb, hr, ho, hl, by omega⟩

theorem Dsrc.grew {A : Option Addr} (h : Dsrc w B n) (hg : Grew A w w') (ha : ∀ X, A = some X → B < X.block) : Dsrc w' B n :=
  h.of_block (fun k hk hlt => hg.block k hlt fun X hX e => by have := ha X hX; omega) hg.size

theorem Dsrc.B_lt (h : Dsrc w B n) : B < w.heap.size := by
  obtain ⟨ba, bc, bs, p, hb, _⟩ := h
  exact (Array.getElem?_eq_some_iff.1 hb).1

end

/-- a draw of a number below m -/
def RetD (w : World) (B n : Nat) (m : Int) (e : Ending) (w' : World) : Prop := ∃ v : Int, e = .returned (.int .i64 v) ∧ 0 ≤ v ∧ (v < m ∨ v = 0) ∧ Dsrc w' B n ∧ Grew (some ⟨B, 0, none⟩) w w'

theorem xor_bd {x y : Int} (h0 : 0 ≤ x) (h1 : x < 2147483648) (h2 : 0 ≤ y) (h3 : y < 2147483648) : 0 ≤ bits .xor .i64 x y ∧ bits .xor .i64 x y < 2147483648 := by
  obtain ⟨m, rfl⟩ : ∃ m : Nat, x = m := ⟨x.toNat, by omega⟩
  obtain ⟨n, rfl⟩ : ∃ n : Nat, y = n := ⟨y.toNat, by omega⟩
  show 0 ≤ IntKind.i64.wrap ((BitVec.ofInt 64 (m : Int) ^^^ BitVec.ofInt 64 (n : Int)).toNat : Nat) ∧ IntKind.i64.wrap ((BitVec.ofInt 64 (m : Int) ^^^ BitVec.ofInt 64 (n : Int)).toNat : Nat) < 2147483648
  have h : (BitVec.ofInt 64 (m : Int) ^^^ BitVec.ofInt 64 (n : Int)).toNat < 2 ^ 31 := by
    rw [BitVec.toNat_xor]
    apply Nat.xor_lt_two_pow
    · simp [BitVec.toNat_ofInt]; omega
    · simp [BitVec.toNat_ofInt]; omega
  rw [IntWalk.i64_in _ (by omega)]
  omega

set_option maxRecDepth 100000 in
set_option maxHeartbeats 2000000 in
theorem pick_any (B n : Nat) (m : Int) (w : World) (hd : Dsrc w B n) (hn : n ≤ 1000000) :
    Calls Tryz.prog 40 #[.pointer (some ⟨B, 0, none⟩), .int .i64 m] w (RetD w B (n + 1) m) := by
  obtain ⟨ba, bc, bs, p, hb, hr, ho, hl, hp⟩ := hd
  have hB := (Array.getElem?_eq_some_iff.1 hb).1
  have hr' : ∀ o, Rd encB (patch w B o) ba bc bs := fun o => by
    rcases ho with h0 | ho
    · exact ⟨hr.1, hr.2.1, .inl h0⟩
    · exact rd_patch hr _ _ (fun A hA e => by have := ho A hA; omega)
  have rk := cell_of hb
  have fk := free_of hb
  have sk := fun v => setCell_patch hb 1 v
  have hr3 := rdB_open hr
  have HN := Lib.hid (show ∀ x : Ext, Dsrc (plus (patch w B (.cells #[.slice ba bs.length bc, .int .i64 ((p : Int) + 1)] 100)) x) B (n + 1) ∧ Grew (some ⟨B, 0, none⟩) w (plus (patch w B (.cells #[.slice ba bs.length bc, .int .i64 ((p : Int) + 1)] 100)) x) from fun x =>
    ⟨⟨ba, bc, bs, p + 1, blk_plus (patch_at _ _ _ hB) _, (hr' _).plus _, ho, hl, by omega⟩, grew_plus (grew_patch _ _ _) _⟩)
  have HN0 := Lib.hid (show Dsrc (patch w B (.cells #[.slice ba bs.length bc, .int .i64 ((p : Int) + 1)] 100)) B (n + 1) ∧ Grew (some ⟨B, 0, none⟩) w (patch w B (.cells #[.slice ba bs.length bc, .int .i64 ((p : Int) + 1)] 100)) from
    ⟨⟨ba, bc, bs, p + 1, patch_at _ _ _ hB, hr' _, ho, hl, by omega⟩, grew_patch _ _ _⟩)
  clear hb hr hr'
  rcases dec (m < 1) with ⟨hm, v1⟩ | ⟨hm, v1⟩
  · go_enter Tryz.func40, Tryz.ntmps40
    go_wp2
    go_ret
    exact ⟨0, rfl, by omega, .inr rfl, HN0.out.1, HN0.out.2⟩
  rcases Nat.eq_zero_or_pos bs.length with hz | hz
  · have v2 : ((bs.length : Int) == 0) = true := by simp; exact List.eq_nil_of_length_eq_zero hz
    go_enter Tryz.func40, Tryz.ntmps40
    go_wp2
    go_ret
    rw [hz] at HN0
    exact ⟨0, rfl, by omega, .inr rfl, HN0.out.1, HN0.out.2⟩
  have v2 : ((bs.length : Int) == 0) = false := by simp; intro e; subst e; simp at hz
  obtain ⟨r1, r2, r3⟩ := hr3
  rcases r3 with rfl | ⟨b, off, rfl, hbb, hc⟩
  · omega
  have hbB : b ≠ B := fun e => by
    rcases ho with h0 | ho
    · omega
    · have := ho _ rfl; simp at this; omega
  rcases dec (p < bs.length) with ⟨hlt, v3⟩ | ⟨hlt, v3⟩
  · obtain ⟨x, hx⟩ : ∃ x, bs[p]? = some x := ⟨_, List.getElem?_eq_getElem hlt⟩
    have c1 := hc p x hx
    have hxb := x.toNat_lt
    have hm0 : m ≠ 0 := by omega
    have h1 := Int.emod_nonneg (x.toNat : Int) hm0
    have h2 := Int.emod_lt_of_pos (x.toNat : Int) (show 0 < m by omega)
    clear hc hx
    go_enter Tryz.func40, Tryz.ntmps40
    go_wp2
    go_ret
    exact ⟨(x.toNat : Int) % m, rfl, h1, .inl h2, HN0.out.1, HN0.out.2⟩
  · have hq1 : p % bs.length < bs.length := Nat.mod_lt _ hz
    have hq2 : (7 * p + 3) % bs.length < bs.length := Nat.mod_lt _ hz
    have e1 : Int.tmod (p : Int) (bs.length : Int) = ((p % bs.length : Nat) : Int) := by rw [Int.tmod_eq_emod_of_nonneg (by omega)]; rfl
    have e2 : Int.tmod ((p : Int) * 7 + 3) (bs.length : Int) = (((7 * p + 3) % bs.length : Nat) : Int) := by rw [Int.tmod_eq_emod_of_nonneg (by omega), show (p : Int) * 7 + 3 = ((7 * p + 3 : Nat) : Int) by omega]; rfl
    have e3 : Int.tdiv (p : Int) (bs.length : Int) = ((p / bs.length : Nat) : Int) := by rw [Int.tdiv_eq_ediv_of_nonneg (by omega)]; rfl
    have e4 : p / bs.length ≤ p := Nat.div_le_self _ _
    generalize p % bs.length = q1 at *
    generalize (7 * p + 3) % bs.length = q2 at *
    generalize p / bs.length = q3 at *
    obtain ⟨x1, hx1⟩ : ∃ x, bs[q1]? = some x := ⟨_, List.getElem?_eq_getElem hq1⟩
    obtain ⟨x2, hx2⟩ : ∃ x, bs[q2]? = some x := ⟨_, List.getElem?_eq_getElem hq2⟩
    have c1 := hc _ _ hx1
    have c2 := hc _ _ hx2
    have hb1 := x1.toNat_lt
    have hb2 := x2.toNat_lt
    have V1 := Lib.hid (show IntKind.i64.wrap (x1.toNat : Int) = (x1.toNat : Int) from IntWalk.i64_in _ (by omega))
    have V2 := Lib.hid (show IntKind.i64.wrap (x2.toNat : Int) = (x2.toNat : Int) from IntWalk.i64_in _ (by omega))
    have V3 := Lib.hid (show IntKind.i64.wrap (q3 : Int) = (q3 : Int) from IntWalk.i64_in _ (by omega))
    have W1 := Lib.hid (show IntKind.i64.wrap ((p : Int) * 7) = (p : Int) * 7 from IntWalk.i64_in _ (by omega))
    have W2 := Lib.hid (show IntKind.i64.wrap ((p : Int) * 7 + 3) = (p : Int) * 7 + 3 from IntWalk.i64_in _ (by omega))
    have W3 := Lib.hid (show IntKind.i64.wrap ((x1.toNat : Int) * 131) = (x1.toNat : Int) * 131 from IntWalk.i64_in _ (by omega))
    have W4 := Lib.hid (show IntKind.i64.wrap ((x2.toNat : Int) * 1117) = (x2.toNat : Int) * 1117 from IntWalk.i64_in _ (by omega))
    have W5 := Lib.hid (show IntKind.i64.wrap ((x1.toNat : Int) * 131 + (x2.toNat : Int) * 1117) = (x1.toNat : Int) * 131 + (x2.toNat : Int) * 1117 from IntWalk.i64_in _ (by omega))
    have W6 := Lib.hid (show IntKind.i64.wrap ((p : Int) * 29) = (p : Int) * 29 from IntWalk.i64_in _ (by omega))
    have W7 := Lib.hid (show IntKind.i64.wrap ((x1.toNat : Int) * 131 + (x2.toNat : Int) * 1117 + (p : Int) * 29) = (x1.toNat : Int) * 131 + (x2.toNat : Int) * 1117 + (p : Int) * 29 from IntWalk.i64_in _ (by omega))
    have W8 := Lib.hid (show IntKind.i64.wrap ((q3 : Int) * 53) = (q3 : Int) * 53 from IntWalk.i64_in _ (by omega))
    have W9 := Lib.hid (show IntKind.i64.wrap ((x1.toNat : Int) * 131 + (x2.toNat : Int) * 1117 + (p : Int) * 29 + (q3 : Int) * 53) = (x1.toNat : Int) * 131 + (x2.toNat : Int) * 1117 + (p : Int) * 29 + (q3 : Int) * 53 from IntWalk.i64_in _ (by omega))
    clear hc hx1 hx2
    go_enter Tryz.func40, Tryz.ntmps40
    go_wp2
    refine wp_region_pt 45 (fun w' => ∃ y, w' = plus _ y) (Plan.quiet 0 (Plan.quiet 1 (Plan.quiet 2 (Plan.quiet 3 (Plan.quiet 4 (Plan.quiet 5 (Plan.quiet 6 (Plan.quiet 7 (Plan.quiet 8 (Plan.quiet 9 (Plan.quiet 10 (Plan.quiet 11 (Plan.quiet 12 (Plan.quiet 13 (Plan.quiet 14 (Plan.quiet 15 (Plan.quiet 16 (Plan.quiet 17 (Plan.quiet 18 (Plan.quiet 19 (Plan.quiet 20 (Plan.quiet 21 (Plan.quiet 22 (Plan.quiet 23 (Plan.quiet 24 (Plan.quiet 25 (Plan.quiet 26 (Plan.quiet 27 (Plan.quiet 28 (Plan.quiet 29 (Plan.quiet 30 (Plan.quiet 31 (Plan.quiet 32 (Plan.quiet 33 (Plan.quiet 34 (Plan.quiet 35 (Plan.quiet 36 (Plan.quiet 37 (Plan.quiet 38 (Plan.quiet 39 (Plan.quiet 40 (Plan.quiet 41 (Plan.quiet 42 (Plan.quiet 43 (Plan.quiet 44 (Plan.one 45 Plan.done)))))))))))))))))))))))))))))))))))))))))))))) (by kernel_rfl) (by kernel_rfl) (⟨_, drew_is_plus _⟩) ?_
    refine wpPt_val rfl rfl ?_
    apply Exists.intro
    refine ⟨fun w' hS => ?_, ?_⟩
    focus (obtain ⟨y3, rfl⟩ := hS; simp [go_sem, ↓IntWalk.iteOmega, e1, e2, e3, c1, c2, V1.out, V2.out, V3.out, W1.out, W2.out, W3.out, W4.out, W5.out, W6.out, W7.out, W8.out, W9.out] <;> first | done | exact rfl | (rw [IntWalk.i64_in _ (by omega)]; exact rfl) | trace_state)
    refine wpPt_val rfl rfl ?_
    apply Exists.intro
    refine ⟨fun w' hS => ?_, ?_⟩
    focus (obtain ⟨y3, rfl⟩ := hS; simp [go_sem, ↓IntWalk.iteOmega, e1, e2, e3, c1, c2, V1.out, V2.out, V3.out, W1.out, W2.out, W3.out, W4.out, W5.out, W6.out, W7.out, W8.out, W9.out] <;> first | done | exact rfl | (rw [IntWalk.i64_in _ (by omega)]; exact rfl) | trace_state)
    refine wpPt_val rfl rfl ?_
    apply Exists.intro
    refine ⟨fun w' hS => ?_, ?_⟩
    focus (obtain ⟨y3, rfl⟩ := hS; simp [go_sem, ↓IntWalk.iteOmega, e1, e2, e3, c1, c2, V1.out, V2.out, V3.out, W1.out, W2.out, W3.out, W4.out, W5.out, W6.out, W7.out, W8.out, W9.out] <;> first | done | exact rfl | (rw [IntWalk.i64_in _ (by omega)]; exact rfl) | trace_state)
    refine wpPt_val rfl rfl ?_
    apply Exists.intro
    refine ⟨fun w' hS => ?_, ?_⟩
    focus (obtain ⟨y3, rfl⟩ := hS; simp [go_sem, ↓IntWalk.iteOmega, e1, e2, e3, c1, c2, V1.out, V2.out, V3.out, W1.out, W2.out, W3.out, W4.out, W5.out, W6.out, W7.out, W8.out, W9.out] <;> first | done | exact rfl | (rw [IntWalk.i64_in _ (by omega)]; exact rfl) | trace_state)
    refine wpPt_val rfl rfl ?_
    apply Exists.intro
    refine ⟨fun w' hS => ?_, ?_⟩
    focus (obtain ⟨y3, rfl⟩ := hS; simp [go_sem, ↓IntWalk.iteOmega, e1, e2, e3, c1, c2, V1.out, V2.out, V3.out, W1.out, W2.out, W3.out, W4.out, W5.out, W6.out, W7.out, W8.out, W9.out] <;> first | done | exact rfl | (rw [IntWalk.i64_in _ (by omega)]; exact rfl) | trace_state)
    refine wpPt_val rfl rfl ?_
    apply Exists.intro
    refine ⟨fun w' hS => ?_, ?_⟩
    focus (obtain ⟨y3, rfl⟩ := hS; simp [go_sem, ↓IntWalk.iteOmega, e1, e2, e3, c1, c2, V1.out, V2.out, V3.out, W1.out, W2.out, W3.out, W4.out, W5.out, W6.out, W7.out, W8.out, W9.out] <;> first | done | exact rfl | (rw [IntWalk.i64_in _ (by omega)]; exact rfl) | trace_state)
    refine wpPt_val rfl rfl ?_
    apply Exists.intro
    refine ⟨fun w' hS => ?_, ?_⟩
    focus (obtain ⟨y3, rfl⟩ := hS; simp [go_sem, ↓IntWalk.iteOmega, e1, e2, e3, c1, c2, V1.out, V2.out, V3.out, W1.out, W2.out, W3.out, W4.out, W5.out, W6.out, W7.out, W8.out, W9.out] <;> first | done | exact rfl | (rw [IntWalk.i64_in _ (by omega)]; exact rfl) | trace_state)
    refine wpPt_val rfl rfl ?_
    apply Exists.intro
    refine ⟨fun w' hS => ?_, ?_⟩
    focus (obtain ⟨y3, rfl⟩ := hS; simp [go_sem, ↓IntWalk.iteOmega, e1, e2, e3, c1, c2, V1.out, V2.out, V3.out, W1.out, W2.out, W3.out, W4.out, W5.out, W6.out, W7.out, W8.out, W9.out] <;> first | done | exact rfl | (rw [IntWalk.i64_in _ (by omega)]; exact rfl) | trace_state)
    refine wpPt_val rfl rfl ?_
    apply Exists.intro
    refine ⟨fun w' hS => ?_, ?_⟩
    focus (obtain ⟨y3, rfl⟩ := hS; simp [go_sem, ↓IntWalk.iteOmega, e1, e2, e3, c1, c2, V1.out, V2.out, V3.out, W1.out, W2.out, W3.out, W4.out, W5.out, W6.out, W7.out, W8.out, W9.out] <;> first | done | exact rfl | (rw [IntWalk.i64_in _ (by omega)]; exact rfl) | trace_state)
    refine wpPt_val rfl rfl ?_
    apply Exists.intro
    refine ⟨fun w' hS => ?_, ?_⟩
    focus (obtain ⟨y3, rfl⟩ := hS; simp [go_sem, ↓IntWalk.iteOmega, e1, e2, e3, c1, c2, V1.out, V2.out, V3.out, W1.out, W2.out, W3.out, W4.out, W5.out, W6.out, W7.out, W8.out, W9.out] <;> first | done | exact rfl | (rw [IntWalk.i64_in _ (by omega)]; exact rfl) | trace_state)
    refine wpPt_val rfl rfl ?_
    apply Exists.intro
    refine ⟨fun w' hS => ?_, ?_⟩
    focus (obtain ⟨y3, rfl⟩ := hS; simp [go_sem, ↓IntWalk.iteOmega, e1, e2, e3, c1, c2, V1.out, V2.out, V3.out, W1.out, W2.out, W3.out, W4.out, W5.out, W6.out, W7.out, W8.out, W9.out] <;> first | done | exact rfl | (rw [IntWalk.i64_in _ (by omega)]; exact rfl) | trace_state)
    refine wpPt_val rfl rfl ?_
    apply Exists.intro
    refine ⟨fun w' hS => ?_, ?_⟩
    focus (obtain ⟨y3, rfl⟩ := hS; simp [go_sem, ↓IntWalk.iteOmega, e1, e2, e3, c1, c2, V1.out, V2.out, V3.out, W1.out, W2.out, W3.out, W4.out, W5.out, W6.out, W7.out, W8.out, W9.out] <;> first | done | exact rfl | (rw [IntWalk.i64_in _ (by omega)]; exact rfl) | trace_state)
    refine wpPt_val rfl rfl ?_
    apply Exists.intro
    refine ⟨fun w' hS => ?_, ?_⟩
    focus (obtain ⟨y3, rfl⟩ := hS; simp [go_sem, ↓IntWalk.iteOmega, e1, e2, e3, c1, c2, V1.out, V2.out, V3.out, W1.out, W2.out, W3.out, W4.out, W5.out, W6.out, W7.out, W8.out, W9.out] <;> first | done | exact rfl | (rw [IntWalk.i64_in _ (by omega)]; exact rfl) | trace_state)
    refine wpPt_val rfl rfl ?_
    apply Exists.intro
    refine ⟨fun w' hS => ?_, ?_⟩
    focus (obtain ⟨y3, rfl⟩ := hS; simp [go_sem, ↓IntWalk.iteOmega, e1, e2, e3, c1, c2, V1.out, V2.out, V3.out, W1.out, W2.out, W3.out, W4.out, W5.out, W6.out, W7.out, W8.out, W9.out] <;> first | done | exact rfl | (rw [IntWalk.i64_in _ (by omega)]; exact rfl) | trace_state)
    refine wpPt_val rfl rfl ?_
    apply Exists.intro
    refine ⟨fun w' hS => ?_, ?_⟩
    focus (obtain ⟨y3, rfl⟩ := hS; simp [go_sem, ↓IntWalk.iteOmega, e1, e2, e3, c1, c2, V1.out, V2.out, V3.out, W1.out, W2.out, W3.out, W4.out, W5.out, W6.out, W7.out, W8.out, W9.out] <;> first | done | exact rfl | (rw [IntWalk.i64_in _ (by omega)]; exact rfl) | trace_state)
    refine wpPt_val rfl rfl ?_
    apply Exists.intro
    refine ⟨fun w' hS => ?_, ?_⟩
    focus (obtain ⟨y3, rfl⟩ := hS; simp [go_sem, ↓IntWalk.iteOmega, e1, e2, e3, c1, c2, V1.out, V2.out, V3.out, W1.out, W2.out, W3.out, W4.out, W5.out, W6.out, W7.out, W8.out, W9.out] <;> first | done | exact rfl | (rw [IntWalk.i64_in _ (by omega)]; exact rfl) | trace_state)
    refine wpPt_val rfl rfl ?_
    apply Exists.intro
    refine ⟨fun w' hS => ?_, ?_⟩
    focus (obtain ⟨y3, rfl⟩ := hS; simp [go_sem, ↓IntWalk.iteOmega, e1, e2, e3, c1, c2, V1.out, V2.out, V3.out, W1.out, W2.out, W3.out, W4.out, W5.out, W6.out, W7.out, W8.out, W9.out] <;> first | done | exact rfl | (rw [IntWalk.i64_in _ (by omega)]; exact rfl) | trace_state)
    refine wpPt_val rfl rfl ?_
    apply Exists.intro
    refine ⟨fun w' hS => ?_, ?_⟩
    focus (obtain ⟨y3, rfl⟩ := hS; simp [go_sem, ↓IntWalk.iteOmega, e1, e2, e3, c1, c2, V1.out, V2.out, V3.out, W1.out, W2.out, W3.out, W4.out, W5.out, W6.out, W7.out, W8.out, W9.out] <;> first | done | exact rfl | (rw [IntWalk.i64_in _ (by omega)]; exact rfl) | trace_state)
    refine wpPt_val rfl rfl ?_
    apply Exists.intro
    refine ⟨fun w' hS => ?_, ?_⟩
    focus (obtain ⟨y3, rfl⟩ := hS; simp [go_sem, ↓IntWalk.iteOmega, e1, e2, e3, c1, c2, V1.out, V2.out, V3.out, W1.out, W2.out, W3.out, W4.out, W5.out, W6.out, W7.out, W8.out, W9.out] <;> first | done | exact rfl | (rw [IntWalk.i64_in _ (by omega)]; exact rfl) | trace_state)
    refine wpPt_val rfl rfl ?_
    apply Exists.intro
    refine ⟨fun w' hS => ?_, ?_⟩
    focus (obtain ⟨y3, rfl⟩ := hS; simp [go_sem, ↓IntWalk.iteOmega, e1, e2, e3, c1, c2, V1.out, V2.out, V3.out, W1.out, W2.out, W3.out, W4.out, W5.out, W6.out, W7.out, W8.out, W9.out] <;> first | done | exact rfl | (rw [IntWalk.i64_in _ (by omega)]; exact rfl) | trace_state)
    refine wpPt_val rfl rfl ?_
    apply Exists.intro
    refine ⟨fun w' hS => ?_, ?_⟩
    focus (obtain ⟨y3, rfl⟩ := hS; simp [go_sem, ↓IntWalk.iteOmega, e1, e2, e3, c1, c2, V1.out, V2.out, V3.out, W1.out, W2.out, W3.out, W4.out, W5.out, W6.out, W7.out, W8.out, W9.out] <;> first | done | exact rfl | (rw [IntWalk.i64_in _ (by omega)]; exact rfl) | trace_state)
    refine wpPt_val rfl rfl ?_
    apply Exists.intro
    refine ⟨fun w' hS => ?_, ?_⟩
    focus (obtain ⟨y3, rfl⟩ := hS; simp [go_sem, ↓IntWalk.iteOmega, e1, e2, e3, c1, c2, V1.out, V2.out, V3.out, W1.out, W2.out, W3.out, W4.out, W5.out, W6.out, W7.out, W8.out, W9.out] <;> first | done | exact rfl | (rw [IntWalk.i64_in _ (by omega)]; exact rfl) | trace_state)
    refine wpPt_val rfl rfl ?_
    apply Exists.intro
    refine ⟨fun w' hS => ?_, ?_⟩
    focus (obtain ⟨y3, rfl⟩ := hS; simp [go_sem, ↓IntWalk.iteOmega, e1, e2, e3, c1, c2, V1.out, V2.out, V3.out, W1.out, W2.out, W3.out, W4.out, W5.out, W6.out, W7.out, W8.out, W9.out] <;> first | done | exact rfl | (rw [IntWalk.i64_in _ (by omega)]; exact rfl) | trace_state)
    refine wpPt_val rfl rfl ?_
    apply Exists.intro
    refine ⟨fun w' hS => ?_, ?_⟩
    focus (obtain ⟨y3, rfl⟩ := hS; simp [go_sem, ↓IntWalk.iteOmega, e1, e2, e3, c1, c2, V1.out, V2.out, V3.out, W1.out, W2.out, W3.out, W4.out, W5.out, W6.out, W7.out, W8.out, W9.out] <;> first | done | exact rfl | (rw [IntWalk.i64_in _ (by omega)]; exact rfl) | trace_state)
    refine wpPt_val rfl rfl ?_
    apply Exists.intro
    refine ⟨fun w' hS => ?_, ?_⟩
    focus (obtain ⟨y3, rfl⟩ := hS; simp [go_sem, ↓IntWalk.iteOmega, e1, e2, e3, c1, c2, V1.out, V2.out, V3.out, W1.out, W2.out, W3.out, W4.out, W5.out, W6.out, W7.out, W8.out, W9.out] <;> first | done | exact rfl | (rw [IntWalk.i64_in _ (by omega)]; exact rfl) | trace_state)
    refine wpPt_val rfl rfl ?_
    apply Exists.intro
    refine ⟨fun w' hS => ?_, ?_⟩
    focus (obtain ⟨y3, rfl⟩ := hS; simp [go_sem, ↓IntWalk.iteOmega, e1, e2, e3, c1, c2, V1.out, V2.out, V3.out, W1.out, W2.out, W3.out, W4.out, W5.out, W6.out, W7.out, W8.out, W9.out] <;> first | done | exact rfl | (rw [IntWalk.i64_in _ (by omega)]; exact rfl) | trace_state)
    refine wpPt_val rfl rfl ?_
    apply Exists.intro
    refine ⟨fun w' hS => ?_, ?_⟩
    focus (obtain ⟨y3, rfl⟩ := hS; simp [go_sem, ↓IntWalk.iteOmega, e1, e2, e3, c1, c2, V1.out, V2.out, V3.out, W1.out, W2.out, W3.out, W4.out, W5.out, W6.out, W7.out, W8.out, W9.out] <;> first | done | exact rfl | (rw [IntWalk.i64_in _ (by omega)]; exact rfl) | trace_state)
    refine wpPt_val rfl rfl ?_
    apply Exists.intro
    refine ⟨fun w' hS => ?_, ?_⟩
    focus (obtain ⟨y3, rfl⟩ := hS; simp [go_sem, ↓IntWalk.iteOmega, e1, e2, e3, c1, c2, V1.out, V2.out, V3.out, W1.out, W2.out, W3.out, W4.out, W5.out, W6.out, W7.out, W8.out, W9.out] <;> first | done | exact rfl | (rw [IntWalk.i64_in _ (by omega)]; exact rfl) | trace_state)
    refine wpPt_val rfl rfl ?_
    apply Exists.intro
    refine ⟨fun w' hS => ?_, ?_⟩
    focus (obtain ⟨y3, rfl⟩ := hS; simp [go_sem, ↓IntWalk.iteOmega, e1, e2, e3, c1, c2, V1.out, V2.out, V3.out, W1.out, W2.out, W3.out, W4.out, W5.out, W6.out, W7.out, W8.out, W9.out] <;> first | done | exact rfl | (rw [IntWalk.i64_in _ (by omega)]; exact rfl) | trace_state)
    refine wpPt_val rfl rfl ?_
    apply Exists.intro
    refine ⟨fun w' hS => ?_, ?_⟩
    focus (obtain ⟨y3, rfl⟩ := hS; simp [go_sem, ↓IntWalk.iteOmega, e1, e2, e3, c1, c2, V1.out, V2.out, V3.out, W1.out, W2.out, W3.out, W4.out, W5.out, W6.out, W7.out, W8.out, W9.out] <;> first | done | exact rfl | (rw [IntWalk.i64_in _ (by omega)]; exact rfl) | trace_state)
    refine wpPt_val rfl rfl ?_
    apply Exists.intro
    refine ⟨fun w' hS => ?_, ?_⟩
    focus (obtain ⟨y3, rfl⟩ := hS; simp [go_sem, ↓IntWalk.iteOmega, e1, e2, e3, c1, c2, V1.out, V2.out, V3.out, W1.out, W2.out, W3.out, W4.out, W5.out, W6.out, W7.out, W8.out, W9.out] <;> first | done | exact rfl | (rw [IntWalk.i64_in _ (by omega)]; exact rfl) | trace_state)
    refine wpPt_val rfl rfl ?_
    apply Exists.intro
    refine ⟨fun w' hS => ?_, ?_⟩
    focus (obtain ⟨y3, rfl⟩ := hS; simp [go_sem, ↓IntWalk.iteOmega, e1, e2, e3, c1, c2, V1.out, V2.out, V3.out, W1.out, W2.out, W3.out, W4.out, W5.out, W6.out, W7.out, W8.out, W9.out] <;> first | done | exact rfl | (rw [IntWalk.i64_in _ (by omega)]; exact rfl) | trace_state)
    refine wpPt_val rfl rfl ?_
    apply Exists.intro
    refine ⟨fun w' hS => ?_, ?_⟩
    focus (obtain ⟨y3, rfl⟩ := hS; simp [go_sem, ↓IntWalk.iteOmega, e1, e2, e3, c1, c2, V1.out, V2.out, V3.out, W1.out, W2.out, W3.out, W4.out, W5.out, W6.out, W7.out, W8.out, W9.out] <;> first | done | exact rfl | (rw [IntWalk.i64_in _ (by omega)]; exact rfl) | trace_state)
    refine wpPt_val rfl rfl ?_
    apply Exists.intro
    refine ⟨fun w' hS => ?_, ?_⟩
    focus (obtain ⟨y3, rfl⟩ := hS; simp [go_sem, ↓IntWalk.iteOmega, e1, e2, e3, c1, c2, V1.out, V2.out, V3.out, W1.out, W2.out, W3.out, W4.out, W5.out, W6.out, W7.out, W8.out, W9.out] <;> first | done | exact rfl | (rw [IntWalk.i64_in _ (by omega)]; exact rfl) | trace_state)
    refine wpPt_val rfl rfl ?_
    apply Exists.intro
    refine ⟨fun w' hS => ?_, ?_⟩
    focus (obtain ⟨y3, rfl⟩ := hS; simp [go_sem, ↓IntWalk.iteOmega, e1, e2, e3, c1, c2, V1.out, V2.out, V3.out, W1.out, W2.out, W3.out, W4.out, W5.out, W6.out, W7.out, W8.out, W9.out] <;> first | done | exact rfl | (rw [IntWalk.i64_in _ (by omega)]; exact rfl) | trace_state)
    refine wpPt_val rfl rfl ?_
    apply Exists.intro
    refine ⟨fun w' hS => ?_, ?_⟩
    focus (obtain ⟨y3, rfl⟩ := hS; simp [go_sem, ↓IntWalk.iteOmega, e1, e2, e3, c1, c2, V1.out, V2.out, V3.out, W1.out, W2.out, W3.out, W4.out, W5.out, W6.out, W7.out, W8.out, W9.out] <;> first | done | exact rfl | (rw [IntWalk.i64_in _ (by omega)]; exact rfl) | trace_state)
    refine wpPt_val rfl rfl ?_
    apply Exists.intro
    refine ⟨fun w' hS => ?_, ?_⟩
    focus (obtain ⟨y3, rfl⟩ := hS; simp [go_sem, ↓IntWalk.iteOmega, e1, e2, e3, c1, c2, V1.out, V2.out, V3.out, W1.out, W2.out, W3.out, W4.out, W5.out, W6.out, W7.out, W8.out, W9.out] <;> first | done | exact rfl | (rw [IntWalk.i64_in _ (by omega)]; exact rfl) | trace_state)
    refine wpPt_val rfl rfl ?_
    apply Exists.intro
    refine ⟨fun w' hS => ?_, ?_⟩
    focus (obtain ⟨y3, rfl⟩ := hS; simp [go_sem, ↓IntWalk.iteOmega, e1, e2, e3, c1, c2, V1.out, V2.out, V3.out, W1.out, W2.out, W3.out, W4.out, W5.out, W6.out, W7.out, W8.out, W9.out] <;> first | done | exact rfl | (rw [IntWalk.i64_in _ (by omega)]; exact rfl) | trace_state)
    refine wpPt_val rfl rfl ?_
    apply Exists.intro
    refine ⟨fun w' hS => ?_, ?_⟩
    focus (obtain ⟨y3, rfl⟩ := hS; simp [go_sem, ↓IntWalk.iteOmega, e1, e2, e3, c1, c2, V1.out, V2.out, V3.out, W1.out, W2.out, W3.out, W4.out, W5.out, W6.out, W7.out, W8.out, W9.out] <;> first | done | exact rfl | (rw [IntWalk.i64_in _ (by omega)]; exact rfl) | trace_state)
    refine wpPt_val rfl rfl ?_
    apply Exists.intro
    refine ⟨fun w' hS => ?_, ?_⟩
    focus (obtain ⟨y3, rfl⟩ := hS; simp [go_sem, ↓IntWalk.iteOmega, e1, e2, e3, c1, c2, V1.out, V2.out, V3.out, W1.out, W2.out, W3.out, W4.out, W5.out, W6.out, W7.out, W8.out, W9.out] <;> first | done | exact rfl | (rw [IntWalk.i64_in _ (by omega)]; exact rfl) | trace_state)
    refine wpPt_val rfl rfl ?_
    apply Exists.intro
    refine ⟨fun w' hS => ?_, ?_⟩
    focus (obtain ⟨y3, rfl⟩ := hS; simp [go_sem, ↓IntWalk.iteOmega, e1, e2, e3, c1, c2, V1.out, V2.out, V3.out, W1.out, W2.out, W3.out, W4.out, W5.out, W6.out, W7.out, W8.out, W9.out] <;> first | done | exact rfl | (rw [IntWalk.i64_in _ (by omega)]; exact rfl) | trace_state)
    refine wpPt_val rfl rfl ?_
    apply Exists.intro
    refine ⟨fun w' hS => ?_, ?_⟩
    focus (obtain ⟨y3, rfl⟩ := hS; simp [go_sem, ↓IntWalk.iteOmega, e1, e2, e3, c1, c2, V1.out, V2.out, V3.out, W1.out, W2.out, W3.out, W4.out, W5.out, W6.out, W7.out, W8.out, W9.out] <;> first | done | exact rfl | (rw [IntWalk.i64_in _ (by omega)]; exact rfl) | trace_state)
    refine wpPt_val rfl rfl ?_
    apply Exists.intro
    refine ⟨fun w' hS => ?_, ?_⟩
    focus (obtain ⟨y3, rfl⟩ := hS; simp [go_sem, ↓IntWalk.iteOmega, e1, e2, e3, c1, c2, V1.out, V2.out, V3.out, W1.out, W2.out, W3.out, W4.out, W5.out, W6.out, W7.out, W8.out, W9.out] <;> first | done | exact rfl | (rw [IntWalk.i64_in _ (by omega)]; exact rfl) | trace_state)
    refine wpPt_val rfl rfl ?_
    apply Exists.intro
    refine ⟨fun w' hS => ?_, ?_⟩
    focus (obtain ⟨y3, rfl⟩ := hS; simp [go_sem, ↓IntWalk.iteOmega, e1, e2, e3, c1, c2, V1.out, V2.out, V3.out, W1.out, W2.out, W3.out, W4.out, W5.out, W6.out, W7.out, W8.out, W9.out] <;> first | done | exact rfl | (rw [IntWalk.i64_in _ (by omega)]; exact rfl) | trace_state)
    refine wpPt_val rfl rfl ?_
    apply Exists.intro
    refine ⟨fun w' hS => ?_, ?_⟩
    focus (obtain ⟨y3, rfl⟩ := hS; simp [go_sem, ↓IntWalk.iteOmega, e1, e2, e3, c1, c2, V1.out, V2.out, V3.out, W1.out, W2.out, W3.out, W4.out, W5.out, W6.out, W7.out, W8.out, W9.out] <;> first | done | exact rfl | (rw [IntWalk.i64_in _ (by omega)]; exact rfl) | trace_state)
    refine wpPt_one rfl rfl (fun K hK => ?_)
    go_simp
    refine hK _ _ (fun hkn => absurd hkn (by decide)) ?_
    clear hK K
    refine NoPanic.normal ?_
    obtain ⟨x, hx⟩ : ∃ x, (x1.toNat : Int) * 131 + (x2.toNat : Int) * 1117 + (p : Int) * 29 + (q3 : Int) * 53 = x := ⟨_, rfl⟩
    rw [hx]
    have hx0 : 0 ≤ x := by omega
    have hx1 : x < 2147483648 := by omega
    have hxd := xor_bd (x := x) (y := x / 64) hx0 hx1 (by omega) (by omega)
    have V4 : Int.tdiv x 64 = x / 64 := Int.tdiv_eq_ediv_of_nonneg hx0
    obtain ⟨z, hz'⟩ : ∃ z, bits .xor .i64 x (x / 64) = z := ⟨_, rfl⟩
    rw [hz'] at hxd
    have h1 := Int.emod_nonneg z (show m ≠ 0 by omega)
    have h2 := Int.emod_lt_of_pos z (show 0 < m by omega)
    clear hx W1 W2 W3 W4 W5 W6 W7 W8 W9 V1 V2 V3
    go_wp2
    go_ret
    trace_state
    exact ⟨z % m, rfl, h1, .inl h2, (HN.out ⟨#[], _⟩).1, (HN.out ⟨#[], _⟩).2⟩

end Go.Proofs.YtmddcbebaijjkaaGreatDoor

/- Draws: the walks of l9Open, l1Bytes. -/
namespace Go.Proofs.YtmddcbebaijjkaaGreatDoor
open Go.RowKit
set_option linter.unusedVariables false
set_option linter.unusedSimpArgs false

/-- a new source of draws -/
def RetSrc (w : World) (e : Ending) (w' : World) : Prop := ∃ B : Nat, e = .returned (.pointer (some ⟨B, 0, none⟩)) ∧ Dsrc w' B 0 ∧ w.heap.size ≤ B ∧ ∃ x, w' = plus w x

theorem rd_lt0 {α : Type} {E : Enc α} {w : World} {a : Option Addr} {cap : Nat} {xs : List α} (h : Rd E w a cap xs) : cap = 0 ∨ ∀ X, a = some X → X.block < w.heap.size := by
  obtain ⟨h1, h2, h3⟩ := h
  rcases h3 with h3 | ⟨b, off, rfl, hb, hc⟩
  · exact .inl h3
  · exact .inr fun X hX => by cases hX; exact hb

set_option maxHeartbeats 1000000 in
theorem l9Open_any (a : Option Addr) (cap : Nat) (bs : List UInt8) (w : World) (hr : Rd encB w a cap bs) :
    Calls Tryz.prog 38 #[.slice a bs.length cap] w (RetSrc w) := by
  have hl := hr.1
  have hc := hr.2.1
  have h0 := rd_lt0 hr
  rcases dec (2000 < bs.length) with ⟨hm, v1⟩ | ⟨hm, v1⟩
  · have ht := rd_take hr 2000
    have hlt : (bs.take 2000).length = 2000 := by rw [List.length_take]; omega
    go_enter Tryz.func38, Tryz.ntmps38
    go_wp2
    go_ret
    refine ⟨w.heap.size, rfl, ⟨a, cap, bs.take 2000, 0, ?_, ht.alloc _, h0, by omega, Nat.le_refl _⟩, Nat.le_refl _, (by repeat (first | exact More.refl _ | apply More.plus | apply More.alloc | apply More.drew | apply More.drewN))⟩
    rw [hlt]
    exact push_new _ _ _ rfl
  · go_enter Tryz.func38, Tryz.ntmps38
    go_wp2
    go_ret
    exact ⟨w.heap.size, rfl, ⟨a, cap, bs, 0, push_new _ _ _ rfl, hr.alloc _, h0, by omega, Nat.le_refl _⟩, Nat.le_refl _, (by repeat (first | exact More.refl _ | apply More.plus | apply More.alloc | apply More.drew | apply More.drewN))⟩

theorem push_old (w : World) (o : Obj) {n : Nat} (h : n < w.heap.size) : (w.alloc o).heap[n]? = w.heap[n]? := by rw [push_at, if_pos h]

/-- a draw of a string -/
def RetDs (w : World) (B n k : Nat) (e : Ending) (w' : World) : Prop := ∃ s : ByteArray, e = .returned (.string s) ∧ s.size ≤ k ∧ Dsrc w' B n ∧ Grew (some ⟨B, 0, none⟩) w w'

set_option maxRecDepth 100000 in
set_option maxHeartbeats 2000000 in
theorem l1Bytes_any (B n k : Nat) (w : World) (hd : Dsrc w B n) (hn : n ≤ 900000) (hk : k ≤ 1000) :
    Calls Tryz.prog 83 #[.pointer (some ⟨B, 0, none⟩), .int .i64 k] w (RetDs w B (n + 1 + k) k) := by
  have HD := Lib.hid hd
  have hB := hd.B_lt
  clear hd
  obtain ⟨i0, hi, hz0, hz1, hz2⟩ := info_parts infoByte
  have hmk : ∀ W : World, (Instr.makeSlice 34 (.int .i64 0) (.int .i64 (k : Int))).run Tryz.prog W = .ok (.slice (some ⟨W.heap.size, 0, none⟩) 0 k) (W.alloc (.cells (madeCells (Value.int .u8 0).cells k) 5)) := by
    intro W
    have := run_make (P := Tryz.prog) (w := W) 34 5 i0 _ Tryz.underlying34 hi hz0 .i64 .i64 (0 : Int) (k : Int) (by omega) (by omega) (by rw [hz2]; omega) (by omega)
    rw [hz1] at this
    simpa using this
  go_enter Tryz.func83, Tryz.ntmps83
  go_wp2_with (go_at_call 40; refine (pick_any B n _ _ (HD.out.alloc _) (by omega)).mono ?_; rintro e w5 ⟨v, rfl, hv0, hv1, hd5, hg5⟩)
  obtain ⟨v, rfl⟩ : ∃ v' : Nat, v = v' := ⟨v.toNat, by omega⟩
  have HO0 := Lib.hid (own_grew (Own.newAt (w := w) (E := encB) (xs := []) (cap := k) (e := 5) (lo := w.heap.size) rfl (Nat.le_refl _) (by simp [size_madeCells, encB]) (row_of encB (madeCells (Value.int .u8 0).cells k) _ (fun i x h => by simp at h)) (by simp) (by omega)) hg5 (fun X hX Y hY e => by cases hX; cases hY; simp at e; omega))
  have HD5 := Lib.hid hd5
  have HG5 := Lib.hid (grew_trans (grew_alloc (grew_refl _ _) _) hg5)
  have hsz5 := HG5.out.size
  clear hd5 hg5
  go_loopw [5, 6] (fun t q wr => ∃ (j : Nat) (ys : List UInt8) (A : Option Addr) (c : Nat), j ≤ v ∧ q = .int .i64 j ∧ t = .slice A ys.length c ∧ ys.length + j = v ∧ Own encB 5 wr A c ys w.heap.size ∧ Dsrc wr B (n + 1 + ys.length) ∧ Grew (some ⟨B, 0, none⟩) w wr) (fun _ q _ => (intOf q).toNat)
  case atStart => exact ⟨v, [], _, k, Nat.le_refl _, rfl, rfl, by simp, HO0.out, HD5.out, HG5.out⟩
  case round =>
    obtain ⟨j, ys, A, c, hj, rfl, rfl, hys, hown, hd, hg⟩ := hrel
    have HO := Lib.hid hown
    have HDR := Lib.hid hd
    have HG := Lib.hid hg
    have hsz := hg.size
    have hAlo := own_lo hown
    clear hown hd hg
    rcases dec (0 < j) with ⟨hlt, v1⟩ | ⟨hlt, v1⟩
    · go_wp2_with fail
      refine (pick_any B _ _ _ HDR.out (by omega)).mono ?_
      rintro e w6 ⟨z, rfl, hz3, hz4, hd6, hg6⟩
      have hz5 : z ≤ 255 := by omega
      have HO6 := Lib.hid (own_grew HO.out hg6 (fun X hX Y hY e => by
        cases hY
        have h9 := hAlo X hX
        have e2 : B = X.block := e
        omega))
      have HD6 := Lib.hid hd6
      have HG6 := Lib.hid (grew_trans HG.out hg6)
      have z6 := hg6.size
      clear hd6 hg6
      go_wp2_with (at_builtin; refine wpList_append_at encB _ _ _ _ i0 _ 1 rfl rfl Tryz.underlying34 hi hz0 hz1 hz2 rfl (by decide) ys A c w.heap.size (by repeat (first | (with_reducible exact HO6.out) | (with_reducible apply own_seq) | (with_reducible apply own_draw) | (with_reducible apply Own.plus) | (with_reducible apply Own.alloc) | (with_reducible apply Own.drew) | (with_reducible apply Own.drewN))) rfl [UInt8.ofNat z.toNat] _ 0 1 (one_cells _ _ z hz3 hz5 (by simp)) rfl (by first | omega | rfl | (simp <;> omega) | (simp only [List.length_cons, List.length_nil, plus_size, World.size_alloc]; omega)) (by first | omega | rfl | (simp <;> omega) | (simp only [List.length_cons, List.length_nil, plus_size, World.size_alloc]; omega)) (by simp <;> omega) ?_; intro A7 c7 w7 hw7 hg7 hx7; have HO7 := Lib.hid hw7; have HD7 := Lib.hid (Dsrc.grew (HD6.out.alloc (.cells #[.int .u8 z] 5)) hg7 (fun X hX => by have := hAlo X hX; omega)); have HG7 := Lib.hid (show Grew (some ⟨B, 0, none⟩) w w7 from ⟨hg7.os.trans HG6.out.os, hg7.tape.trans HG6.out.tape, hg7.output.trans HG6.out.output, by have := hg7.size; simp at this; omega, fun q hq ha => (hg7.block q (by simp; omega) (fun X hX e => by have := hAlo X hX; omega)).trans ((push_old _ _ (by omega)).trans (HG6.out.block q hq ha))⟩); clear hw7 hg7 hx7)
      go_roundw
      case rel => exact ⟨j - 1, ys ++ [UInt8.ofNat z.toNat], A7, c7, by omega, int_val (by omega), by simp, by simp; omega, HO7.out, HD7.out.mono (by simp; omega), HG7.out⟩
      case measure => simp [intOf]; omega
    · obtain rfl : j = 0 := by omega
      have hcv := run_str_own (P := Tryz.prog) (W := wr) Tryz.underlying34 Tryz.underlying5 Tryz.underlying9 HO.out
      go_wp2
      go_ret
      exact ⟨bstr ys, rfl, by rw [bstr_size]; omega, HDR.out.mono (by omega), HG.out⟩

end Go.Proofs.YtmddcbebaijjkaaGreatDoor

/- Draws: what a draw leaves of the world; num, l1Some. -/
namespace Go.Proofs.YtmddcbebaijjkaaGreatDoor
open Go.RowKit
set_option linter.unusedVariables false
set_option linter.unusedSimpArgs false

theorem grew_form {w w' : World} {B : Nat} {ob : Obj} (h : Grew (some ⟨B, 0, none⟩) w w') (hob : w'.heap[B]? = some ob) (hB : B < w.heap.size) : ∃ x, w' = plus (patch w B ob) x := by
  refine ⟨⟨w'.heap.extract w.heap.size w'.heap.size, w'.drawn⟩, world_ext (fun k => ?_) h.tape rfl h.os h.output⟩
  show w'.heap[k]? = ((patch w B ob).heap ++ w'.heap.extract w.heap.size w'.heap.size)[k]?
  rw [Array.getElem?_append, patch_size]
  have hz := h.size
  by_cases hk : k < w.heap.size
  · rw [if_pos hk]
    by_cases hkB : k = B
    · subst hkB
      rw [hob, patch_at _ _ _ hk]
    · rw [patch_other _ _ _ hkB]
      exact h.block k hk fun A hA e => by cases hA; exact hkB e.symm
  · rw [if_neg hk, Array.getElem?_extract]
    by_cases hk2 : k < w'.heap.size
    · rw [if_pos (by omega), show w.heap.size + (k - w.heap.size) = k by omega]
    · rw [if_neg (by omega)]; exact Array.getElem?_eq_none (by omega)

/-- behind draws: the source goes on, its block has turned, and blocks are added -/
def Drn (w : World) (B n : Nat) (w' : World) : Prop := Dsrc w' B n ∧ ∃ cur x, w' = plus (patch w B (.cells cur 100)) x

theorem drn_of {w w' : World} {B n : Nat} (hd : Dsrc w' B n) (hg : Grew (some ⟨B, 0, none⟩) w w') (hB : B < w.heap.size) : Drn w B n w' := by
  have hd2 := hd
  obtain ⟨ba, bc, bs, p, hb, _⟩ := hd
  obtain ⟨x, hx⟩ := grew_form hg hb hB
  exact ⟨hd2, _, x, hx⟩

theorem grew_pat {w w' : World} {B : Nat} (h : Grew (some ⟨B, 0, none⟩) w w') (o : Obj) : Grew (some ⟨B, 0, none⟩) w (patch w' B o) := grew_trans h (grew_patch w' B o)

theorem Drn.grew {w w' : World} {B n : Nat} (h : Drn w B n w') : Grew (some ⟨B, 0, none⟩) w w' := by
  obtain ⟨_, cur, x, rfl⟩ := h
  exact grew_plus (grew_patch _ _ _) _

theorem pick_d (B n : Nat) (m : Int) (w : World) (hd : Dsrc w B n) (hn : n ≤ 1000000) :
    Calls Tryz.prog 40 #[.pointer (some ⟨B, 0, none⟩), .int .i64 m] w (fun e w' => ∃ v : Nat, e = .returned (.int .i64 v) ∧ ((v : Int) < m ∨ v = 0) ∧ Drn w B (n + 1) w') := by
  refine (pick_any B n m w hd hn).mono ?_
  rintro e w' ⟨v, rfl, h0, h1, h2, h3⟩
  obtain ⟨v, rfl⟩ : ∃ v' : Nat, v = v' := ⟨v.toNat, by omega⟩
  exact ⟨v, rfl, by omega, drn_of h2 h3 hd.B_lt⟩

theorem rdN_open {w : World} {a : Option Addr} {cap : Nat} {xs : List Int} (h : Rd encI w a cap xs) (h0 : 0 < xs.length) : xs.length ≤ cap ∧ cap ≤ 9223372036854775807 ∧ ∃ b off, a = some ⟨b, off, none⟩ ∧ b < w.heap.size ∧
    ∀ i x, xs[i]? = some x → w.cell? ⟨b, off + i, none⟩ = some (.int .i64 x) := by
  obtain ⟨h1, h2, h3⟩ := h
  refine ⟨h1, h2, ?_⟩
  rcases h3 with h3 | ⟨b, off, rfl, hb, hc⟩
  · omega
  · refine ⟨b, off, rfl, hb, fun i x hx => ?_⟩
    have := hc (i * 1 + 0) _ (flat_get encI xs i x hx 0 (by decide))
    simpa using this

/-- a list of numbers, spelled out -/
theorem rd_lit (xs : List Int) (W : World) (e : TypeId) (cur : Array Value) (b : Nat) (hb : b = W.heap.size) (h : cur = (xs.map (Value.int .i64)).toArray) (hx : xs.length ≤ 1000) : Rd encI (W.alloc (.cells cur e)) (some ⟨b, 0, none⟩) xs.length xs := by
  subst h hb
  refine Rd.of_row (push_new _ _ _ rfl) ?_ (Nat.le_refl _) (by omega)
  exact row_of encI _ _ fun i x hx j hj => by
    obtain rfl : j = 0 := by have : j < 1 := hj; omega
    have e1 : i * encI.sz + 0 = i := by show i * 1 + 0 = i; omega
    rw [e1]
    simp [hx]
    rfl


set_option maxRecDepth 100000 in
set_option maxHeartbeats 2000000 in
theorem num_d (B n : Nat) (w : World) (hd : Dsrc w B n) (hn : n ≤ 1000000) (la : Option Addr) (lcap : Nat) (xs : List Int) (hr : Rd encI w la lcap xs) (hla : ∀ X, la = some X → X.block ≠ B) (h0 : 0 < xs.length) :
    Calls Tryz.prog 42 #[.pointer (some ⟨B, 0, none⟩), .slice la xs.length lcap] w (fun e w' => ∃ v, e = .returned (.int .i64 v) ∧ v ∈ xs ∧ Drn w B (n + 1) w') := by
  obtain ⟨h1, h2, b, off, rfl, hb, hc⟩ := rdN_open hr h0
  have hne : b ≠ B := hla _ rfl
  have hB := hd.B_lt
  have HD := Lib.hid hd
  have HC := Lib.hid hc
  clear hd hr hla hc
  go_enter Tryz.func42, Tryz.ntmps42
  go_wp2_with fail
  refine (pick_d B n _ _ HD.out hn).mono ?_
  rintro e w' ⟨v, rfl, hv, hdn⟩
  have HG := Lib.hid hdn
  obtain ⟨_, cur, x, rfl⟩ := hdn
  have hvl : v < xs.length := by omega
  obtain ⟨z, hz⟩ : ∃ z, xs[v]? = some z := ⟨_, List.getElem?_eq_getElem hvl⟩
  have c1 := HC.out v z hz
  have hm := List.mem_of_getElem? hz
  clear hz
  go_wp2_with fail
  go_ret
  exact ⟨z, rfl, hm, HG.out⟩

/-- two worlds that are the same below L -/
def SameL (L : Nat) (w1 w2 : World) : Prop := w1.heap.size = w2.heap.size ∧ ∀ k, k < L → w1.heap[k]? = w2.heap[k]?

theorem sl_refl (L : Nat) (w : World) : SameL L w w := ⟨rfl, fun _ _ => rfl⟩

theorem sl_alloc2 {L : Nat} {w1 w2 : World} (h : SameL L w1 w2) (hL : L ≤ w1.heap.size) (o o' : Obj) : SameL L (w1.alloc o) (w2.alloc o') := ⟨by simp [h.1], fun k hk => by
  have := h.1
  rw [push_at, push_at, if_pos (by omega), if_pos (by omega)]
  exact h.2 k hk⟩

theorem sl_plus {L : Nat} {w1 w2 : World} (h : SameL L w1 w2) (x : Ext) : SameL L (plus w1 x) (plus w2 x) := ⟨by simp [h.1], fun k hk => by
  show (w1.heap ++ x.os)[k]? = (w2.heap ++ x.os)[k]?
  rw [Array.getElem?_append, Array.getElem?_append, h.1, h.2 k hk]⟩

theorem sl_drew {L : Nat} {w1 w2 : World} (h : SameL L w1 w2) : SameL L w1.drew w2.drew := h

theorem sl_patch {L : Nat} {w1 w2 : World} (h : SameL L w1 w2) (b : Nat) (o : Obj) : SameL L (patch w1 b o) (patch w2 b o) := ⟨by simp [h.1], fun k hk => by
  rw [patch_heap, patch_heap, h.1, h.2 k hk]⟩

theorem Dsrc.sl {L : Nat} {w1 w2 : World} {B n : Nat} (h : Dsrc w1 B n) (hs : SameL L w1 w2) (hL : B < L) : Dsrc w2 B n :=
  h.of_block (fun k hk _ => (hs.2 k (by omega)).symm) (by rw [hs.1]; exact Nat.le_refl _)

set_option maxRecDepth 100000 in
set_option maxHeartbeats 4000000 in
theorem l1Some_d (B n : Nat) (w : World) (hd : Dsrc w B n) (hn : n ≤ 900000) :
    Calls Tryz.prog 111 #[.pointer (some ⟨B, 0, none⟩)] w (fun e w' => ∃ o l m : Int, e = .returned (.agg #[.int .i64 o, .int .i64 l, .int .i64 m]) ∧ sv o l m = true ∧ Drn w B (n + 5) w') := by
  have hB := hd.B_lt
  have HD := Lib.hid hd
  clear hd
  go_enter Tryz.func111, Tryz.ntmps111
  go_wp2_with fail
  refine (num_d B n _ (by repeat (first | (with_reducible exact HD.out) | (with_reducible apply dsrc_seq) | (with_reducible apply dsrc_draw) | (with_reducible apply Dsrc.plus) | (with_reducible apply Dsrc.alloc) | (with_reducible apply Dsrc.drew))) (by omega) _ _ [2, 3, 2, 1, 8, 5] (by exact rd_lit _ _ _ _ _ (by simp <;> omega) rfl (by decide)) (fun X hX => by cases hX; simp <;> omega) (by decide)).mono ?_
  rintro e w' ⟨v, rfl, hv, hdn⟩
  obtain ⟨hd1, cur1, x1, rfl⟩ := hdn
  have HD1 := Lib.hid hd1
  clear hd1
  have hv1 : 1 ≤ v ∧ v ≤ 8 := by simp at hv; omega
  clear hv
  go_wp2_with fail
  refine (pick_d B (n + 1) _ _ (by repeat (first | (with_reducible exact HD1.out) | (with_reducible apply dsrc_seq) | (with_reducible apply dsrc_draw) | (with_reducible apply Dsrc.plus) | (with_reducible apply Dsrc.alloc) | (with_reducible apply Dsrc.drew))) (by omega)).mono ?_
  rintro e w' ⟨v2, rfl, hv2, hdn⟩
  obtain ⟨hd2, cur2, x2, rfl⟩ := hdn
  have HD2 := Lib.hid hd2
  clear hd2
  go_wp2_with fail
  refine (pick_d B (n + 2) _ _ (by repeat (first | (with_reducible exact HD2.out) | (with_reducible apply dsrc_seq) | (with_reducible apply dsrc_draw) | (with_reducible apply Dsrc.plus) | (with_reducible apply Dsrc.alloc) | (with_reducible apply Dsrc.drew))) (by omega)).mono ?_
  rintro e w' ⟨v3, rfl, hv3, hdn⟩
  obtain ⟨hd3, cur3, x3, rfl⟩ := hdn
  have HD3 := Lib.hid hd3
  clear hd3
  rcases Nat.eq_zero_or_pos v3 with rfl | hp
  · go_wp2_with fail
    refine (pick_d B (n + 3) _ _ (by repeat (first | (with_reducible exact HD3.out) | (with_reducible apply dsrc_seq) | (with_reducible apply dsrc_draw) | (with_reducible apply Dsrc.plus) | (with_reducible apply Dsrc.alloc) | (with_reducible apply Dsrc.drew))) (by omega)).mono ?_
    rintro e w' ⟨v4, rfl, hv4, hdn⟩
    obtain ⟨hd4, cur4, x4, rfl⟩ := hdn
    have HD4 := Lib.hid hd4
    clear hd4
    go_wp2_with fail
    refine (pick_d B (n + 4) _ _ (by repeat (first | (with_reducible exact HD4.out) | (with_reducible apply dsrc_seq) | (with_reducible apply dsrc_draw) | (with_reducible apply Dsrc.plus) | (with_reducible apply Dsrc.alloc) | (with_reducible apply Dsrc.drew))) (by omega)).mono ?_
    rintro e w' ⟨v5, rfl, hv5, hdn⟩
    obtain ⟨hd5, cur5, x5, rfl⟩ := hdn
    have HD5 := Lib.hid hd5
    clear hd5
    go_wp2_with fail
    all_goals exact bodyPost_ret (v := .agg #[.int .i64 v5, .int .i64 v, .int .i64 (min (v + 2 + v4) 10)]) (by simp [results, Tryz.results111, go_sem, ↓IntWalk.iteOmega]) rfl ⟨_, _, _, rfl, sv_iff.2 (by omega), drn_of (HD5.out.sl (by repeat (first | (with_reducible exact sl_refl _ _) | (with_reducible apply sl_plus) | (with_reducible apply sl_patch) | (with_reducible apply sl_drew) | (with_reducible refine sl_alloc2 ?_ (by simp <;> omega) _ _))) hB) (by repeat (first | (with_reducible exact grew_refl _ _) | (with_reducible apply grew_plus) | (with_reducible apply grew_alloc) | (with_reducible apply grew_drew) | (with_reducible apply grew_pat))) hB⟩
  · have v0 : ((v3 : Int) == 0) = false := by simp; omega
    go_wp2_with fail
    refine (pick_d B (n + 3) _ _ (by repeat (first | (with_reducible exact HD3.out) | (with_reducible apply dsrc_seq) | (with_reducible apply dsrc_draw) | (with_reducible apply Dsrc.plus) | (with_reducible apply Dsrc.alloc) | (with_reducible apply Dsrc.drew))) (by omega)).mono ?_
    rintro e w' ⟨v4, rfl, hv4, hdn⟩
    obtain ⟨hd4, cur4, x4, rfl⟩ := hdn
    have HD4 := Lib.hid hd4
    clear hd4
    go_wp2_with fail
    all_goals exact bodyPost_ret (v := .agg #[.int .i64 v4, .int .i64 v, .int .i64 (v + 2 + v2)]) (by simp [results, Tryz.results111, go_sem, ↓IntWalk.iteOmega]) rfl ⟨_, _, _, rfl, sv_iff.2 (by omega), drn_of ((HD4.out.mono (by omega)).sl (by repeat (first | (with_reducible exact sl_refl _ _) | (with_reducible apply sl_plus) | (with_reducible apply sl_patch) | (with_reducible apply sl_drew) | (with_reducible refine sl_alloc2 ?_ (by simp <;> omega) _ _))) hB) (by repeat (first | (with_reducible exact grew_refl _ _) | (with_reducible apply grew_plus) | (with_reducible apply grew_alloc) | (with_reducible apply grew_drew) | (with_reducible apply grew_pat))) hB⟩

/-- l1Bad: whatever setting -/
def RetSd (w : World) (B n : Nat) (e : Ending) (w' : World) : Prop := ∃ o l m : Int, e = .returned (.agg #[.int .i64 o, .int .i64 l, .int .i64 m]) ∧ Drn w B n w'

set_option maxRecDepth 100000 in
set_option maxHeartbeats 4000000 in
theorem l1Bad_d (B n : Nat) (o l m : Int) (w : World) (hd : Dsrc w B n) (hn : n ≤ 900000) (hl0 : 0 ≤ l) (hl1 : l ≤ 100) :
    Calls Tryz.prog 126 #[.pointer (some ⟨B, 0, none⟩), .agg #[.int .i64 o, .int .i64 l, .int .i64 m]] w (RetSd w B (n + 2)) := by
  have hB := hd.B_lt
  have HD := Lib.hid hd
  clear hd
  go_enter Tryz.func126, Tryz.ntmps126
  go_wp2_with fail
  refine (pick_d B n _ _ (by repeat (first | (with_reducible exact HD.out) | (with_reducible apply dsrc_seq) | (with_reducible apply dsrc_draw) | (with_reducible apply Dsrc.plus) | (with_reducible apply Dsrc.alloc) | (with_reducible apply Dsrc.drew))) (by omega)).mono ?_
  rintro e w' ⟨v, rfl, hv, hdn⟩
  obtain ⟨hd1, cur1, x1, rfl⟩ := hdn
  have HD1 := Lib.hid hd1
  clear hd1
  rcases (by omega : v = 0 ∨ v = 1 ∨ v = 2 ∨ 2 < v) with rfl | rfl | rfl | hv2
  · go_wp2_with fail
    refine (num_d B (n + 1) _ (by repeat (first | (with_reducible exact HD1.out) | (with_reducible apply dsrc_seq) | (with_reducible apply dsrc_draw) | (with_reducible apply Dsrc.plus) | (with_reducible apply Dsrc.alloc) | (with_reducible apply Dsrc.drew))) (by omega) _ _ [-1, 2] (by exact rd_lit _ _ _ _ _ (by simp <;> omega) rfl (by decide)) (fun X hX => by cases hX; simp <;> omega) (by decide)).mono ?_
    rintro e w' ⟨z, rfl, hz, hdn⟩
    obtain ⟨hd2, cur2, x2, rfl⟩ := hdn
    have HD2 := Lib.hid hd2
    clear hd2
    clear hz
    go_wp2_with fail
    all_goals exact bodyPost_ret (v := .agg #[.int .i64 z, .int .i64 l, .int .i64 m]) (by simp [results, Tryz.results126, go_sem, ↓IntWalk.iteOmega]) rfl ⟨_, _, _, rfl, drn_of (HD2.out.sl (by repeat (first | (with_reducible exact sl_refl _ _) | (with_reducible apply sl_plus) | (with_reducible apply sl_patch) | (with_reducible apply sl_drew) | (with_reducible refine sl_alloc2 ?_ (by simp <;> omega) _ _))) hB) (by repeat (first | (with_reducible exact grew_refl _ _) | (with_reducible apply grew_plus) | (with_reducible apply grew_alloc) | (with_reducible apply grew_drew) | (with_reducible apply grew_pat))) hB⟩
  · go_wp2_with fail
    refine (num_d B (n + 1) _ (by repeat (first | (with_reducible exact HD1.out) | (with_reducible apply dsrc_seq) | (with_reducible apply dsrc_draw) | (with_reducible apply Dsrc.plus) | (with_reducible apply Dsrc.alloc) | (with_reducible apply Dsrc.drew))) (by omega) _ _ [0, 9, -1, 9223372036854775807] (by exact rd_lit _ _ _ _ _ (by simp <;> omega) rfl (by decide)) (fun X hX => by cases hX; simp <;> omega) (by decide)).mono ?_
    rintro e w' ⟨z, rfl, hz, hdn⟩
    obtain ⟨hd2, cur2, x2, rfl⟩ := hdn
    have HD2 := Lib.hid hd2
    clear hd2
    clear hz
    go_wp2_with fail
    all_goals exact bodyPost_ret (v := .agg #[.int .i64 o, .int .i64 z, .int .i64 m]) (by simp [results, Tryz.results126, go_sem, ↓IntWalk.iteOmega]) rfl ⟨_, _, _, rfl, drn_of (HD2.out.sl (by repeat (first | (with_reducible exact sl_refl _ _) | (with_reducible apply sl_plus) | (with_reducible apply sl_patch) | (with_reducible apply sl_drew) | (with_reducible refine sl_alloc2 ?_ (by simp <;> omega) _ _))) hB) (by repeat (first | (with_reducible exact grew_refl _ _) | (with_reducible apply grew_plus) | (with_reducible apply grew_alloc) | (with_reducible apply grew_drew) | (with_reducible apply grew_pat))) hB⟩
  · go_wp2_with fail
    refine (num_d B (n + 1) _ (by repeat (first | (with_reducible exact HD1.out) | (with_reducible apply dsrc_seq) | (with_reducible apply dsrc_draw) | (with_reducible apply Dsrc.plus) | (with_reducible apply Dsrc.alloc) | (with_reducible apply Dsrc.drew))) (by omega) _ _ [l + 1, 11, -1, -9223372036854775808] (by exact rd_lit _ _ _ _ _ (by simp <;> omega) rfl (by simp)) (fun X hX => by cases hX; simp <;> omega) (by simp)).mono ?_
    rintro e w' ⟨z, rfl, hz, hdn⟩
    obtain ⟨hd2, cur2, x2, rfl⟩ := hdn
    have HD2 := Lib.hid hd2
    clear hd2
    clear hz
    go_wp2_with fail
    all_goals exact bodyPost_ret (v := .agg #[.int .i64 o, .int .i64 l, .int .i64 z]) (by simp [results, Tryz.results126, go_sem, ↓IntWalk.iteOmega]) rfl ⟨_, _, _, rfl, drn_of (HD2.out.sl (by repeat (first | (with_reducible exact sl_refl _ _) | (with_reducible apply sl_plus) | (with_reducible apply sl_patch) | (with_reducible apply sl_drew) | (with_reducible refine sl_alloc2 ?_ (by simp <;> omega) _ _))) hB) (by repeat (first | (with_reducible exact grew_refl _ _) | (with_reducible apply grew_plus) | (with_reducible apply grew_alloc) | (with_reducible apply grew_drew) | (with_reducible apply grew_pat))) hB⟩
  · have e0 : ((v : Int) == 0) = false := by simp; omega
    have e1 : ((v : Int) == 1) = false := by simp; omega
    have e2 : ((v : Int) == 2) = false := by simp; omega
    go_wp2_with fail
    all_goals exact bodyPost_ret (v := .agg #[.int .i64 o, .int .i64 l, .int .i64 m]) (by simp [results, Tryz.results126, go_sem, ↓IntWalk.iteOmega]) rfl ⟨_, _, _, rfl, drn_of ((HD1.out.mono (by omega)).sl (by repeat (first | (with_reducible exact sl_refl _ _) | (with_reducible apply sl_plus) | (with_reducible apply sl_patch) | (with_reducible apply sl_drew) | (with_reducible refine sl_alloc2 ?_ (by simp <;> omega) _ _))) hB) (by repeat (first | (with_reducible exact grew_refl _ _) | (with_reducible apply grew_plus) | (with_reducible apply grew_alloc) | (with_reducible apply grew_drew) | (with_reducible apply grew_pat))) hB⟩

end Go.Proofs.YtmddcbebaijjkaaGreatDoor

/- Draws: l1Data, l1Wild. -/
namespace Go.Proofs.YtmddcbebaijjkaaGreatDoor
open Go.RowKit
set_option linter.unusedVariables false
set_option linter.unusedSimpArgs false

end Go.Proofs.YtmddcbebaijjkaaGreatDoor

/- Draws: l9Many, l1Wild. -/
namespace Go.Proofs.YtmddcbebaijjkaaGreatDoor
open Go.RowKit
set_option linter.unusedVariables false
set_option linter.unusedSimpArgs false

set_option maxRecDepth 100000 in
set_option maxHeartbeats 1000000 in
theorem l9Many_d (s : ByteArray) (n : Nat) (w : World) (hs : s.size ≤ 4) (hn : n ≤ 5000) : Calls Tryz.prog 41 #[.string s, .int .i64 n] w (fun e w' => ∃ r : ByteArray, e = .returned (.string r) ∧ r.size = s.size * n ∧ ∃ x, w' = plus w x) := by
  obtain ⟨N, hN⟩ : ∃ N, s.size * n = N := ⟨_, rfl⟩
  have hN2 : N ≤ 20000 := by rw [← hN]; calc s.size * n ≤ 4 * 5000 := Nat.mul_le_mul hs hn
    _ = 20000 := rfl
  have HN0 := Lib.hid hN
  clear hN
  go_enter Tryz.func41, Tryz.ntmps41
  go_wp2
  go_loopw [0, 1, 5] (fun s q t wr => ∃ (m : Nat) (T S : ByteArray), q = .int .i64 m ∧ s = .string S ∧ t = .string T ∧ T.size + S.size * m = N ∧ S.size ≤ 40000 ∧ m ≤ 5000 ∧ More w wr) (fun _ q _ _ => (intOf q).toNat)
  case atStart => exact ⟨n, ⟨#[]⟩, s, rfl, rfl, rfl, by rw [← HN0.out]; exact Nat.zero_add _, by omega, hn, More.refl _⟩
  case round =>
    obtain ⟨m, T, S, rfl, rfl, rfl, hab, hb, hm7, x, rfl⟩ := hrel
    have z1 : (T ++ S).size = T.size + S.size := ByteArray.size_append
    have z2 : (S ++ S).size = S.size + S.size := ByteArray.size_append
    have HAB := Lib.hid hab
    have ha : T.size ≤ N := by rw [← hab]; exact Nat.le_add_right _ _
    have hbm : 1 ≤ m → S.size ≤ N := fun h => by have : S.size * 1 ≤ S.size * m := Nat.mul_le_mul_left _ h; omega
    clear hab
    rcases dec (0 < m) with ⟨hlt, v1⟩ | ⟨hlt, v1⟩
    · have hb7 := hbm hlt
      have v2 : decide ((0 : Int) < (m : Int)) = true := by simp; omega
      have E3 := Lib.hid (show wrap64 ((m : Int) / 2) = (m : Int) / 2 from wrap64_of (by omega) (by omega))
      rcases Nat.mod_two_eq_zero_or_one m with h2 | h2
      · have e2 : (m : Int) % 2 = 0 := by omega
        have HN := Lib.hid (show T.size + (S.size + S.size) * (m / 2) = N by rw [Nat.add_mul, ← Nat.mul_two, Nat.mul_assoc, show m / 2 * 2 = m by omega]; exact HAB.out)
        clear z1
        go_wp2
        go_roundw
        case rel => exact ⟨m / 2, T, S ++ S, int_val (by first | omega | (rw [E3.out]; omega)), rfl, rfl, by rw [z2]; exact HN.out, by omega, by omega, (by repeat (first | exact More.refl _ | apply More.plus | apply More.alloc | apply More.drew | apply More.drewN))⟩
        case measure => simp [intOf, E3.out]; omega
      · have e2 : (m : Int) % 2 = 1 := by omega
        have HN := Lib.hid (show (T.size + S.size) + (S.size + S.size) * (m / 2) = N by
          have h3 : S.size * m = S.size + (S.size + S.size) * (m / 2) := by
            have h4 : m = m / 2 * 2 + 1 := by omega
            rw [Nat.add_mul, ← Nat.mul_two, Nat.mul_assoc]
            have h5 : S.size * m = S.size * (m / 2 * 2) + S.size := by rw [← Nat.mul_succ]; congr 1
            omega
          have := HAB.out
          omega)
        go_wp2
        go_roundw
        case rel => exact ⟨m / 2, T ++ S, S ++ S, int_val (by first | omega | (rw [E3.out]; omega)), rfl, rfl, by rw [z1, z2]; exact HN.out, by omega, by omega, (by repeat (first | exact More.refl _ | apply More.plus | apply More.alloc | apply More.drew | apply More.drewN))⟩
        case measure => simp [intOf, E3.out]; omega
    · obtain rfl : m = 0 := by omega
      have v2 : decide ((0 : Int) < ((0 : Nat) : Int)) = false := by simp
      go_wp2
      go_ret
      exact ⟨T, rfl, by rw [HN0.out]; have := HAB.out; omega, (by repeat (first | exact More.refl _ | apply More.plus | apply More.alloc | apply More.drew | apply More.drewN))⟩

end Go.Proofs.YtmddcbebaijjkaaGreatDoor

/- Draws: one of some texts. -/
namespace Go.Proofs.YtmddcbebaijjkaaGreatDoor
open Go.RowKit
set_option linter.unusedVariables false
set_option linter.unusedSimpArgs false

theorem rdSN_open {w : World} {a : Option Addr} {cap : Nat} {xs : List ByteArray} (h : Rd encS w a cap xs) (h0 : 0 < xs.length) : xs.length ≤ cap ∧ cap ≤ 9223372036854775807 ∧ ∃ b off, a = some ⟨b, off, none⟩ ∧ b < w.heap.size ∧
    ∀ (i : Nat) (x : ByteArray), xs[i]? = some x → w.cell? ⟨b, off + i, none⟩ = some (.string x) := by
  obtain ⟨h1, h2, h3⟩ := h
  refine ⟨h1, h2, ?_⟩
  rcases h3 with h3 | ⟨b, off, rfl, hb, hc⟩
  · omega
  · refine ⟨b, off, rfl, hb, fun i x hx => ?_⟩
    have := hc (i * 1 + 0) _ (flat_get encS xs i x hx 0 (by decide))
    simpa using this

/-- a list of texts, spelled out -/
theorem rdS_lit (xs : List ByteArray) (W : World) (e : TypeId) (cur : Array Value) (b : Nat) (hb : b = W.heap.size) (h : cur = (xs.map Value.string).toArray) (hx : xs.length ≤ 1000) : Rd encS (W.alloc (.cells cur e)) (some ⟨b, 0, none⟩) xs.length xs := by
  subst h hb
  refine Rd.of_row (push_new _ _ _ rfl) ?_ (Nat.le_refl _) (by omega)
  exact rowS_of _ _ fun i x hx => by simp [hx]

set_option maxRecDepth 100000 in
set_option maxHeartbeats 2000000 in
theorem of_d (B n : Nat) (w : World) (hd : Dsrc w B n) (hn : n ≤ 1000000) (la : Option Addr) (lcap : Nat) (xs : List ByteArray) (hr : Rd encS w la lcap xs) (hla : ∀ X, la = some X → X.block ≠ B) (h0 : 0 < xs.length) :
    Calls Tryz.prog 86 #[.pointer (some ⟨B, 0, none⟩), .slice la xs.length lcap] w (fun e w' => ∃ v, e = .returned (.string v) ∧ v ∈ xs ∧ Drn w B (n + 1) w') := by
  obtain ⟨h1, h2, b, off, rfl, hb, hc⟩ := rdSN_open hr h0
  have hne : b ≠ B := hla _ rfl
  have hB := hd.B_lt
  have HD := Lib.hid hd
  have HC := Lib.hid hc
  clear hd hr hla hc
  go_enter Tryz.func86, Tryz.ntmps86
  go_wp2_with fail
  refine (pick_d B n _ _ HD.out hn).mono ?_
  rintro e w' ⟨v, rfl, hv, hdn⟩
  have HG := Lib.hid hdn
  obtain ⟨_, cur, x, rfl⟩ := hdn
  have hvl : v < xs.length := by omega
  obtain ⟨z, hz⟩ : ∃ z, xs[v]? = some z := ⟨_, List.getElem?_eq_getElem hvl⟩
  have c1 := HC.out v z hz
  have hm := List.mem_of_getElem? hz
  clear hz
  go_wp2_with fail
  go_ret
  exact ⟨z, rfl, hm, HG.out⟩

end Go.Proofs.YtmddcbebaijjkaaGreatDoor
