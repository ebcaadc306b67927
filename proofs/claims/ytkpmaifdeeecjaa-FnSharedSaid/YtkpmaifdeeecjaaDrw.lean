/- Draws: the walks of l9Open, pick, l1Bytes. -/
import Derived.Test.YtkpmaifdeeecjaaBts
namespace Go.Proofs.Ytkpmaifdeeecjaa
open Go.RowKit
set_option linter.unusedVariables false
set_option linter.unusedSimpArgs false

theorem rdB_open {w : World} {a : Option Addr} {cap : Nat} {xs : List UInt8} (h : Rd encB w a cap xs) : xs.length ≤ cap ∧ cap ≤ 9223372036854775807 ∧ (cap = 0 ∨ ∃ b off, a = some ⟨b, off, none⟩ ∧ b < w.heap.size ∧
    ∀ i x, xs[i]? = some x → w.cell? ⟨b, off + i, none⟩ = some (.int .u8 (x.toNat : Int))) := by
  obtain ⟨h1, h2, h3⟩ := h
  refine ⟨h1, h2, ?_⟩
  rcases h3 with h3 | ⟨b, off, rfl, hb, hc⟩
  · exact .inl h3
  · refine .inr ⟨b, off, rfl, hb, fun i x hx => ?_⟩
    have := hc (i * 1 + 0) _ (flat_get encB xs i x hx 0 (by decide))
    simpa using this

/-- a source of draws in block B, with at most n draws so far -/
def Dsrc (w : World) (B n : Nat) : Prop := ∃ (ba : Option Addr) (bc : Nat) (bs : List UInt8) (p : Nat), w.heap[B]? = some (.cells #[.slice ba bs.length bc, .int .i64 p] 51 (0, 0)) ∧ Rd encB w ba bc bs ∧ (bc = 0 ∨ ∀ X, ba = some X → X.block < B) ∧ bs.length ≤ 2000 ∧ p ≤ n

section
variable {w w' : World} {B n : Nat}

theorem Dsrc.of_block (h : Dsrc w B n) (hs : ∀ k, k ≤ B → k < w.heap.size → w'.heap[k]? = w.heap[k]?) (hz : w.heap.size ≤ w'.heap.size) : Dsrc w' B n := by
  obtain ⟨ba, bc, bs, p, hb, hr, ho, hl, hp⟩ := h
  have hB := (Array.getElem?_eq_some_iff.1 hb).1
  exact ⟨ba, bc, bs, p, (hs B (Nat.le_refl _) hB).trans hb, by
    rcases ho with h0 | ho
    · exact ⟨hr.1, hr.2.1, .inl h0⟩
    · exact hr.of_block fun A hA hlt => ⟨by omega, hs _ (by have := ho A hA; omega) hlt⟩, ho, hl, hp⟩

theorem Dsrc.plus (h : Dsrc w B n) (x : Ext) : Dsrc (Go.Proofs.Ytkpmaifdeeecjaa.plus w x) B n := h.of_block (fun k _ hk => plus_block w x hk) (by rw [plus_size]; omega)

theorem Dsrc.alloc (h : Dsrc w B n) (ob : Obj) : Dsrc (w.alloc ob) B n := by rw [alloc_plus]; exact h.plus _

theorem Dsrc.drew (h : Dsrc w B n) : Dsrc w.drew B n := by rw [drew_is_plus]; exact h.plus _

theorem dsrc_seq {x y : Ext} (h : Dsrc (Go.Proofs.Ytkpmaifdeeecjaa.plus w x) B n) : Dsrc (Go.Proofs.Ytkpmaifdeeecjaa.plus w (x.seq y)) B n := by rw [← plus_plus]; exact h.plus y

theorem dsrc_draw {x : Ext} {k : Nat} (h : Dsrc (Go.Proofs.Ytkpmaifdeeecjaa.plus w x) B n) : Dsrc (Go.Proofs.Ytkpmaifdeeecjaa.plus w (x.draw k)) B n := h

theorem Dsrc.mono {n' : Nat} (h : Dsrc w B n) (hn : n ≤ n') : Dsrc w B n' := by
  obtain ⟨ba, bc, bs, p, hb, hr, ho, hl, hp⟩ := h
  exact ⟨ba, bc, bs, p, hb, hr, ho, hl, by omega⟩

theorem Dsrc.grew {A : Option Addr} (h : Dsrc w B n) (hg : Grew A w w') (ha : ∀ X, A = some X → B < X.block) : Dsrc w' B n :=
  h.of_block (fun k hk hlt => hg.block k hlt fun X hX e => by have := ha X hX; omega) hg.size

theorem Dsrc.B_lt (h : Dsrc w B n) : B < w.heap.size := by
  obtain ⟨ba, bc, bs, p, hb, _⟩ := h
  exact (Array.getElem?_eq_some_iff.1 hb).1

end

/-- a draw of a number below m -/
def RetD (w : World) (B n : Nat) (m : Int) (e : Ending) (w' : World) : Prop := ∃ v : Int, e = .returned (.int .i64 v) ∧ 0 ≤ v ∧ (v < m ∨ v = 0) ∧ Dsrc w' B n ∧ Grew (some ⟨B, 0, none⟩) w w'

theorem xor_bd {x y : Int} (h0 : 0 ≤ x) (h1 : x < 2147483648) (h2 : 0 ≤ y) (h3 : y < 2147483648) : 0 ≤ bits .xor .i64 x y ∧ bits .xor .i64 x y < 2147483648 := by
  obtain ⟨m, rfl⟩ : ∃ m : Nat, x = m := ⟨x.toNat, by omega⟩
  obtain ⟨n, rfl⟩ : ∃ n : Nat, y = n := ⟨y.toNat, by omega⟩
  show 0 ≤ IntKind.i64.wrap ((BitVec.ofInt 64 (m : Int) ^^^ BitVec.ofInt 64 (n : Int)).toNat : Nat) ∧ IntKind.i64.wrap ((BitVec.ofInt 64 (m : Int) ^^^ BitVec.ofInt 64 (n : Int)).toNat : Nat) < 2147483648
  have h : (BitVec.ofInt 64 (m : Int) ^^^ BitVec.ofInt 64 (n : Int)).toNat < 2 ^ 31 := by
    rw [BitVec.toNat_xor]
    apply Nat.xor_lt_two_pow
    · simp [BitVec.toNat_ofInt]; omega
    · simp [BitVec.toNat_ofInt]; omega
  rw [IntWalk.i64_in _ (by omega)]
  omega

set_option maxRecDepth 100000 in
set_option maxHeartbeats 2000000 in
theorem pick_any (B n : Nat) (m : Int) (w : World) (hd : Dsrc w B n) (hn : n ≤ 1000000) :
    Calls Try.prog 25 #[.pointer (some ⟨B, 0, none⟩), .int .i64 m] w (RetD w B (n + 1) m) := by
  obtain ⟨ba, bc, bs, p, hb, hr, ho, hl, hp⟩ := hd
  have hB := (Array.getElem?_eq_some_iff.1 hb).1
  have hr' : ∀ o, Rd encB (patch w B o) ba bc bs := fun o => by
    rcases ho with h0 | ho
    · exact ⟨hr.1, hr.2.1, .inl h0⟩
    · exact rd_patch hr _ _ (fun A hA e => by have := ho A hA; omega)
  have rk := cell_of hb
  have fk := free_of hb
  have sk := fun v => setCell_patch hb 1 v
  have hr3 := rdB_open hr
  have HN := Lib.hid (show ∀ x : Ext, Dsrc (plus (patch w B (.cells #[.slice ba bs.length bc, .int .i64 ((p : Int) + 1)] 51)) x) B (n + 1) ∧ Grew (some ⟨B, 0, none⟩) w (plus (patch w B (.cells #[.slice ba bs.length bc, .int .i64 ((p : Int) + 1)] 51)) x) from fun x =>
    ⟨⟨ba, bc, bs, p + 1, blk_plus (patch_at _ _ _ hB) _, (hr' _).plus _, ho, hl, by omega⟩, grew_plus (grew_patch _ _ _) _⟩)
  have HN0 := Lib.hid (show Dsrc (patch w B (.cells #[.slice ba bs.length bc, .int .i64 ((p : Int) + 1)] 51)) B (n + 1) ∧ Grew (some ⟨B, 0, none⟩) w (patch w B (.cells #[.slice ba bs.length bc, .int .i64 ((p : Int) + 1)] 51)) from
    ⟨⟨ba, bc, bs, p + 1, patch_at _ _ _ hB, hr' _, ho, hl, by omega⟩, grew_patch _ _ _⟩)
  clear hb hr hr'
  rcases dec (m < 1) with ⟨hm, v1⟩ | ⟨hm, v1⟩
  · go_enter Try.func25, Try.ntmps25
    go_wp2
    go_ret
    exact ⟨0, rfl, by omega, .inr rfl, HN0.out.1, HN0.out.2⟩
  rcases Nat.eq_zero_or_pos bs.length with hz | hz
  · have v2 : ((bs.length : Int) == 0) = true := by simp; exact List.eq_nil_of_length_eq_zero hz
    go_enter Try.func25, Try.ntmps25
    go_wp2
    go_ret
    rw [hz] at HN0
    exact ⟨0, rfl, by omega, .inr rfl, HN0.out.1, HN0.out.2⟩
  have v2 : ((bs.length : Int) == 0) = false := by simp; intro e; subst e; simp at hz
  obtain ⟨r1, r2, r3⟩ := hr3
  rcases r3 with rfl | ⟨b, off, rfl, hbb, hc⟩
  · omega
  have hbB : b ≠ B := fun e => by
    rcases ho with h0 | ho
    · omega
    · have := ho _ rfl; simp at this; omega
  rcases dec (p < bs.length) with ⟨hlt, v3⟩ | ⟨hlt, v3⟩
  · obtain ⟨x, hx⟩ : ∃ x, bs[p]? = some x := ⟨_, List.getElem?_eq_getElem hlt⟩
    have c1 := hc p x hx
    have hxb := x.toNat_lt
    have hm0 : m ≠ 0 := by omega
    have h1 := Int.emod_nonneg (x.toNat : Int) hm0
    have h2 := Int.emod_lt_of_pos (x.toNat : Int) (show 0 < m by omega)
    clear hc hx
    go_enter Try.func25, Try.ntmps25
    go_wp2
    go_ret
    exact ⟨(x.toNat : Int) % m, rfl, h1, .inl h2, HN0.out.1, HN0.out.2⟩
  · have hq1 : p % bs.length < bs.length := Nat.mod_lt _ hz
    have hq2 : (7 * p + 3) % bs.length < bs.length := Nat.mod_lt _ hz
    have e1 : Int.tmod (p : Int) (bs.length : Int) = ((p % bs.length : Nat) : Int) := by rw [Int.tmod_eq_emod_of_nonneg (by omega)]; rfl
    have e2 : Int.tmod ((p : Int) * 7 + 3) (bs.length : Int) = (((7 * p + 3) % bs.length : Nat) : Int) := by rw [Int.tmod_eq_emod_of_nonneg (by omega), show (p : Int) * 7 + 3 = ((7 * p + 3 : Nat) : Int) by omega]; rfl
    have e3 : Int.tdiv (p : Int) (bs.length : Int) = ((p / bs.length : Nat) : Int) := by rw [Int.tdiv_eq_ediv_of_nonneg (by omega)]; rfl
    have e4 : p / bs.length ≤ p := Nat.div_le_self _ _
    generalize p % bs.length = q1 at *
    generalize (7 * p + 3) % bs.length = q2 at *
    generalize p / bs.length = q3 at *
    obtain ⟨x1, hx1⟩ : ∃ x, bs[q1]? = some x := ⟨_, List.getElem?_eq_getElem hq1⟩
    obtain ⟨x2, hx2⟩ : ∃ x, bs[q2]? = some x := ⟨_, List.getElem?_eq_getElem hq2⟩
    have c1 := hc _ _ hx1
    have c2 := hc _ _ hx2
    have hb1 := x1.toNat_lt
    have hb2 := x2.toNat_lt
    have V1 := Lib.hid (show IntKind.i64.wrap (x1.toNat : Int) = (x1.toNat : Int) from IntWalk.i64_in _ (by omega))
    have V2 := Lib.hid (show IntKind.i64.wrap (x2.toNat : Int) = (x2.toNat : Int) from IntWalk.i64_in _ (by omega))
    have V3 := Lib.hid (show IntKind.i64.wrap (q3 : Int) = (q3 : Int) from IntWalk.i64_in _ (by omega))
    have W1 := Lib.hid (show IntKind.i64.wrap ((p : Int) * 7) = (p : Int) * 7 from IntWalk.i64_in _ (by omega))
    have W2 := Lib.hid (show IntKind.i64.wrap ((p : Int) * 7 + 3) = (p : Int) * 7 + 3 from IntWalk.i64_in _ (by omega))
    have W3 := Lib.hid (show IntKind.i64.wrap ((x1.toNat : Int) * 131) = (x1.toNat : Int) * 131 from IntWalk.i64_in _ (by omega))
    have W4 := Lib.hid (show IntKind.i64.wrap ((x2.toNat : Int) * 1117) = (x2.toNat : Int) * 1117 from IntWalk.i64_in _ (by omega))
    have W5 := Lib.hid (show IntKind.i64.wrap ((x1.toNat : Int) * 131 + (x2.toNat : Int) * 1117) = (x1.toNat : Int) * 131 + (x2.toNat : Int) * 1117 from IntWalk.i64_in _ (by omega))
    have W6 := Lib.hid (show IntKind.i64.wrap ((p : Int) * 29) = (p : Int) * 29 from IntWalk.i64_in _ (by omega))
    have W7 := Lib.hid (show IntKind.i64.wrap ((x1.toNat : Int) * 131 + (x2.toNat : Int) * 1117 + (p : Int) * 29) = (x1.toNat : Int) * 131 + (x2.toNat : Int) * 1117 + (p : Int) * 29 from IntWalk.i64_in _ (by omega))
    have W8 := Lib.hid (show IntKind.i64.wrap ((q3 : Int) * 53) = (q3 : Int) * 53 from IntWalk.i64_in _ (by omega))
    have W9 := Lib.hid (show IntKind.i64.wrap ((x1.toNat : Int) * 131 + (x2.toNat : Int) * 1117 + (p : Int) * 29 + (q3 : Int) * 53) = (x1.toNat : Int) * 131 + (x2.toNat : Int) * 1117 + (p : Int) * 29 + (q3 : Int) * 53 from IntWalk.i64_in _ (by omega))
    clear hc hx1 hx2
    go_enter Try.func25, Try.ntmps25
    go_wp2
    refine wp_region_pt 45 (fun w' => ∃ y, w' = plus _ y) (Plan.quiet 0 (Plan.quiet 1 (Plan.quiet 2 (Plan.quiet 3 (Plan.quiet 4 (Plan.quiet 5 (Plan.quiet 6 (Plan.quiet 7 (Plan.quiet 8 (Plan.quiet 9 (Plan.quiet 10 (Plan.quiet 11 (Plan.quiet 12 (Plan.quiet 13 (Plan.quiet 14 (Plan.quiet 15 (Plan.quiet 16 (Plan.quiet 17 (Plan.quiet 18 (Plan.quiet 19 (Plan.quiet 20 (Plan.quiet 21 (Plan.quiet 22 (Plan.quiet 23 (Plan.quiet 24 (Plan.quiet 25 (Plan.quiet 26 (Plan.quiet 27 (Plan.quiet 28 (Plan.quiet 29 (Plan.quiet 30 (Plan.quiet 31 (Plan.quiet 32 (Plan.quiet 33 (Plan.quiet 34 (Plan.quiet 35 (Plan.quiet 36 (Plan.quiet 37 (Plan.quiet 38 (Plan.quiet 39 (Plan.quiet 40 (Plan.quiet 41 (Plan.quiet 42 (Plan.quiet 43 (Plan.quiet 44 (Plan.one 45 Plan.done)))))))))))))))))))))))))))))))))))))))))))))) (by kernel_rfl) (by kernel_rfl) (⟨_, drew_is_plus _⟩) ?_
    refine wpPt_val rfl rfl ?_
    apply Exists.intro
    refine ⟨fun w' hS => ?_, ?_⟩
    focus (obtain ⟨y3, rfl⟩ := hS; simp [go_sem, ↓IntWalk.iteOmega, e1, e2, e3, c1, c2, V1.out, V2.out, V3.out, W1.out, W2.out, W3.out, W4.out, W5.out, W6.out, W7.out, W8.out, W9.out] <;> first | done | exact rfl | (rw [IntWalk.i64_in _ (by omega)]; exact rfl) | trace_state)
    refine wpPt_val rfl rfl ?_
    apply Exists.intro
    refine ⟨fun w' hS => ?_, ?_⟩
    focus (obtain ⟨y3, rfl⟩ := hS; simp [go_sem, ↓IntWalk.iteOmega, e1, e2, e3, c1, c2, V1.out, V2.out, V3.out, W1.out, W2.out, W3.out, W4.out, W5.out, W6.out, W7.out, W8.out, W9.out] <;> first | done | exact rfl | (rw [IntWalk.i64_in _ (by omega)]; exact rfl) | trace_state)
    refine wpPt_val rfl rfl ?_
    apply Exists.intro
    refine ⟨fun w' hS => ?_, ?_⟩
    focus (obtain ⟨y3, rfl⟩ := hS; simp [go_sem, ↓IntWalk.iteOmega, e1, e2, e3, c1, c2, V1.out, V2.out, V3.out, W1.out, W2.out, W3.out, W4.out, W5.out, W6.out, W7.out, W8.out, W9.out] <;> first | done | exact rfl | (rw [IntWalk.i64_in _ (by omega)]; exact rfl) | trace_state)
    refine wpPt_val rfl rfl ?_
    apply Exists.intro
    refine ⟨fun w' hS => ?_, ?_⟩
    focus (obtain ⟨y3, rfl⟩ := hS; simp [go_sem, ↓IntWalk.iteOmega, e1, e2, e3, c1, c2, V1.out, V2.out, V3.out, W1.out, W2.out, W3.out, W4.out, W5.out, W6.out, W7.out, W8.out, W9.out] <;> first | done | exact rfl | (rw [IntWalk.i64_in _ (by omega)]; exact rfl) | trace_state)
    refine wpPt_val rfl rfl ?_
    apply Exists.intro
    refine ⟨fun w' hS => ?_, ?_⟩
    focus (obtain ⟨y3, rfl⟩ := hS; simp [go_sem, ↓IntWalk.iteOmega, e1, e2, e3, c1, c2, V1.out, V2.out, V3.out, W1.out, W2.out, W3.out, W4.out, W5.out, W6.out, W7.out, W8.out, W9.out] <;> first | done | exact rfl | (rw [IntWalk.i64_in _ (by omega)]; exact rfl) | trace_state)
    refine wpPt_val rfl rfl ?_
    apply Exists.intro
    refine ⟨fun w' hS => ?_, ?_⟩
    focus (obtain ⟨y3, rfl⟩ := hS; simp [go_sem, ↓IntWalk.iteOmega, e1, e2, e3, c1, c2, V1.out, V2.out, V3.out, W1.out, W2.out, W3.out, W4.out, W5.out, W6.out, W7.out, W8.out, W9.out] <;> first | done | exact rfl | (rw [IntWalk.i64_in _ (by omega)]; exact rfl) | trace_state)
    refine wpPt_val rfl rfl ?_
    apply Exists.intro
    refine ⟨fun w' hS => ?_, ?_⟩
    focus (obtain ⟨y3, rfl⟩ := hS; simp [go_sem, ↓IntWalk.iteOmega, e1, e2, e3, c1, c2, V1.out, V2.out, V3.out, W1.out, W2.out, W3.out, W4.out, W5.out, W6.out, W7.out, W8.out, W9.out] <;> first | done | exact rfl | (rw [IntWalk.i64_in _ (by omega)]; exact rfl) | trace_state)
    refine wpPt_val rfl rfl ?_
    apply Exists.intro
    refine ⟨fun w' hS => ?_, ?_⟩
    focus (obtain ⟨y3, rfl⟩ := hS; simp [go_sem, ↓IntWalk.iteOmega, e1, e2, e3, c1, c2, V1.out, V2.out, V3.out, W1.out, W2.out, W3.out, W4.out, W5.out, W6.out, W7.out, W8.out, W9.out] <;> first | done | exact rfl | (rw [IntWalk.i64_in _ (by omega)]; exact rfl) | trace_state)
    refine wpPt_val rfl rfl ?_
    apply Exists.intro
    refine ⟨fun w' hS => ?_, ?_⟩
    focus (obtain ⟨y3, rfl⟩ := hS; simp [go_sem, ↓IntWalk.iteOmega, e1, e2, e3, c1, c2, V1.out, V2.out, V3.out, W1.out, W2.out, W3.out, W4.out, W5.out, W6.out, W7.out, W8.out, W9.out] <;> first | done | exact rfl | (rw [IntWalk.i64_in _ (by omega)]; exact rfl) | trace_state)
    refine wpPt_val rfl rfl ?_
    apply Exists.intro
    refine ⟨fun w' hS => ?_, ?_⟩
    focus (obtain ⟨y3, rfl⟩ := hS; simp [go_sem, ↓IntWalk.iteOmega, e1, e2, e3, c1, c2, V1.out, V2.out, V3.out, W1.out, W2.out, W3.out, W4.out, W5.out, W6.out, W7.out, W8.out, W9.out] <;> first | done | exact rfl | (rw [IntWalk.i64_in _ (by omega)]; exact rfl) | trace_state)
    refine wpPt_val rfl rfl ?_
    apply Exists.intro
    refine ⟨fun w' hS => ?_, ?_⟩
    focus (obtain ⟨y3, rfl⟩ := hS; simp [go_sem, ↓IntWalk.iteOmega, e1, e2, e3, c1, c2, V1.out, V2.out, V3.out, W1.out, W2.out, W3.out, W4.out, W5.out, W6.out, W7.out, W8.out, W9.out] <;> first | done | exact rfl | (rw [IntWalk.i64_in _ (by omega)]; exact rfl) | trace_state)
    refine wpPt_val rfl rfl ?_
    apply Exists.intro
    refine ⟨fun w' hS => ?_, ?_⟩
    focus (obtain ⟨y3, rfl⟩ := hS; simp [go_sem, ↓IntWalk.iteOmega, e1, e2, e3, c1, c2, V1.out, V2.out, V3.out, W1.out, W2.out, W3.out, W4.out, W5.out, W6.out, W7.out, W8.out, W9.out] <;> first | done | exact rfl | (rw [IntWalk.i64_in _ (by omega)]; exact rfl) | trace_state)
    refine wpPt_val rfl rfl ?_
    apply Exists.intro
    refine ⟨fun w' hS => ?_, ?_⟩
    focus (obtain ⟨y3, rfl⟩ := hS; simp [go_sem, ↓IntWalk.iteOmega, e1, e2, e3, c1, c2, V1.out, V2.out, V3.out, W1.out, W2.out, W3.out, W4.out, W5.out, W6.out, W7.out, W8.out, W9.out] <;> first | done | exact rfl | (rw [IntWalk.i64_in _ (by omega)]; exact rfl) | trace_state)
    refine wpPt_val rfl rfl ?_
    apply Exists.intro
    refine ⟨fun w' hS => ?_, ?_⟩
    focus (obtain ⟨y3, rfl⟩ := hS; simp [go_sem, ↓IntWalk.iteOmega, e1, e2, e3, c1, c2, V1.out, V2.out, V3.out, W1.out, W2.out, W3.out, W4.out, W5.out, W6.out, W7.out, W8.out, W9.out] <;> first | done | exact rfl | (rw [IntWalk.i64_in _ (by omega)]; exact rfl) | trace_state)
    refine wpPt_val rfl rfl ?_
    apply Exists.intro
    refine ⟨fun w' hS => ?_, ?_⟩
    focus (obtain ⟨y3, rfl⟩ := hS; simp [go_sem, ↓IntWalk.iteOmega, e1, e2, e3, c1, c2, V1.out, V2.out, V3.out, W1.out, W2.out, W3.out, W4.out, W5.out, W6.out, W7.out, W8.out, W9.out] <;> first | done | exact rfl | (rw [IntWalk.i64_in _ (by omega)]; exact rfl) | trace_state)
    refine wpPt_val rfl rfl ?_
    apply Exists.intro
    refine ⟨fun w' hS => ?_, ?_⟩
    focus (obtain ⟨y3, rfl⟩ := hS; simp [go_sem, ↓IntWalk.iteOmega, e1, e2, e3, c1, c2, V1.out, V2.out, V3.out, W1.out, W2.out, W3.out, W4.out, W5.out, W6.out, W7.out, W8.out, W9.out] <;> first | done | exact rfl | (rw [IntWalk.i64_in _ (by omega)]; exact rfl) | trace_state)
    refine wpPt_val rfl rfl ?_
    apply Exists.intro
    refine ⟨fun w' hS => ?_, ?_⟩
    focus (obtain ⟨y3, rfl⟩ := hS; simp [go_sem, ↓IntWalk.iteOmega, e1, e2, e3, c1, c2, V1.out, V2.out, V3.out, W1.out, W2.out, W3.out, W4.out, W5.out, W6.out, W7.out, W8.out, W9.out] <;> first | done | exact rfl | (rw [IntWalk.i64_in _ (by omega)]; exact rfl) | trace_state)
    refine wpPt_val rfl rfl ?_
    apply Exists.intro
    refine ⟨fun w' hS => ?_, ?_⟩
    focus (obtain ⟨y3, rfl⟩ := hS; simp [go_sem, ↓IntWalk.iteOmega, e1, e2, e3, c1, c2, V1.out, V2.out, V3.out, W1.out, W2.out, W3.out, W4.out, W5.out, W6.out, W7.out, W8.out, W9.out] <;> first | done | exact rfl | (rw [IntWalk.i64_in _ (by omega)]; exact rfl) | trace_state)
    refine wpPt_val rfl rfl ?_
    apply Exists.intro
    refine ⟨fun w' hS => ?_, ?_⟩
    focus (obtain ⟨y3, rfl⟩ := hS; simp [go_sem, ↓IntWalk.iteOmega, e1, e2, e3, c1, c2, V1.out, V2.out, V3.out, W1.out, W2.out, W3.out, W4.out, W5.out, W6.out, W7.out, W8.out, W9.out] <;> first | done | exact rfl | (rw [IntWalk.i64_in _ (by omega)]; exact rfl) | trace_state)
    refine wpPt_val rfl rfl ?_
    apply Exists.intro
    refine ⟨fun w' hS => ?_, ?_⟩
    focus (obtain ⟨y3, rfl⟩ := hS; simp [go_sem, ↓IntWalk.iteOmega, e1, e2, e3, c1, c2, V1.out, V2.out, V3.out, W1.out, W2.out, W3.out, W4.out, W5.out, W6.out, W7.out, W8.out, W9.out] <;> first | done | exact rfl | (rw [IntWalk.i64_in _ (by omega)]; exact rfl) | trace_state)
    refine wpPt_val rfl rfl ?_
    apply Exists.intro
    refine ⟨fun w' hS => ?_, ?_⟩
    focus (obtain ⟨y3, rfl⟩ := hS; simp [go_sem, ↓IntWalk.iteOmega, e1, e2, e3, c1, c2, V1.out, V2.out, V3.out, W1.out, W2.out, W3.out, W4.out, W5.out, W6.out, W7.out, W8.out, W9.out] <;> first | done | exact rfl | (rw [IntWalk.i64_in _ (by omega)]; exact rfl) | trace_state)
    refine wpPt_val rfl rfl ?_
    apply Exists.intro
    refine ⟨fun w' hS => ?_, ?_⟩
    focus (obtain ⟨y3, rfl⟩ := hS; simp [go_sem, ↓IntWalk.iteOmega, e1, e2, e3, c1, c2, V1.out, V2.out, V3.out, W1.out, W2.out, W3.out, W4.out, W5.out, W6.out, W7.out, W8.out, W9.out] <;> first | done | exact rfl | (rw [IntWalk.i64_in _ (by omega)]; exact rfl) | trace_state)
    refine wpPt_val rfl rfl ?_
    apply Exists.intro
    refine ⟨fun w' hS => ?_, ?_⟩
    focus (obtain ⟨y3, rfl⟩ := hS; simp [go_sem, ↓IntWalk.iteOmega, e1, e2, e3, c1, c2, V1.out, V2.out, V3.out, W1.out, W2.out, W3.out, W4.out, W5.out, W6.out, W7.out, W8.out, W9.out] <;> first | done | exact rfl | (rw [IntWalk.i64_in _ (by omega)]; exact rfl) | trace_state)
    refine wpPt_val rfl rfl ?_
    apply Exists.intro
    refine ⟨fun w' hS => ?_, ?_⟩
    focus (obtain ⟨y3, rfl⟩ := hS; simp [go_sem, ↓IntWalk.iteOmega, e1, e2, e3, c1, c2, V1.out, V2.out, V3.out, W1.out, W2.out, W3.out, W4.out, W5.out, W6.out, W7.out, W8.out, W9.out] <;> first | done | exact rfl | (rw [IntWalk.i64_in _ (by omega)]; exact rfl) | trace_state)
    refine wpPt_val rfl rfl ?_
    apply Exists.intro
    refine ⟨fun w' hS => ?_, ?_⟩
    focus (obtain ⟨y3, rfl⟩ := hS; simp [go_sem, ↓IntWalk.iteOmega, e1, e2, e3, c1, c2, V1.out, V2.out, V3.out, W1.out, W2.out, W3.out, W4.out, W5.out, W6.out, W7.out, W8.out, W9.out] <;> first | done | exact rfl | (rw [IntWalk.i64_in _ (by omega)]; exact rfl) | trace_state)
    refine wpPt_val rfl rfl ?_
    apply Exists.intro
    refine ⟨fun w' hS => ?_, ?_⟩
    focus (obtain ⟨y3, rfl⟩ := hS; simp [go_sem, ↓IntWalk.iteOmega, e1, e2, e3, c1, c2, V1.out, V2.out, V3.out, W1.out, W2.out, W3.out, W4.out, W5.out, W6.out, W7.out, W8.out, W9.out] <;> first | done | exact rfl | (rw [IntWalk.i64_in _ (by omega)]; exact rfl) | trace_state)
    refine wpPt_val rfl rfl ?_
    apply Exists.intro
    refine ⟨fun w' hS => ?_, ?_⟩
    focus (obtain ⟨y3, rfl⟩ := hS; simp [go_sem, ↓IntWalk.iteOmega, e1, e2, e3, c1, c2, V1.out, V2.out, V3.out, W1.out, W2.out, W3.out, W4.out, W5.out, W6.out, W7.out, W8.out, W9.out] <;> first | done | exact rfl | (rw [IntWalk.i64_in _ (by omega)]; exact rfl) | trace_state)
    refine wpPt_val rfl rfl ?_
    apply Exists.intro
    refine ⟨fun w' hS => ?_, ?_⟩
    focus (obtain ⟨y3, rfl⟩ := hS; simp [go_sem, ↓IntWalk.iteOmega, e1, e2, e3, c1, c2, V1.out, V2.out, V3.out, W1.out, W2.out, W3.out, W4.out, W5.out, W6.out, W7.out, W8.out, W9.out] <;> first | done | exact rfl | (rw [IntWalk.i64_in _ (by omega)]; exact rfl) | trace_state)
    refine wpPt_val rfl rfl ?_
    apply Exists.intro
    refine ⟨fun w' hS => ?_, ?_⟩
    focus (obtain ⟨y3, rfl⟩ := hS; simp [go_sem, ↓IntWalk.iteOmega, e1, e2, e3, c1, c2, V1.out, V2.out, V3.out, W1.out, W2.out, W3.out, W4.out, W5.out, W6.out, W7.out, W8.out, W9.out] <;> first | done | exact rfl | (rw [IntWalk.i64_in _ (by omega)]; exact rfl) | trace_state)
    refine wpPt_val rfl rfl ?_
    apply Exists.intro
    refine ⟨fun w' hS => ?_, ?_⟩
    focus (obtain ⟨y3, rfl⟩ := hS; simp [go_sem, ↓IntWalk.iteOmega, e1, e2, e3, c1, c2, V1.out, V2.out, V3.out, W1.out, W2.out, W3.out, W4.out, W5.out, W6.out, W7.out, W8.out, W9.out] <;> first | done | exact rfl | (rw [IntWalk.i64_in _ (by omega)]; exact rfl) | trace_state)
    refine wpPt_val rfl rfl ?_
    apply Exists.intro
    refine ⟨fun w' hS => ?_, ?_⟩
    focus (obtain ⟨y3, rfl⟩ := hS; simp [go_sem, ↓IntWalk.iteOmega, e1, e2, e3, c1, c2, V1.out, V2.out, V3.out, W1.out, W2.out, W3.out, W4.out, W5.out, W6.out, W7.out, W8.out, W9.out] <;> first | done | exact rfl | (rw [IntWalk.i64_in _ (by omega)]; exact rfl) | trace_state)
    refine wpPt_val rfl rfl ?_
    apply Exists.intro
    refine ⟨fun w' hS => ?_, ?_⟩
    focus (obtain ⟨y3, rfl⟩ := hS; simp [go_sem, ↓IntWalk.iteOmega, e1, e2, e3, c1, c2, V1.out, V2.out, V3.out, W1.out, W2.out, W3.out, W4.out, W5.out, W6.out, W7.out, W8.out, W9.out] <;> first | done | exact rfl | (rw [IntWalk.i64_in _ (by omega)]; exact rfl) | trace_state)
    refine wpPt_val rfl rfl ?_
    apply Exists.intro
    refine ⟨fun w' hS => ?_, ?_⟩
    focus (obtain ⟨y3, rfl⟩ := hS; simp [go_sem, ↓IntWalk.iteOmega, e1, e2, e3, c1, c2, V1.out, V2.out, V3.out, W1.out, W2.out, W3.out, W4.out, W5.out, W6.out, W7.out, W8.out, W9.out] <;> first | done | exact rfl | (rw [IntWalk.i64_in _ (by omega)]; exact rfl) | trace_state)
    refine wpPt_val rfl rfl ?_
    apply Exists.intro
    refine ⟨fun w' hS => ?_, ?_⟩
    focus (obtain ⟨y3, rfl⟩ := hS; simp [go_sem, ↓IntWalk.iteOmega, e1, e2, e3, c1, c2, V1.out, V2.out, V3.out, W1.out, W2.out, W3.out, W4.out, W5.out, W6.out, W7.out, W8.out, W9.out] <;> first | done | exact rfl | (rw [IntWalk.i64_in _ (by omega)]; exact rfl) | trace_state)
    refine wpPt_val rfl rfl ?_
    apply Exists.intro
    refine ⟨fun w' hS => ?_, ?_⟩
    focus (obtain ⟨y3, rfl⟩ := hS; simp [go_sem, ↓IntWalk.iteOmega, e1, e2, e3, c1, c2, V1.out, V2.out, V3.out, W1.out, W2.out, W3.out, W4.out, W5.out, W6.out, W7.out, W8.out, W9.out] <;> first | done | exact rfl | (rw [IntWalk.i64_in _ (by omega)]; exact rfl) | trace_state)
    refine wpPt_val rfl rfl ?_
    apply Exists.intro
    refine ⟨fun w' hS => ?_, ?_⟩
    focus (obtain ⟨y3, rfl⟩ := hS; simp [go_sem, ↓IntWalk.iteOmega, e1, e2, e3, c1, c2, V1.out, V2.out, V3.out, W1.out, W2.out, W3.out, W4.out, W5.out, W6.out, W7.out, W8.out, W9.out] <;> first | done | exact rfl | (rw [IntWalk.i64_in _ (by omega)]; exact rfl) | trace_state)
    refine wpPt_val rfl rfl ?_
    apply Exists.intro
    refine ⟨fun w' hS => ?_, ?_⟩
    focus (obtain ⟨y3, rfl⟩ := hS; simp [go_sem, ↓IntWalk.iteOmega, e1, e2, e3, c1, c2, V1.out, V2.out, V3.out, W1.out, W2.out, W3.out, W4.out, W5.out, W6.out, W7.out, W8.out, W9.out] <;> first | done | exact rfl | (rw [IntWalk.i64_in _ (by omega)]; exact rfl) | trace_state)
    refine wpPt_val rfl rfl ?_
    apply Exists.intro
    refine ⟨fun w' hS => ?_, ?_⟩
    focus (obtain ⟨y3, rfl⟩ := hS; simp [go_sem, ↓IntWalk.iteOmega, e1, e2, e3, c1, c2, V1.out, V2.out, V3.out, W1.out, W2.out, W3.out, W4.out, W5.out, W6.out, W7.out, W8.out, W9.out] <;> first | done | exact rfl | (rw [IntWalk.i64_in _ (by omega)]; exact rfl) | trace_state)
    refine wpPt_val rfl rfl ?_
    apply Exists.intro
    refine ⟨fun w' hS => ?_, ?_⟩
    focus (obtain ⟨y3, rfl⟩ := hS; simp [go_sem, ↓IntWalk.iteOmega, e1, e2, e3, c1, c2, V1.out, V2.out, V3.out, W1.out, W2.out, W3.out, W4.out, W5.out, W6.out, W7.out, W8.out, W9.out] <;> first | done | exact rfl | (rw [IntWalk.i64_in _ (by omega)]; exact rfl) | trace_state)
    refine wpPt_val rfl rfl ?_
    apply Exists.intro
    refine ⟨fun w' hS => ?_, ?_⟩
    focus (obtain ⟨y3, rfl⟩ := hS; simp [go_sem, ↓IntWalk.iteOmega, e1, e2, e3, c1, c2, V1.out, V2.out, V3.out, W1.out, W2.out, W3.out, W4.out, W5.out, W6.out, W7.out, W8.out, W9.out] <;> first | done | exact rfl | (rw [IntWalk.i64_in _ (by omega)]; exact rfl) | trace_state)
    refine wpPt_val rfl rfl ?_
    apply Exists.intro
    refine ⟨fun w' hS => ?_, ?_⟩
    focus (obtain ⟨y3, rfl⟩ := hS; simp [go_sem, ↓IntWalk.iteOmega, e1, e2, e3, c1, c2, V1.out, V2.out, V3.out, W1.out, W2.out, W3.out, W4.out, W5.out, W6.out, W7.out, W8.out, W9.out] <;> first | done | exact rfl | (rw [IntWalk.i64_in _ (by omega)]; exact rfl) | trace_state)
    refine wpPt_val rfl rfl ?_
    apply Exists.intro
    refine ⟨fun w' hS => ?_, ?_⟩
    focus (obtain ⟨y3, rfl⟩ := hS; simp [go_sem, ↓IntWalk.iteOmega, e1, e2, e3, c1, c2, V1.out, V2.out, V3.out, W1.out, W2.out, W3.out, W4.out, W5.out, W6.out, W7.out, W8.out, W9.out] <;> first | done | exact rfl | (rw [IntWalk.i64_in _ (by omega)]; exact rfl) | trace_state)
    refine wpPt_val rfl rfl ?_
    apply Exists.intro
    refine ⟨fun w' hS => ?_, ?_⟩
    focus (obtain ⟨y3, rfl⟩ := hS; simp [go_sem, ↓IntWalk.iteOmega, e1, e2, e3, c1, c2, V1.out, V2.out, V3.out, W1.out, W2.out, W3.out, W4.out, W5.out, W6.out, W7.out, W8.out, W9.out] <;> first | done | exact rfl | (rw [IntWalk.i64_in _ (by omega)]; exact rfl) | trace_state)
    refine wpPt_val rfl rfl ?_
    apply Exists.intro
    refine ⟨fun w' hS => ?_, ?_⟩
    focus (obtain ⟨y3, rfl⟩ := hS; simp [go_sem, ↓IntWalk.iteOmega, e1, e2, e3, c1, c2, V1.out, V2.out, V3.out, W1.out, W2.out, W3.out, W4.out, W5.out, W6.out, W7.out, W8.out, W9.out] <;> first | done | exact rfl | (rw [IntWalk.i64_in _ (by omega)]; exact rfl) | trace_state)
    refine wpPt_val rfl rfl ?_
    apply Exists.intro
    refine ⟨fun w' hS => ?_, ?_⟩
    focus (obtain ⟨y3, rfl⟩ := hS; simp [go_sem, ↓IntWalk.iteOmega, e1, e2, e3, c1, c2, V1.out, V2.out, V3.out, W1.out, W2.out, W3.out, W4.out, W5.out, W6.out, W7.out, W8.out, W9.out] <;> first | done | exact rfl | (rw [IntWalk.i64_in _ (by omega)]; exact rfl) | trace_state)
    refine wpPt_one rfl rfl (fun K hK => ?_)
    go_simp
    refine hK _ _ (fun hkn => absurd hkn (by decide)) ?_
    clear hK K
    refine NoPanic.normal ?_
    obtain ⟨x, hx⟩ : ∃ x, (x1.toNat : Int) * 131 + (x2.toNat : Int) * 1117 + (p : Int) * 29 + (q3 : Int) * 53 = x := ⟨_, rfl⟩
    rw [hx]
    have hx0 : 0 ≤ x := by omega
    have hx1 : x < 2147483648 := by omega
    have hxd := xor_bd (x := x) (y := x / 64) hx0 hx1 (by omega) (by omega)
    have V4 : Int.tdiv x 64 = x / 64 := Int.tdiv_eq_ediv_of_nonneg hx0
    obtain ⟨z, hz'⟩ : ∃ z, bits .xor .i64 x (x / 64) = z := ⟨_, rfl⟩
    rw [hz'] at hxd
    have h1 := Int.emod_nonneg z (show m ≠ 0 by omega)
    have h2 := Int.emod_lt_of_pos z (show 0 < m by omega)
    clear hx W1 W2 W3 W4 W5 W6 W7 W8 W9 V1 V2 V3
    go_wp2
    go_ret
    trace_state
    exact ⟨z % m, rfl, h1, .inl h2, (HN.out ⟨#[], _⟩).1, (HN.out ⟨#[], _⟩).2⟩

end Go.Proofs.Ytkpmaifdeeecjaa
