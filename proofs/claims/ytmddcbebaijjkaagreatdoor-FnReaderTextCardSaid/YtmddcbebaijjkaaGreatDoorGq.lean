/- Lemmas and walks, part Gq. -/
import Derived.Test.YtmddcbebaijjkaaGreatDoorDri
import Derived.Test.YtmddcbebaijjkaaGreatDoorPck

/- Draws: DrawLongestWord. -/
namespace Go.Proofs.YtmddcbebaijjkaaGreatDoor
open Go.RowKit
set_option linter.unusedVariables false
set_option linter.unusedSimpArgs false

theorem any_short {o l m : Int} {ps : List Pr} {base last c : Int} (hkv : KV o l m ps base last) (hc : Okc l m ps.length last c) : (anyW l ps last c).length ≤ ps.length + 3 := by
  rcases hc with h | ⟨hg, rfl⟩
  · rw [any_hw h]
    have := W_len h
    omega
  · rw [any_nw, List.length_append, List.length_take]
    have hl : hw l ps.length last = true := by
      rcases hkv.last with ⟨rfl, _⟩ | h
      · exact absurd rfl (grB_iff.1 hg).1
      · exact h
    have := W_len hl
    omega

end Go.Proofs.YtmddcbebaijjkaaGreatDoor

/- Draws: DrawGreedyCodes, DrawLearnKnown. -/
namespace Go.Proofs.YtmddcbebaijjkaaGreatDoor
open Go.RowKit
set_option linter.unusedVariables false
set_option linter.unusedSimpArgs false



end Go.Proofs.YtmddcbebaijjkaaGreatDoor

/- Draws: l2Codes. -/
namespace Go.Proofs.YtmddcbebaijjkaaGreatDoor
open Go.RowKit
set_option linter.unusedVariables false
set_option linter.unusedSimpArgs false

theorem calls_nm {P : Program} {f : FuncId} {args : Array Value} {Q : Ending → World → Prop} {W : World} (F : World → Prop) (hF : F W) (h : ∀ X, F X → Calls P f args X Q) : Calls P f args W Q := h W hF

theorem rd_grew0 {α : Type} {E : Enc α} {A : Option Addr} {w w' : World} {a : Option Addr} {cap : Nat} {xs : List α} (h : Rd E w a cap xs) (hg : Grew A w w') (ha : ∀ X Y, A = some X → a = some Y → 0 < cap → X.block ≠ Y.block) : Rd E w' a cap xs := by
  rcases Nat.eq_zero_or_pos cap with h0 | h0
  · exact ⟨h.1, h.2.1, .inl h0⟩
  · exact rd_grew h hg fun X Y hX hY => ha X Y hX hY h0

/-- what is known in block k, and codes of the call's own, beside a source -/
structure CS (w wr : World) (B n : Nat) (o l m : Int) (b : Nat) (pa : Option Addr) (pc : Nat) (ps : List Pr) (last : Int) (A : Option Addr) (c : Nat) (cs : List Int) : Prop where
  blk : wr.heap[w.heap.size]? = some (.cells #[.int .i64 o, .int .i64 l, .int .i64 m, .slice pa ps.length pc, .int .i64 b, .int .i64 last] 26 (0, 0))
  rd : RdP wr pa pc ps
  own : Own encI 3 wr A c cs (w.heap.size + 1)
  sep : ∀ Y, pa = some Y → 0 < pc → Y.block ≠ B ∧ Y.block ≠ w.heap.size ∧ Y.block < wr.heap.size ∧ ∀ X, A = some X → X.block ≠ Y.block
  src : Dsrc wr B n
  grew : Grew (some ⟨B, 0, none⟩) w wr
  low : B < w.heap.size

section
variable {w wr w' : World} {B n n' : Nat} {o l m : Int} {b : Nat} {pa : Option Addr} {pc : Nat} {ps : List Pr} {last : Int} {A : Option Addr} {c : Nat} {cs : List Int}

theorem CS.lt (h : CS w wr B n o l m b pa pc ps last A c cs) : w.heap.size < wr.heap.size := (Array.getElem?_eq_some_iff.1 h.blk).1

theorem CS.draw (h : CS w wr B n o l m b pa pc ps last A c cs) (hd : Drn wr B n' w') : CS w w' B n' o l m b pa pc ps last A c cs := by
  have hg := hd.grew
  have hlow := h.low
  refine ⟨blk_grew hg h.blk (fun X hX e => by cases hX; simp at e; omega), rd_grew0 h.rd hg (fun X Y hX hY hc => by cases hX; exact (h.sep Y hY hc).1.symm), h.own.of_block fun X hX hl => hg.block _ hl (fun Y hY e => by cases hY; have := own_lo h.own X hX; simp at e; omega), fun Y hY hc => ?_, hd.1, grew_trans h.grew hg, hlow⟩
  obtain ⟨a1, a2, a3, a4⟩ := h.sep Y hY hc
  exact ⟨a1, a2, by have := hg.size; omega, a4⟩

theorem CS.more (h : CS w wr B n o l m b pa pc ps last A c cs) (hm : More wr w') : CS w w' B n o l m b pa pc ps last A c cs := by
  obtain ⟨x, rfl⟩ := hm
  refine ⟨blk_plus h.blk x, Rd.plus h.rd x, h.own.plus x, fun Y hY hc => ?_, h.src.plus x, grew_plus h.grew x, h.low⟩
  obtain ⟨a1, a2, a3, a4⟩ := h.sep Y hY hc
  exact ⟨a1, a2, by rw [plus_size]; omega, a4⟩

theorem CS.app {A' : Option Addr} {c' : Nat} {cs' : List Int} (h : CS w wr B n o l m b pa pc ps last A c cs) (hown : Own encI 3 w' A' c' cs' (w.heap.size + 1)) (hg : Grew A wr w') (hx : Nxt A A' wr.heap.size) : CS w w' B n o l m b pa pc ps last A' c' cs' := by
  have hlo := own_lo h.own
  have hlow := h.low
  refine ⟨blk_grew hg h.blk (fun X hX e => by have := hlo X hX; omega), rd_grew0 h.rd hg (fun X Y hX hY hc => (h.sep Y hY hc).2.2.2 X hX), hown, fun Y hY hc => ?_, h.src.grew hg (fun X hX => by have := hlo X hX; omega), grew_own h.grew hg (fun X hX => by have := hlo X hX; omega), hlow⟩
  obtain ⟨a1, a2, a3, a4⟩ := h.sep Y hY hc
  refine ⟨a1, a2, by have := hg.size; omega, fun X hX => ?_⟩
  rcases hx X hX with ⟨Z, hZ, he⟩ | he
  · have := a4 Z hZ; omega
  · omega

theorem CS.step {x : Ext} {pa2 : Option Addr} {pc2 : Nat} {ps2 : List Pr} {last2 : Int} (h : CS w wr B n o l m b pa pc ps last A c cs) (hown : Own encP 81 (Go.Proofs.YtmddcbebaijjkaaGreatDoor.plus wr x) pa2 pc2 ps2 wr.heap.size) :
    CS w (Go.Proofs.YtmddcbebaijjkaaGreatDoor.plus (patch wr w.heap.size (.cells #[.int .i64 o, .int .i64 l, .int .i64 m, .slice pa2 ps2.length pc2, .int .i64 b, .int .i64 last2] 26)) x) B n o l m b pa2 pc2 ps2 last2 A c cs := by
  have hlt := h.lt
  have hlow := h.low
  have hlo := own_lo h.own
  have hlo2 := own_lt hown
  have hown2 := own_swap (w2 := patch wr w.heap.size (.cells #[.int .i64 o, .int .i64 l, .int .i64 m, .slice pa2 ps2.length pc2, .int .i64 b, .int .i64 last2] 26)) hown (by simp) (by simp)
  refine ⟨blk_plus (patch_at _ _ _ hlt) x, hown2.rd, (own_patch h.own (fun X hX e => by have := hlo X hX; omega)).plus x, fun Y hY hc => ?_, (h.src.of_block (fun k hk hl => patch_other _ _ _ (by omega)) (by simp)).plus x, grew_plus (grew_hi h.grew (Nat.le_refl _) _) x, hlow⟩
  have := hlo2 Y hY
  refine ⟨by omega, by omega, by simp at this ⊢; omega, fun X hX e => ?_⟩
  have := (own_lt h.own X hX).2
  omega

theorem CS.mono {n2 : Nat} (h : CS w wr B n o l m b pa pc ps last A c cs) (hn : n ≤ n2) : CS w wr B n2 o l m b pa pc ps last A c cs :=
  ⟨h.blk, h.rd, h.own, h.sep, h.src.mono hn, h.grew, h.low⟩

end

/-- codes that lead from one thing known to another -/
def Lead (l m : Int) (b : Nat) (ps0 : List Pr) (last0 : Int) (cs : List Int) (ps : List Pr) (last : Int) (k : Nat) : Prop :=
  ∃ W D, D.length ≤ 60 * k ∧ ∀ rest, wlk l m b (cs ++ rest) ps0 last0 [] [] = wlk l m b rest ps last W D

theorem Lead.start (l m : Int) (b : Nat) (ps : List Pr) (last : Int) : Lead l m b ps last [] ps last 0 := ⟨[], [], by simp, fun rest => rfl⟩

theorem Lead.clear {l m : Int} {b : Nat} {ps0 : List Pr} {last0 : Int} {cs : List Int} {ps : List Pr} {last : Int} {k : Nat} (h : Lead l m b ps0 last0 cs ps last k) : Lead l m b ps0 last0 (cs ++ [two l]) (ps.take b) (-1) (k + 1) := by
  obtain ⟨W, D, h1, h2⟩ := h
  refine ⟨W ++ [wd l m ps.length last], D, by omega, fun rest => ?_⟩
  rw [List.append_assoc, h2, List.singleton_append, wlk_clear]

theorem Lead.code {l m : Int} {b : Nat} {ps0 : List Pr} {last0 : Int} {cs : List Int} {ps : List Pr} {last c : Int} {k : Nat} (h : Lead l m b ps0 last0 cs ps last k) (hc : Okc l m ps.length last c) (hw : (anyW l ps last c).length ≤ 60) (hk : k ≤ 30) : Lead l m b ps0 last0 (cs ++ [c]) (aftP l m ps last c) c (k + 1) := by
  obtain ⟨W, D, h1, h2⟩ := h
  refine ⟨W ++ [wd l m ps.length last], D ++ anyW l ps last c, ?_, fun rest => ?_⟩
  rotate_left
  · rw [List.append_assoc, h2, List.singleton_append, wlk_word hc (by omega)]
  · rw [List.length_append]; omega

theorem Lead.stop {l m : Int} {b : Nat} {ps0 : List Pr} {last0 : Int} {cs : List Int} {ps : List Pr} {last : Int} {k : Nat} (h : Lead l m b ps0 last0 cs ps last k) : ∃ W D, wlk l m b cs ps0 last0 [] [] = some (W, D) := by
  obtain ⟨W, D, h1, h2⟩ := h
  exact ⟨W, D, by rw [← List.append_nil cs, h2, wlk_nil]⟩

theorem Lead.fin {l m : Int} {b : Nat} {ps0 : List Pr} {last0 : Int} {cs : List Int} {ps : List Pr} {last : Int} {k : Nat} (h : Lead l m b ps0 last0 cs ps last k) : ∃ W D, wlk l m b (cs ++ [two l + 1]) ps0 last0 [] [] = some (W, D) := by
  obtain ⟨W, D, h1, h2⟩ := h
  exact ⟨_, D, by rw [h2, wlk_end, if_pos rfl]⟩

/-- a draw of codes -/
def RetCs (w : World) (B n most : Nat) (l m : Int) (b : Nat) (ps : List Pr) (last : Int) (e : Ending) (w' : World) : Prop :=
  ∃ A c cs, e = .returned (.slice A (cs : List Int).length c) ∧ Own encI 3 w' A c cs (w.heap.size + 1) ∧ cs.length ≤ most + 1 ∧ (∃ W D, wlk l m b cs ps last [] [] = some (W, D)) ∧ (∀ X, A = some X → w.heap.size < X.block) ∧ Drn w B n w'

set_option maxRecDepth 100000 in
set_option maxHeartbeats 4000000 in
theorem l2Codes_d (B n most : Nat) (o l m : Int) (pa0 : Option Addr) (pc0 : Nat) (ps0 : List Pr) (b : Nat) (last0 : Int) (w : World) (hd : Dsrc w B n) (hn : n ≤ 700000) (hkv : KV o l m ps0 (b : Int) last0) (hr : RdP w pa0 pc0 ps0) (hoff : ∀ X, pa0 = some X → 0 < pc0 → X.block ≠ B) (hlen : ps0.length ≤ 20) (hmost : most ≤ 30) :
    Calls Tryz.prog 82 #[.pointer (some ⟨B, 0, none⟩), .agg #[.int .i64 o, .int .i64 l, .int .i64 m, .slice pa0 ps0.length pc0, .int .i64 b, .int .i64 last0], .int .i64 most] w (RetCs w B (n + 3 + 4 * most) most l m b ps0 last0) := by
  have hB := hd.B_lt
  have hs := hkv.s
  obtain ⟨_, l1, l2, _, _⟩ := sv_iff.1 hs
  have la : 0 ≤ l := by omega
  have lb : l ≤ 10 := by omega
  have hrl := rd_lt hr
  have HD := Lib.hid hd
  have HR := Lib.hid (show Rd encP w pa0 pc0 ps0 from hr)
  have HK0 := Lib.hid hkv
  have HOF := Lib.hid hoff
  obtain ⟨i0, hi, iz0, iz1, iz2⟩ := info_parts infoInt
  clear hd hr hkv hoff
  go_enter Tryz.func82, Tryz.ntmps82
  go_wp2_with fail
  refine calls_nm (fun X => CS w X B n o l m b pa0 pc0 ps0 last0 (some ⟨w.heap.size + 1, 0, none⟩) 0 []) ⟨?_, (by (try unfold RdP); repeat (first | (with_reducible exact HR.out) | (with_reducible apply rd_seq) | (with_reducible apply Rd.plus) | (with_reducible apply Rd.alloc) | (with_reducible apply Rd.drew) | (with_reducible apply Rd.drewN))), ?_, ?_, (by repeat (first | (with_reducible exact HD.out) | (with_reducible apply dsrc_seq) | (with_reducible apply dsrc_draw) | (with_reducible apply Dsrc.plus) | (with_reducible apply Dsrc.alloc) | (with_reducible apply Dsrc.drew))), (by repeat (first | (with_reducible exact grew_refl _ _) | (with_reducible apply grew_plus) | (with_reducible apply grew_alloc) | (with_reducible apply grew_drew) | (with_reducible apply grew_pat))), hB⟩ ?_
  · apply blk_alloc; exact push_new _ _ _ rfl
  · exact Own.newAt (by simp) (by omega) rfl (row_of encI _ _ (fun i x h => by simp at h)) (by simp) (by omega)
  · exact fun Y hY hc => ⟨HOF.out Y hY hc, by have := hrl Y hY hc; omega, by have := hrl Y hY hc; simp; omega, fun X hX e => by cases hX; have := hrl Y hY hc; simp at e; omega⟩
  intro X hX
  have HX := Lib.hid hX
  clear hX HR HD HOF hrl
  refine (pick_d B n _ _ HX.out.src (by omega)).mono ?_
  rintro e w1 ⟨v, rfl, hv, hdn⟩
  have hvm : v ≤ most := by omega
  have H1 := Lib.hid (HX.out.draw hdn)
  clear hdn HX hv
  go_wp2_with fail
  go_loopw [7, 8] (fun u q wr => ∃ (j : Nat) (pa : Option Addr) (pc : Nat) (ps : List Pr) (last : Int) (A : Option Addr) (cp : Nat) (cs : List Int), u = .slice A cs.length cp ∧ q = .int .i64 j ∧ j + cs.length ≤ most ∧ ps.length ≤ 20 + cs.length ∧ KV o l m ps (b : Int) last ∧ Lead l m b ps0 last0 cs ps last cs.length ∧
    CS w wr B (n + 1 + 4 * (most - j)) o l m b pa pc ps last A cp cs) (fun _ q _ => (intOf q).toNat)
  case atStart => exact ⟨v, pa0, pc0, ps0, last0, _, 0, [], rfl, rfl, by simp; omega, by simp; omega, HK0.out, Lead.start _ _ _ _ _, H1.out.mono (by omega)⟩
  case round =>
    obtain ⟨j, pa, pc, ps, last, A, cp, cs, rfl, rfl, hj, hpl, hkv, hle, hcs⟩ := hrel
    have H := Lib.hid hcs
    have HK := Lib.hid hkv
    have HL := Lib.hid hle
    have r0 := cell_of hcs.blk
    have z0 := hcs.lt
    have hcp := hcs.own.rd.1
    have hcp2 := hcs.own.rd.2.1
    have hbp : b ≤ ps.length := by have := hkv.b1; omega
    clear hcs hkv hle
    rcases dec (0 < j) with ⟨hlt, v1⟩ | ⟨hlt, v1⟩
    · go_wp2_with fail
      refine (l2Pick_d B _ o l m pa pc ps.length b last _ H.out.src (by omega) HK.out.lim (by omega)).mono ?_
      rintro e w5 ⟨c, rfl, hok, hne, hdn⟩
      have HOK := Lib.hid hok
      have H5 := Lib.hid (H.out.draw hdn)
      have hshort := any_short HK.out hok
      clear hok hdn r0 z0
      have r5 := cell_of H5.out.blk
      have z5 := H5.out.lt
      go_wp2_with fail
      refine (pick_d B _ _ _ H5.out.src (by omega)).mono ?_
      rintro e w6 ⟨v6, rfl, hv6, hdn⟩
      have H6 := Lib.hid (H5.out.draw hdn)
      clear hdn r5 z5
      have r6 := cell_of H6.out.blk
      have z6 := H6.out.lt
      rcases (by omega : v6 = 0 ∨ 0 < v6) with hv | hv
      · have q6 : ((v6 : Int) == 0) = true := by simp; omega
        have HSC := Lib.hid (fun (W : World) (h : RdP W pa pc ps) => l2Step_clear o l m pa pc ps b last W h hs hbp (by omega))
        have hcl := HK.out.cleared
        have hlc := HL.out.clear
        have htl : (ps.take b).length ≤ ps.length := by rw [List.length_take]; omega
        simp only [Int.toNat_natCast] at hcl
        obtain ⟨qs, hqs⟩ : ∃ qs, ps.take b = qs := ⟨_, rfl⟩
        rw [hqs] at HSC hcl hlc htl
        have HKC := Lib.hid hcl
        have HLC := Lib.hid hlc
        clear hqs hcl hlc
        go_wp2_with fail
        refine (l1Clear_any _ _ _ la lb _).mono ?_
        rintro e w' ⟨rfl, x6, rfl⟩
        go_wp2_with (at_builtin; refine wpList_append_at encI _ _ _ _ i0 _ 8 rfl rfl Tryz.underlying66 hi iz0 iz1 iz2 rfl (by decide) cs A cp (w.heap.size + 1) (by repeat (first | (with_reducible exact H6.out.own) | (with_reducible apply own_seq) | (with_reducible apply own_draw) | (with_reducible apply Own.plus) | (with_reducible apply Own.alloc) | (with_reducible apply Own.drew) | (with_reducible apply Own.drewN))) rfl [two l] _ 0 1 (new_cells encI (two l) _ _ (by first | omega | rfl | (simp <;> omega) | (simp only [List.length_cons, List.length_nil, plus_size, World.size_alloc]; omega))) rfl (by first | omega | rfl | (simp <;> omega) | (simp only [List.length_cons, List.length_nil, plus_size, World.size_alloc]; omega)) (by first | omega | rfl | (simp <;> omega) | (simp only [List.length_cons, List.length_nil, plus_size, World.size_alloc]; omega)) (by simp <;> omega) ?_; intro A7 c7 w7 hw7 hg7 hx7; have H7 := Lib.hid (CS.app (CS.more H6.out (by repeat (first | exact More.refl _ | apply More.plus | apply More.alloc | apply More.drew | apply More.drewN))) hw7 hg7 hx7); have r7 := cell_of H7.out.blk; have z7 := H7.out.lt; have s7 := fun i v => setCell_patch H7.out.blk i v; have f7 := free_of H7.out.blk; clear hw7 hg7 hx7)
        refine (HSC.out w7 H7.out.rd).mono ?_
        rintro e w' ⟨pa2, pc2, rfl, hown, x8, rfl⟩
        have H8 := Lib.hid (CS.step (last2 := -1) H7.out hown)
        clear hown
        go_wp2_with fail
        go_roundw
        case rel => exact ⟨j - 1, pa2, pc2, qs, -1, A7, c7, cs ++ [two l], by simp, int_val (by omega), by simp; omega, by simp; omega, HKC.out, by simpa using HLC.out, H8.out.mono (by omega)⟩
        case measure => simp [intOf]; omega
      · have q6 : ((v6 : Int) == 0) = false := by simp; omega
        go_wp2_with (at_builtin; refine wpList_append_at encI _ _ _ _ i0 _ 8 rfl rfl Tryz.underlying66 hi iz0 iz1 iz2 rfl (by decide) cs A cp (w.heap.size + 1) (by repeat (first | (with_reducible exact H6.out.own) | (with_reducible apply own_seq) | (with_reducible apply own_draw) | (with_reducible apply Own.plus) | (with_reducible apply Own.alloc) | (with_reducible apply Own.drew) | (with_reducible apply Own.drewN))) rfl [c] _ 0 1 (new_cells encI (c) _ _ (by first | omega | rfl | (simp <;> omega) | (simp only [List.length_cons, List.length_nil, plus_size, World.size_alloc]; omega))) rfl (by first | omega | rfl | (simp <;> omega) | (simp only [List.length_cons, List.length_nil, plus_size, World.size_alloc]; omega)) (by first | omega | rfl | (simp <;> omega) | (simp only [List.length_cons, List.length_nil, plus_size, World.size_alloc]; omega)) (by simp <;> omega) ?_; intro A7 c7 w7 hw7 hg7 hx7; have H7 := Lib.hid (CS.app (CS.more H6.out (by repeat (first | exact More.refl _ | apply More.plus | apply More.alloc | apply More.drew | apply More.drewN))) hw7 hg7 hx7); have r7 := cell_of H7.out.blk; have z7 := H7.out.lt; have s7 := fun i v => setCell_patch H7.out.blk i v; have f7 := free_of H7.out.blk; clear hw7 hg7 hx7)
        refine (l2Step_code o l m pa pc ps b last c w7 H7.out.rd HK.out HOK.out hne).mono ?_
        rintro e w' ⟨pa2, pc2, rfl, hown, x8, rfl⟩
        have H8 := Lib.hid (CS.step (last2 := c) H7.out hown)
        clear hown
        go_wp2_with fail
        go_roundw
        case rel => exact ⟨j - 1, pa2, pc2, aftP l m ps last c, c, A7, c7, cs ++ [c], by simp, int_val (by omega), by simp; omega, by have := aft_len_le (l := l) (m := m) (ps := ps) (last := last) (c := c); simp; omega, HK.out.after HOK.out, by simpa using HL.out.code HOK.out (by omega) (by omega), H8.out.mono (by omega)⟩
        case measure => simp [intOf]; omega
    · obtain rfl : j = 0 := by omega
      go_wp2_with fail
      refine (pick_d B _ _ _ H.out.src (by omega)).mono ?_
      rintro e w6 ⟨v6, rfl, hv6, hdn⟩
      have H6 := Lib.hid (H.out.draw hdn)
      clear hdn r0 z0
      have r6 := cell_of H6.out.blk
      have z6 := H6.out.lt
      rcases (by omega : v6 = 0 ∨ 0 < v6) with hv | hv
      · have q6 : decide ((0 : Int) < (v6 : Int)) = false := by simp; omega
        go_wp2_with fail
        go_ret
        exact ⟨A, cp, cs, rfl, H6.out.own, by omega, HL.out.stop, fun X hX => by have := own_lo H6.out.own X hX; omega, drn_of (H6.out.src.mono (by omega)) H6.out.grew hB⟩
      · have q6 : decide ((0 : Int) < (v6 : Int)) = true := by simp; omega
        go_wp2_with fail
        refine (l1End_any _ _ _ la lb _).mono ?_
        rintro e w' ⟨rfl, x6, rfl⟩
        go_wp2_with (at_builtin; refine wpList_append_at encI _ _ _ _ i0 _ 8 rfl rfl Tryz.underlying66 hi iz0 iz1 iz2 rfl (by decide) cs A cp (w.heap.size + 1) (by repeat (first | (with_reducible exact H6.out.own) | (with_reducible apply own_seq) | (with_reducible apply own_draw) | (with_reducible apply Own.plus) | (with_reducible apply Own.alloc) | (with_reducible apply Own.drew) | (with_reducible apply Own.drewN))) rfl [two l + 1] _ 0 1 (new_cells encI (two l + 1) _ _ (by first | omega | rfl | (simp <;> omega) | (simp only [List.length_cons, List.length_nil, plus_size, World.size_alloc]; omega))) rfl (by first | omega | rfl | (simp <;> omega) | (simp only [List.length_cons, List.length_nil, plus_size, World.size_alloc]; omega)) (by first | omega | rfl | (simp <;> omega) | (simp only [List.length_cons, List.length_nil, plus_size, World.size_alloc]; omega)) (by simp <;> omega) ?_; intro A7 c7 w7 hw7 hg7 hx7; have H7 := Lib.hid (CS.app (CS.more H6.out (by repeat (first | exact More.refl _ | apply More.plus | apply More.alloc | apply More.drew | apply More.drewN))) hw7 hg7 hx7); have r7 := cell_of H7.out.blk; have z7 := H7.out.lt; have s7 := fun i v => setCell_patch H7.out.blk i v; have f7 := free_of H7.out.blk; clear hw7 hg7 hx7)
        go_ret
        exact ⟨A7, c7, cs ++ [two l + 1], by simp, H7.out.own, by simp; omega, HL.out.fin, fun X hX => by have := own_lo H7.out.own X hX; omega, drn_of (H7.out.src.mono (by omega)) H7.out.grew hB⟩

end Go.Proofs.YtmddcbebaijjkaaGreatDoor
