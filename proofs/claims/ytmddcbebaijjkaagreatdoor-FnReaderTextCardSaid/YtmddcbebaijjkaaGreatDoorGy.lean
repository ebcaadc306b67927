/- Lemmas and walks, part Gy. -/
import Derived.Test.YtmddcbebaijjkaaGreatDoorGf
import Derived.Test.YtmddcbebaijjkaaGreatDoorGi
import Derived.Shelf.RegionOpenPlain
import Derived.Test.YtmddcbebaijjkaaGreatDoorGk

/- Codes that can follow, and their words, by the program: the walks of canFollow, l2Follows, slices.Reverse, wordText. -/
namespace Go.Proofs.YtmddcbebaijjkaaGreatDoor
open Go.RowKit
set_option linter.unusedVariables false
set_option linter.unusedSimpArgs false

/-- a code can follow, the clear code and the end code among them -/
def canB (l m n last c : Int) : Bool := decide (0 ≤ c ∧ c ≤ gt l m n last)

theorem canB_iff {l m n last c : Int} : canB l m n last c = true ↔ (0 ≤ c ∧ c ≤ gt l m n last) := by simp [canB]

theorem canFollow_any (o l m : Int) (a : Option Addr) (n cap : Nat) (base last c : Int) (w : World) (h : sv o l m = true) (hn : n ≤ 1000000) :
    Calls Tryz.prog 89 #[.agg #[.int .i64 o, .int .i64 l, .int .i64 m, .slice a n cap, .int .i64 base, .int .i64 last], .int .i64 c] w (Ret w (.bool (canB l m n last c))) := by
  have E1 := Lib.hid (show canB l m n last c = (decide (0 ≤ c) && decide (c ≤ gt l m n last)) from Bool.decide_and _ _)
  rcases dec (0 ≤ c) with ⟨h1, v1⟩ | ⟨h1, v1⟩
  all_goals
    go_enter Tryz.func89, Tryz.ntmps89
    go_wp2_with (go_at_call 102; refine (greatest_any _ _ _ _ _ _ _ _ _ h hn).mono ?_; rintro e w' ⟨rfl, xc, rfl⟩)
    go_ret
    exact ret_of (bool_ret (by rw [E1.out, v1]; simp)) (by repeat (first | exact More.refl _ | apply More.plus | apply More.alloc | apply More.drew | apply More.drewN))

/-- a code that has a word can follow -/
def folB (l m n last c : Int) : Bool := hw l n c || (grB l m n last && decide (c = nw l n))

theorem folB_iff {l m : Int} {n : Nat} {last c : Int} : folB l m n last c = true ↔ Okc l m n last c := by
  unfold folB Okc
  simp

theorem l2Follows_any (o l m : Int) (a : Option Addr) (n cap : Nat) (base last c : Int) (w : World) (h : sv o l m = true) (hn : n ≤ 1000000) (hlast : -1 ≤ last) :
    Calls Tryz.prog 134 #[.agg #[.int .i64 o, .int .i64 l, .int .i64 m, .slice a n cap, .int .i64 base, .int .i64 last], .int .i64 c] w (Ret w (.bool (folB l m n last c))) := by
  have hn0 : (0 : Int) ≤ n := by omega
  have hn1 : (n : Int) ≤ 1000000 := by omega
  have E1 := Lib.hid (show folB l m n last c = (hw l n c || (grB l m n last && decide (c = nw l n))) from rfl)
  cases h1 : hw l n c <;> cases h2 : grB l m n last
  all_goals
    go_enter Tryz.func134, Tryz.ntmps134
    go_wp2_with (first | (go_at_call 106; refine (l2Code_yes _ _ _ _ _ h hn0 hn1 _).mono ?_; rintro e w' ⟨rfl, xc, rfl⟩) | (go_at_call 143; refine (l2Grows_any _ _ _ _ _ _ _ _ _ h hn hlast).mono ?_; rintro e w' ⟨rfl, xc, rfl⟩) | (go_at_call 127; refine (l2Next_any _ _ _ _ _ _ _ _ _ h hn).mono ?_; rintro e w' ⟨rfl, xc, rfl⟩))
    go_ret
    exact ret_of (bool_ret (by rw [E1.out, h1, h2]; first | rfl | (simp; done) | (simp; rfl))) (by repeat (first | exact More.refl _ | apply More.plus | apply More.alloc | apply More.drew | apply More.drewN))

/-- bytes reversed in place -/
def RetRv (w : World) (b : Nat) (xs : List UInt8) (n : Nat) (e : Ending) (w' : World) : Prop :=
  e = .returned (.tuple #[]) ∧ ∃ (cu : Array Value) (x : Ext), cu.size = n ∧ Row encB cu xs.reverse ∧ w' = plus (patch w b (.cells cu 5)) x

theorem rv_world {w : World} {b i j : Nat} {cu : Array Value} {x : Ext} {u v : Value} (hb : b < w.heap.size) :
    (((plus (patch w b (.cells cu 5)) x).setCell ⟨b, i, none⟩ u).setCell ⟨b, j, none⟩ v).drew = plus (patch w b (.cells ((cu.setIfInBounds i u).setIfInBounds j v) 5)) (x.draw 1) := by
  rw [plus_setCell_lt _ _ _ _ (by simpa using hb), setCell_patch (patch_at w b _ hb), patch_patch, plus_setCell_lt _ _ _ _ (by simpa using hb), setCell_patch (patch_at w b _ hb), patch_patch, plus_drew]

set_option maxRecDepth 100000 in
set_option maxHeartbeats 2000000 in
theorem Reverse_any (b cap : Nat) (xs : List UInt8) (cur : Array Value) (w : World) (hb : w.heap[b]? = some (.cells cur 5 (0, 0))) (hr : Row encB cur xs) (h0 : 0 < xs.length) (h1 : xs.length ≤ cap) (h2 : xs.length ≤ cur.size) (h3 : cap ≤ 9223372036854775807) :
    Calls Tryz.prog 131 #[.slice (some ⟨b, 0, none⟩) xs.length cap] w (RetRv w b xs cur.size) := by
  have hbs := (Array.getElem?_eq_some_iff.1 hb).1
  have HB := Lib.hid hb
  have HR := Lib.hid (Rvc.zero hr)
  have mixed : Tryz.prog.follows .mixedOrders = true := by kernel_rfl
  clear hb hr
  go_enter Tryz.func131, Tryz.ntmps131
  go_wp2
  go_loopw [2, 3] (fun p q wr => ∃ (k : Nat) (cu : Array Value) (x : Ext), k ≤ xs.length / 2 ∧ p = .int .i64 k ∧ q = .int .i64 ((xs.length : Int) - 1 - k) ∧ cu.size = cur.size ∧ Rvc cu xs k ∧ wr = plus (patch w b (.cells cu 5)) x) (fun p _ _ => xs.length - (intOf p).toNat)
  case atStart => exact ⟨0, cur, ⟨#[], w.drawn⟩, Nat.zero_le _, rfl, by simp, rfl, HR.out, by rw [patch_self w b _ HB.out, plus_self]⟩
  case round =>
    obtain ⟨k, cu, x, hk, rfl, rfl, hcu, hrv, hwr⟩ := hrel
    by_cases hlt : k < xs.length / 2
    · have v1 : decide ((k : Int) < (xs.length : Int) - 1 - k) = true := by simp; omega
      have hlo := hrv.lo hlt
      have hhi := hrv.hi hlt
      have HRS := Lib.hid (hrv.step hlt (by omega))
      have HC := Lib.hid hcu
      have hblk : wr.heap[b]? = some (.cells cu 5 (0, 0)) := by rw [hwr]; exact blk_plus (patch_at w b _ hbs) _
      have c1 : wr.cell? ⟨b, k, none⟩ = some (.int .u8 (bv xs k)) := by rw [cell_of hblk]; exact hlo
      have c2 : wr.cell? ⟨b, xs.length - 1 - k, none⟩ = some (.int .u8 (bv xs (xs.length - 1 - k))) := by rw [cell_of hblk]; exact hhi
      have f1 : wr.frozen? ⟨b, k, none⟩ = false := free_of hblk _
      have f2 : wr.frozen? ⟨b, xs.length - 1 - k, none⟩ = false := free_of hblk _
      have e1 : ((xs.length : Int) - 1 - k).toNat = xs.length - 1 - k := by omega
      have q1 : (k : Int) ≤ (xs.length : Int) - 1 ∧ (xs.length : Int) - 1 - k < (xs.length : Int) := by omega
      have HW := Lib.hid hwr
      clear hrv hcu hblk hlo hhi hwr
      go_wp2_with fail
      go_region_o
      rw [HW.out, rv_world hbs]
      go_wp2
      go_roundw
      case rel => exact ⟨k + 1, _, _, by omega, by go_num, int_val (by omega), by simp [HC.out], HRS.out, rfl⟩
      case measure => simp [intOf]; omega
    · have v1 : decide ((k : Int) < (xs.length : Int) - 1 - k) = false := by simp; omega
      have HR2 := Lib.hid (hrv.done hlt)
      clear hrv
      go_wp2
      go_end0
      exact ⟨rfl, cu, x, hcu, HR2.out, rfl⟩

end Go.Proofs.YtmddcbebaijjkaaGreatDoor

/- The word of a code, by the program: the walk of wordText. -/
namespace Go.Proofs.YtmddcbebaijjkaaGreatDoor
open Go.RowKit
set_option linter.unusedVariables false
set_option linter.unusedSimpArgs false

theorem rd_under {α : Type} {E : Enc α} {w w' : World} {a : Option Addr} {cap : Nat} {xs : List α} (h : Rd E w a cap xs) (hb : Below w.heap.size w w') : Rd E w' a cap xs :=
  h.of_block fun A hA hl => ⟨by have := hb.size; omega, hb.block _ hl⟩

set_option maxRecDepth 100000 in
set_option maxHeartbeats 4000000 in
theorem wordText_hw (o l m : Int) (a : Option Addr) (cap : Nat) (ps : List Pr) (base last : Int) (c0 : Int) (w : World) (hr : RdP w a cap ps) (hkv : KV o l m ps base last) (hc0 : hw l ps.length c0 = true) :
    Calls Tryz.prog 91 #[.agg #[.int .i64 o, .int .i64 l, .int .i64 m, .slice a ps.length cap, .int .i64 base, .int .i64 last], .int .i64 c0] w (Ret w (.string (bstr (W l ps c0)))) := by
  have hs := hkv.s
  have hn := kv_len (kvb_iff.2 hkv)
  obtain ⟨_, l1, l2, _, _⟩ := sv_iff.1 hs
  obtain ⟨t1, t2⟩ := two_lit l1 l2
  obtain ⟨i0, hi, hz0, hz1, hz2⟩ := info_parts infoByte
  have hc1 := hw_iff.1 hc0
  have v0 : (c0 == nw l ps.length) = false := by simp; unfold nw; omega
  have HKV := Lib.hid hkv
  have HRP := Lib.hid hr
  have HC0 := Lib.hid hc0
  clear hkv hc1 hr hc0
  go_enter Tryz.func91, Tryz.ntmps91
  go_wp2_with (first | (go_at_call 130; refine (nextWord_any _ _ _ _ _ _ _ _ _ hs (by omega)).mono ?_; rintro e w' ⟨rfl, xc, rfl⟩) | (go_at_call 66; refine (EndCode_yes _ _ _ hs _).mono ?_; rintro e w' ⟨rfl, xc, rfl⟩))
  go_loopw [1, 7] (fun q s wr => ∃ (c : Int) (bs : List UInt8) (A : Option Addr) (cp : Nat), hw l ps.length c = true ∧ q = .int .i64 c ∧ s = .slice A bs.length cp ∧ Own encB 5 wr A cp bs (w.heap.size + 1) ∧
      W l ps c0 = W l ps c ++ bs.reverse ∧ wr.heap[w.heap.size]? = some (.cells #[.int .i64 o, .int .i64 l, .int .i64 m, .slice a ps.length cap, .int .i64 base, .int .i64 last] 26 (0, 0)) ∧ Below w.heap.size w wr) (fun q _ _ => (intOf q).toNat)
  case atStart => exact ⟨c0, [], none, 0, HC0.out, rfl, rfl, .inl ⟨rfl, rfl, rfl⟩, by simp, blk_plus (push_new _ _ _ rfl) _, (by repeat (first | exact Below.refl _ _ | refine below_plus ?_ (by first | omega | (simp <;> omega)) _ | refine Below.alloc ?_ (by first | omega | (simp <;> omega)) _ | refine below_patch ?_ (by omega) _ | refine Below.drew ?_))⟩
  case round =>
    obtain ⟨c, bs, A, cp, hcw, rfl, rfl, hown, hwb, hblk, hbl⟩ := hrel
    have HB := Lib.hid hbl
    have HO := Lib.hid hown
    have HW := Lib.hid hwb
    have hsz := (Array.getElem?_eq_some_iff.1 hblk).1
    have rk := cell_of hblk
    have HBK := Lib.hid hblk
    have hbs : bs.length ≤ 3000 := by
      have h1 := congrArg List.length hwb
      have h2 := W_len HC0.out
      simp at h1
      omega
    obtain ⟨r1, r2, r3⟩ := RdP.open (rd_under HRP.out hbl)
    have hAlt := fun A hA => (own_lt hown A hA).2
    have hAlo := fun A hA => (own_lt hown A hA).1
    have hcw2 := hw_iff.1 hcw
    have HCW := Lib.hid hcw
    clear hbl hown hwb hblk hcw
    rcases dec (two l + 1 < c) with ⟨g1, v1⟩ | ⟨g1, v1⟩
    · obtain ⟨k, hk, hck⟩ := hw_pair HCW.out g1
      have hk : k < ps.length := by omega
      have hkk : k = (c - (two l + 1)).toNat - 1 := by rw [hck]; unfold nw; omega
      have hcub : c ≤ 5000 := by omega
      have hcl : (c - (two l + 1)).toNat - 1 < ps.length := by omega
      have hex : ∃ p, ps[k]? = some p := ⟨_, List.getElem?_eq_getElem hk⟩
      obtain ⟨p, hp⟩ := hex
      obtain ⟨ok1, ok2, ok3⟩ := HKV.out.ok _ p hp
      have okw := hw_iff.1 ok1
      rcases r3 with rfl | ⟨b, off, rfl, hb, hc⟩
      · exact absurd hk (by omega)
      obtain ⟨c1, c2⟩ := hc _ p hp
      rw [hkk] at c1 c2
      have HP := Lib.hid (show W l ps c = W l ps p.p ++ [UInt8.ofNat p.b.toNat] by rw [hck]; exact W_pair HKV.out.ok hp)
      have HN := Lib.hid (show hw l ps.length p.p = true from hw_iff.2 (by omega))
      have hdec : p.p < c := by rw [hck]; unfold nw; omega
      have hb3 : p.b ≤ 255 := by omega
      clear hp hc okw hcw2 ok1 hck hkk hk
      go_wp2_with (at_builtin; refine wpList_append_at encB _ _ _ _ i0 _ 1 rfl rfl Tryz.underlying34 hi hz0 hz1 hz2 rfl (by decide) bs A cp (w.heap.size + 1) (by repeat (first | (with_reducible exact HO.out) | (with_reducible apply Own.plus) | (with_reducible apply Own.alloc) | (with_reducible apply Own.drew))) rfl [UInt8.ofNat p.b.toNat] _ 0 1 (one_cells _ _ p.b ok2 hb3 (by simp)) rfl (by first | omega | rfl | (simp <;> omega) | (simp only [List.length_cons, List.length_nil, plus_size, World.size_alloc]; omega)) (by first | omega | rfl | (simp <;> omega) | (simp only [List.length_cons, List.length_nil, plus_size, World.size_alloc]; omega)) (by simp <;> omega) ?_; intro A6 c6 w6 hw6 hg6 hx6; have HO6 := Lib.hid hw6; have HG6 := Lib.hid hg6; have hrule6 := grew_rule hg6 hAlt; have z6 := hg6.size; simp at z6; clear hw6 hg6 hx6)
      go_roundw
      case rel =>
        refine ⟨p.p, bs ++ [UInt8.ofNat p.b.toNat], A6, c6, HN.out, rfl, by simp, HO6.out, by rw [HW.out, HP.out]; simp, ?_, HB.out.trans (Below.trans (b := _) (by repeat (first | exact Below.refl _ _ | refine below_plus ?_ (by first | omega | (simp <;> omega)) _ | refine Below.alloc ?_ (by first | omega | (simp <;> omega)) _ | refine below_patch ?_ (by omega) _ | refine Below.drew ?_)) (HG6.out.below (by simp <;> omega) fun X hX => by have := hAlo X hX; omega))⟩
        exact blk_grew HG6.out (by repeat (first | (with_reducible exact HBK.out) | (with_reducible apply blk_seq) | (with_reducible apply blk_draw) | (with_reducible apply blk_plus) | (with_reducible apply blk_alloc) | (with_reducible apply blk_drew) | (with_reducible refine blk_patch ?_ (by omega)) | exact HBK.out)) (fun X hX e => by have := hAlo X hX; omega)
      case measure => simp [intOf]; omega
    · have ok1 : 0 ≤ c := by omega
      have ok2 : c ≤ 255 := by omega
      have HWL := Lib.hid (show W l ps c0 = (bs ++ [UInt8.ofNat c.toNat]).reverse by rw [HW.out, W_lit (by omega)]; simp)
      go_wp2_with (at_builtin; refine wpList_append_at encB _ _ _ _ i0 _ 1 rfl rfl Tryz.underlying34 hi hz0 hz1 hz2 rfl (by decide) bs A cp (w.heap.size + 1) (by repeat (first | (with_reducible exact HO.out) | (with_reducible apply Own.plus) | (with_reducible apply Own.alloc) | (with_reducible apply Own.drew))) rfl [UInt8.ofNat c.toNat] _ 0 1 (one_cells _ _ c ok1 ok2 (by simp)) rfl (by first | omega | rfl | (simp <;> omega) | (simp only [List.length_cons, List.length_nil, plus_size, World.size_alloc]; omega)) (by first | omega | rfl | (simp <;> omega) | (simp only [List.length_cons, List.length_nil, plus_size, World.size_alloc]; omega)) (by simp <;> omega) ?_; intro A6 c6 w6 hw6 hg6 hx6; have HO6 := Lib.hid hw6; have HG6 := Lib.hid hg6; have z6 := hg6.size; simp at z6; clear hw6 hg6 hx6)
      obtain ⟨b6, cu6, rfl, q1, q2, q3, q4, q5, q6, q7⟩ := own_some HO6.out (by simp)
      have HBL6 := Lib.hid (HB.out.trans (Below.trans (b := _) (by repeat (first | exact Below.refl _ _ | refine below_plus ?_ (by first | omega | (simp <;> omega)) _ | refine Below.alloc ?_ (by first | omega | (simp <;> omega)) _ | refine below_patch ?_ (by omega) _ | refine Below.drew ?_)) (HG6.out.below (by simp <;> omega) fun X hX => by have := hAlo X hX; omega)))
      have hxl : (bs ++ [UInt8.ofNat c.toNat]).length = bs.length + 1 := by simp
      have hcall := Reverse_any b6 c6 (bs ++ [UInt8.ofNat c.toNat]) cu6 w6 q3 q5 (by simp) q6 (by have : cu6.size = c6 := by simpa [encB] using q4
                                                                                                  omega) q7
      have HCS := Lib.hid (show cu6.size = c6 by simpa [encB] using q4)
      rw [hxl] at hcall q6
      clear q3 q4 q5 hxl
      refine hcall.mono ?_
      rintro e w' ⟨rfl, cu, x9, hcu, hrow, rfl⟩
      have hrd : Rd encB (plus (patch w6 b6 (.cells cu 5)) x9) (some ⟨b6, 0, none⟩) c6 (bs ++ [UInt8.ofNat c.toNat]).reverse := (rd_patched q2 hrow (by simpa using q6) q7).plus _
      have hst := run_str (P := Tryz.prog) Tryz.underlying34 Tryz.underlying5 Tryz.underlying9 hrd (by simp)
      rw [List.length_reverse, List.length_append, List.length_singleton, ← HWL.out] at hst
      have HF := Lib.hid (below_plus (below_patch HBL6.out (b := b6) (by omega) (.cells cu 5)) (by simp; omega) x9)
      clear hrd hrow hcall
      go_wp2_with fail
      go_ret
      exact ret_of (by simp; rfl) (below_more HF.out)

end Go.Proofs.YtmddcbebaijjkaaGreatDoor

/- What is known after a code: the walks of wordText at every code, advance, l2Step. -/
namespace Go.Proofs.YtmddcbebaijjkaaGreatDoor
open Go.RowKit
set_option linter.unusedVariables false
set_option linter.unusedSimpArgs false

set_option maxHeartbeats 1000000 in
theorem wordText_any (o l m : Int) (a : Option Addr) (cap : Nat) (ps : List Pr) (base last : Int) (c : Int) (w : World) (hr : RdP w a cap ps) (hkv : KV o l m ps base last) (hc : Okc l m ps.length last c) :
    Calls Tryz.prog 91 #[.agg #[.int .i64 o, .int .i64 l, .int .i64 m, .slice a ps.length cap, .int .i64 base, .int .i64 last], .int .i64 c] w (Ret w (.string (bstr (anyW l ps last c)))) := by
  have hlen := kv_len (kvb_iff.2 hkv)
  have hs := hkv.s
  by_cases hcn : c = nw l ps.length
  · have hl : hw l ps.length last = true := by
      rcases hc with h | ⟨hg, _⟩
      · have := hw_iff.1 h
        unfold nw at hcn; omega
      · rcases hkv.last with ⟨rfl, _⟩ | h
        · exact absurd rfl (grB_iff.1 hg).1
        · exact h
    have hw2 := W_len hl
    have hw1 := W_pos hkv.ok hl
    have z1 : (bstr (W l ps last)).size ≤ 3000 := by rw [bstr_size]; omega
    have z2 : 1 ≤ (bstr (W l ps last)).size := by rw [bstr_size]; omega
    have v1 : (c == nw l ps.length) = true := by simp [hcn]
    have HV := Lib.hid hkv
    have HA := Lib.hid (any_nw (l := l) (ps := ps) (last := last))
    rw [← hcn] at HA
    clear hc hkv hcn
    go_enter Tryz.func91, Tryz.ntmps91
    go_wp2_with (first | (go_at_call 130; refine (nextWord_any _ _ _ _ _ _ _ _ _ hs (by omega)).mono ?_; rintro e w' ⟨rfl, xc, rfl⟩) | (go_at_call 91; refine (wordText_hw (hr := (by repeat (first | exact hr | apply rd_seq | apply Rd.plus | apply Rd.alloc | apply Rd.drew | apply Rd.drewN | refine rd_patch ?_ _ _ (by intro A hA; first | (cases hA; show _ ≠ _; omega) | (have := hal A hA; omega))))) (hkv := HV.out) (hc0 := hl)).mono ?_; rintro e w' ⟨rfl, x, rfl⟩))
    go_ret
    exact ret_of (by rw [HA.out, ← bstr_app, bstr_pre]; rfl) (by repeat (first | exact More.refl _ | apply More.plus | apply More.alloc | apply More.drew | apply More.drewN))
  · have hl : hw l ps.length c = true := by
      rcases hc with h | ⟨_, h⟩
      · exact h
      · exact absurd h hcn
    rw [any_hw hl]
    exact wordText_hw o l m a cap ps base last c w hr hkv hl

set_option maxRecDepth 100000 in
set_option maxHeartbeats 1000000 in
theorem advance_clear (o l m : Int) (a : Option Addr) (cap n b : Nat) (last f : Int) (w : World) (hs : sv o l m = true) (hb : b ≤ n) (hn : n ≤ cap) (hc : cap ≤ 9223372036854775807) :
    Calls Tryz.prog 90 #[.agg #[.int .i64 o, .int .i64 l, .int .i64 m, .slice a n cap, .int .i64 b, .int .i64 last], .int .i64 (two l), .int .u8 f] w
      (Ret w (.agg #[.int .i64 o, .int .i64 l, .int .i64 m, .slice a b cap, .int .i64 b, .int .i64 (-1)])) := by
  have hbc : b ≤ cap := by omega
  go_enter Tryz.func90, Tryz.ntmps90
  go_wp2_with (go_at_call 68; refine (ClearCode_yes _ _ _ hs _).mono ?_; rintro e w' ⟨rfl, xc, rfl⟩)
  exact bodyPost_ret (v := .agg #[.int .i64 o, .int .i64 l, .int .i64 m, .slice a b cap, .int .i64 b, .int .i64 (-1)]) (by simp [results, Tryz.results90, go_sem, ↓IntWalk.iteOmega]) rfl (Ret.mk (by repeat (first | exact More.refl _ | apply More.plus | apply More.alloc | apply More.drew | apply More.drewN)))

/-- what a step leaves that grows the own pairs -/
def RetAd (w : World) (o l m base last : Int) (A : Option Addr) (qs : List Pr) (lo : Nat) (e : Ending) (w' : World) : Prop :=
  ∃ A' c', e = .returned (.agg #[.int .i64 o, .int .i64 l, .int .i64 m, .slice A' qs.length c', .int .i64 base, .int .i64 last]) ∧ Own encP 81 w' A' c' qs lo ∧ Grew A w w' ∧ Within A A' w.heap.size

theorem more_grew {A : Option Addr} {w w' : World} (h : More w w') : Grew A w w' := by
  obtain ⟨x, rfl⟩ := h
  exact grew_plus (grew_refl _ _) x

theorem grew_turn {A : Option Addr} {w w' : World} {b : Nat} {ob : Obj} (h : Grew A w w') (hb : w.heap.size ≤ b) : Grew A w (patch w' b ob) :=
  ⟨h.os, h.tape, h.output, by have := h.size; simp; omega, fun k hk ha => by rw [patch_other _ _ _ (by omega)]; exact h.block k hk ha⟩

set_option maxRecDepth 100000 in
set_option maxHeartbeats 2000000 in
theorem advance_code (o l m : Int) (A : Option Addr) (cap : Nat) (ps : List Pr) (base last c f : Int) (lo : Nat) (w : World) (hown : Own encP 81 w A cap ps lo) (hlo : lo ≤ w.heap.size) (hs : sv o l m = true) (hlen : ps.length ≤ 2000) (hc : c ≠ two l) (hf : f = hd (anyW l ps last c)) :
    Calls Tryz.prog 90 #[.agg #[.int .i64 o, .int .i64 l, .int .i64 m, .slice A ps.length cap, .int .i64 base, .int .i64 last], .int .i64 c, .int .u8 f] w
      (RetAd w o l m base c A (aftP l m ps last c) lo) := by
  have HO := Lib.hid hown
  have v1 : (c == two l) = false := by simp [hc]
  have hfb := hd_bd (anyW l ps last c)
  rw [← hf] at hfb
  obtain ⟨f0, f1⟩ := hfb
  have hcap : ps.length ≤ cap ∧ cap ≤ 9223372036854775807 := ⟨hown.rd.1, hown.rd.2.1⟩
  obtain ⟨cp1, cp2⟩ := hcap
  obtain ⟨i0, hi, hz0, hz1, hz2⟩ := info_parts infoPair
  have HF := Lib.hid hf
  have hAlt := fun X hX => (own_lt hown X hX).2
  have HBK := Lib.hid (show ((w.alloc (.cells #[.int .i64 o, .int .i64 l, .int .i64 m, .slice A ps.length cap, .int .i64 base, .int .i64 last] 26)).alloc (.cells #[.int .i64 0, .int .i64 0, .int .i64 0, .slice none 0 0, .int .i64 0, .int .i64 0] 26)).heap[w.heap.size]? = some _ from blk_alloc (push_new _ _ _ rfl) _)
  have HBR := Lib.hid (show ((w.alloc (.cells #[.int .i64 o, .int .i64 l, .int .i64 m, .slice A ps.length cap, .int .i64 base, .int .i64 last] 26)).alloc (.cells #[.int .i64 0, .int .i64 0, .int .i64 0, .slice none 0 0, .int .i64 0, .int .i64 0] 26)).heap[w.heap.size + 1]? = some _ from push_new _ _ _ (by simp))
  clear hown hc hf
  cases hg : grB l m ps.length last
  · have HA := Lib.hid (show aftP l m ps last c = ps by unfold aftP; rw [hg]; rfl)
    go_enter Tryz.func90, Tryz.ntmps90
    go_wp2_with (first | (go_at_call 68; refine (ClearCode_yes _ _ _ hs _).mono ?_; rintro e w' ⟨rfl, xc, rfl⟩) | (go_at_call 129; refine (grows_any _ _ _ _ _ _ _ _ _ hs (by omega)).mono ?_; rintro e w' ⟨rfl, xc, rfl⟩))
    rw [HA.out]
    exact bodyPost_ret (v := .agg #[.int .i64 o, .int .i64 l, .int .i64 m, .slice A ps.length cap, .int .i64 base, .int .i64 c]) (by simp [results, Tryz.results90, go_sem, ↓IntWalk.iteOmega]) rfl ⟨A, cap, rfl, (by repeat (first | (with_reducible exact HO.out) | (with_reducible apply own_seq) | (with_reducible apply own_draw) | (with_reducible apply Own.plus) | (with_reducible apply Own.alloc) | (with_reducible apply Own.drew) | (with_reducible apply Own.drewN))), more_grew (by repeat (first | exact More.refl _ | apply More.plus | apply More.alloc | apply More.drew | apply More.drewN)), within_refl _ _⟩
  · have HA := Lib.hid (show aftP l m ps last c = ps ++ [⟨last, f⟩] by unfold aftP; rw [hg, HF.out]; rfl)
    go_enter Tryz.func90, Tryz.ntmps90
    go_wp2_with (first | (go_at_call 68; refine (ClearCode_yes _ _ _ hs _).mono ?_; rintro e w' ⟨rfl, xc, rfl⟩) | (go_at_call 129; refine (grows_any _ _ _ _ _ _ _ _ _ hs (by omega)).mono ?_; rintro e w' ⟨rfl, xc, rfl⟩) | (at_builtin; refine wpList_append_at encP _ _ _ _ i0 _ 16 rfl rfl Tryz.underlying24 hi hz0 hz1 hz2 rfl (by decide) ps A cap lo (by repeat (first | (with_reducible exact HO.out) | (with_reducible apply Own.plus) | (with_reducible apply Own.alloc) | (with_reducible apply Own.drew))) rfl [⟨last, f⟩] _ 0 1 (new_cells encP ⟨last, f⟩ _ _ (by first | omega | rfl | (simp <;> omega) | (simp only [List.length_cons, List.length_nil, plus_size, World.size_alloc]; omega))) rfl (by first | omega | rfl | (simp <;> omega) | (simp only [List.length_cons, List.length_nil, plus_size, World.size_alloc]; omega)) (by first | omega | rfl | (simp <;> omega) | (simp only [List.length_cons, List.length_nil, plus_size, World.size_alloc]; omega)) (by simp <;> omega) ?_; intro A6 c6 w6 hw6 hg6 hx6; have HO6 := Lib.hid hw6; have HG6 := Lib.hid hg6; have HX6 := Lib.hid hx6; have HK6 := Lib.hid (blk_grew hg6 (by repeat (first | (with_reducible exact HBK.out) | (with_reducible apply blk_seq) | (with_reducible apply blk_draw) | (with_reducible apply blk_plus) | (with_reducible apply blk_alloc) | (with_reducible apply blk_drew) | (with_reducible refine blk_patch ?_ (by omega)) | exact HBK.out)) (fun X hX e => by have := hAlt X hX; omega)); have HR6 := Lib.hid (blk_grew hg6 (by repeat (first | (with_reducible exact HBR.out) | (with_reducible apply blk_seq) | (with_reducible apply blk_draw) | (with_reducible apply blk_plus) | (with_reducible apply blk_alloc) | (with_reducible apply blk_drew) | (with_reducible refine blk_patch ?_ (by omega)) | exact HBR.out)) (fun X hX e => by have := hAlt X hX; omega)); have r6 := cell_of HK6.out; have f6 := free_of HK6.out; have s6 := fun v => setCell_patch HK6.out 3 v; have g6 := free_of HR6.out; have q6 := cell_of HR6.out; have u6 := fun v => setCell_patch HR6.out 0 v; have hk6 := (Array.getElem?_eq_some_iff.1 HK6.out).1; have hr6 := (Array.getElem?_eq_some_iff.1 HR6.out).1; clear hw6 hg6 hx6))
    have hn : ∀ k, w.heap.size ≤ k → k < w.heap.size + 2 → Off A6 k := fun k h1 h2 X hX e => by
      rcases HX6.out X hX with ⟨Y, hY, he⟩ | he
      · have := hAlt Y hY; omega
      · simp at he; omega
    rw [HA.out]
    refine bodyPost_ret (v := .agg #[.int .i64 o, .int .i64 l, .int .i64 m, .slice A6 (ps ++ [Pr.mk last f]).length c6, .int .i64 base, .int .i64 c]) (by simp [results, Tryz.results90, go_sem, ↓IntWalk.iteOmega, hk6, hr6]) rfl ?_
    exact ⟨A6, c6, rfl, own_patch (own_patch HO6.out (hn _ (by omega) (by omega))) (hn _ (by omega) (by omega)), grew_turn (grew_turn (grew_trans (more_grew (by repeat (first | exact More.refl _ | apply More.plus | apply More.alloc | apply More.drew | apply More.drewN))) HG6.out) (by omega)) (Nat.le_refl _), HX6.out.within (by simp <;> omega)⟩

theorem l2Step_clear (o l m : Int) (a : Option Addr) (cap : Nat) (ps : List Pr) (b : Nat) (last : Int) (w : World) (hr : RdP w a cap ps) (hs : sv o l m = true) (hb : b ≤ ps.length) (hn : ps.length ≤ 2000) :
    Calls Tryz.prog 125 #[.agg #[.int .i64 o, .int .i64 l, .int .i64 m, .slice a ps.length cap, .int .i64 b, .int .i64 last], .int .i64 (two l)] w (RetK w o l m (ps.take b) (b : Int) (-1)) := by
  obtain ⟨_, l1, l2, _, _⟩ := sv_iff.1 hs
  have l0 : 0 ≤ l := by omega
  have l10 : l ≤ 10 := by omega
  go_enter Tryz.func125, Tryz.ntmps125
  go_wp2_with (first | (go_at_call 107; refine (l1Clear_any _ _ _ l0 l10 _).mono ?_; rintro e w' ⟨rfl, xc, rfl⟩) | fail)
  refine (l2Cleared_any o l m a cap ps b last _ (by repeat (first | exact hr | apply rd_seq | apply Rd.plus | apply Rd.alloc | apply Rd.drew | apply Rd.drewN | refine rd_patch ?_ _ _ (by intro A hA; first | (cases hA; show _ ≠ _; omega) | (have := hal A hA; omega)))) hb hn).mono ?_
  rintro e w' ⟨pa, pc, rfl, hown, x2, rfl⟩
  try simp only [plus_plus] at hown
  have HO := Lib.hid hown
  clear hown
  go_wp2_with fail
  exact bodyPost_ret (v := .agg #[.int .i64 o, .int .i64 l, .int .i64 m, .slice pa (ps.take b).length pc, .int .i64 b, .int .i64 (-1)]) (by simp [results, Tryz.results125, go_sem, ↓IntWalk.iteOmega, Nat.min_eq_left hb]) rfl ⟨pa, pc, rfl, ((own_swap HO.out (by simp <;> omega) (by simp <;> omega)).lower (by simp <;> omega)), (by repeat (first | exact More.refl _ | apply More.plus | apply More.alloc | apply More.drew | apply More.drewN))⟩

theorem l2Step_code (o l m : Int) (a : Option Addr) (cap : Nat) (ps : List Pr) (base last : Int) (c : Int) (w : World) (hr : RdP w a cap ps) (hkv : KV o l m ps base last) (hc : Okc l m ps.length last c) (hc2 : c ≠ two l) :
    Calls Tryz.prog 125 #[.agg #[.int .i64 o, .int .i64 l, .int .i64 m, .slice a ps.length cap, .int .i64 base, .int .i64 last], .int .i64 c] w (RetK w o l m (aftP l m ps last c) base c) := by
  obtain ⟨_, l1, l2, _, _⟩ := sv_iff.1 hkv.s
  have l0 : 0 ≤ l := by omega
  have l10 : l ≤ 10 := by omega
  have v1 : (c == two l) = false := by simp [hc2]
  have HV := Lib.hid hkv
  have HC := Lib.hid hc
  clear hkv hc hc2
  go_enter Tryz.func125, Tryz.ntmps125
  go_wp2_with (first | (go_at_call 107; refine (l1Clear_any _ _ _ l0 l10 _).mono ?_; rintro e w' ⟨rfl, xc, rfl⟩) | fail)
  refine (l2After_any o l m a cap ps base last c _ (by repeat (first | exact hr | apply rd_seq | apply Rd.plus | apply Rd.alloc | apply Rd.drew | apply Rd.drewN | refine rd_patch ?_ _ _ (by intro A hA; first | (cases hA; show _ ≠ _; omega) | (have := hal A hA; omega)))) HV.out HC.out).mono ?_
  rintro e w' ⟨pa, pc, rfl, hown, x2, rfl⟩
  try simp only [plus_plus] at hown
  have HO := Lib.hid hown
  clear hown
  go_wp2_with fail
  exact bodyPost_ret (v := .agg #[.int .i64 o, .int .i64 l, .int .i64 m, .slice pa (aftP l m ps last c).length pc, .int .i64 base, .int .i64 c]) (by simp [results, Tryz.results125, go_sem, ↓IntWalk.iteOmega]) rfl ⟨pa, pc, rfl, ((own_swap HO.out (by simp <;> omega) (by simp <;> omega)).lower (by simp <;> omega)), (by repeat (first | exact More.refl _ | apply More.plus | apply More.alloc | apply More.drew | apply More.drewN))⟩

end Go.Proofs.YtmddcbebaijjkaaGreatDoor

/- Codes that follow one after the other, in plain Lean; and what is known beside two slices of the call's own. -/
namespace Go.Proofs.YtmddcbebaijjkaaGreatDoor
open Go.RowKit
set_option linter.unusedVariables false
set_option linter.unusedSimpArgs false

open Classical in
/-- the widths and the data of codes, behind W and D; none if they cannot follow one after the other -/
noncomputable def wlk (l m : Int) (b : Nat) : List Int → List Pr → Int → List Int → List UInt8 → Option (List Int × List UInt8)
  | [], _, _, W, D => some (W, D)
  | c :: cs, ps, last, W, D =>
    if c = two l + 1 then (if cs = [] then some (W ++ [wd l m ps.length last], D) else none)
    else if c = two l then wlk l m b cs (ps.take b) (-1) (W ++ [wd l m ps.length last]) D
    else if Okc l m ps.length last c ∧ D.length + (anyW l ps last c).length ≤ 2000 then wlk l m b cs (aftP l m ps last c) c (W ++ [wd l m ps.length last]) (D ++ anyW l ps last c)
    else none

theorem wlk_nil (l m : Int) (b : Nat) (ps : List Pr) (last : Int) (W : List Int) (D : List UInt8) : wlk l m b [] ps last W D = some (W, D) := rfl

theorem wlk_end {l m : Int} {b : Nat} {cs : List Int} {ps : List Pr} {last : Int} {W : List Int} {D : List UInt8} : wlk l m b ((two l + 1) :: cs) ps last W D = if cs = [] then some (W ++ [wd l m ps.length last], D) else none := by
  show (if _ then _ else _) = _
  rw [if_pos rfl]

theorem wlk_clear {l m : Int} {b : Nat} {cs : List Int} {ps : List Pr} {last : Int} {W : List Int} {D : List UInt8} : wlk l m b (two l :: cs) ps last W D = wlk l m b cs (ps.take b) (-1) (W ++ [wd l m ps.length last]) D := by
  show (if _ then _ else _) = _
  rw [if_neg (by omega), if_pos rfl]

theorem okc_not {l m : Int} {n : Nat} {last c : Int} (h : Okc l m n last c) : c ≠ two l ∧ c ≠ two l + 1 := by
  rcases h with h | ⟨_, h⟩
  · have := hw_iff.1 h; omega
  · subst h; unfold nw; omega

theorem wlk_word {l m : Int} {b : Nat} {c : Int} {cs : List Int} {ps : List Pr} {last : Int} {W : List Int} {D : List UInt8} (hc : Okc l m ps.length last c) (hd : D.length + (anyW l ps last c).length ≤ 2000) :
    wlk l m b (c :: cs) ps last W D = wlk l m b cs (aftP l m ps last c) c (W ++ [wd l m ps.length last]) (D ++ anyW l ps last c) := by
  obtain ⟨h1, h2⟩ := okc_not hc
  show (if _ then _ else _) = _
  rw [if_neg h2, if_neg h1, if_pos ⟨hc, hd⟩]

theorem wlk_bad {l m : Int} {b : Nat} {c : Int} {cs : List Int} {ps : List Pr} {last : Int} {W : List Int} {D : List UInt8} (h1 : c ≠ two l) (h2 : c ≠ two l + 1) (h : ¬ (Okc l m ps.length last c ∧ D.length + (anyW l ps last c).length ≤ 2000)) :
    wlk l m b (c :: cs) ps last W D = none := by
  show (if _ then _ else _) = _
  rw [if_neg h2, if_neg h1, if_neg h]

theorem can_okc {l m : Int} {n : Nat} {last c : Int} (h0 : 2 ≤ two l) (h : canB l m n last c = true) (h1 : c ≠ two l) (h2 : c ≠ two l + 1) : Okc l m n last c := by
  obtain ⟨q1, q2⟩ := canB_iff.1 h
  by_cases hc : c < two l
  · exact .inl (hw_iff.2 (by omega))
  · exact okc_range (by omega) q2

theorem okc_can {l m : Int} {n : Nat} {last c : Int} (h0 : 2 ≤ two l) (h : Okc l m n last c) : canB l m n last c = true := canB_iff.2 ⟨h.nonneg h0, okc_le h h0⟩

/-- what is known in block B, and two slices of the call's own, apart from each other -/
structure T3r (w : World) (B : Nat) (o l m : Int) (ps : List Pr) (base last : Int) (pa : Option Addr) (pc : Nat) (wa : Option Addr) (wc : Nat) (W : List Int) (da : Option Addr) (dc : Nat) (D : List UInt8) : Prop where
  blk : w.heap[B]? = some (.cells #[.int .i64 o, .int .i64 l, .int .i64 m, .slice pa ps.length pc, .int .i64 base, .int .i64 last] 26 (0, 0))
  op : Own encP 81 w pa pc ps (B + 1)
  ow : Own encI 3 w wa wc W (B + 1)
  od : Own encB 5 w da dc D (B + 1)
  wp : ∀ X, wa = some X → Off pa X.block
  wd' : ∀ X, wa = some X → Off da X.block
  dp : ∀ X, da = some X → Off pa X.block

section
variable {w w' : World} {B : Nat} {o l m : Int} {ps ps' : List Pr} {base last last' : Int} {pa : Option Addr} {pc : Nat} {wa : Option Addr} {wc : Nat} {W : List Int} {da : Option Addr} {dc : Nat} {D : List UInt8}

theorem T3r.plus (h : T3r w B o l m ps base last pa pc wa wc W da dc D) (x : Ext) : T3r (Go.Proofs.YtmddcbebaijjkaaGreatDoor.plus w x) B o l m ps base last pa pc wa wc W da dc D :=
  ⟨blk_plus h.blk _, h.op.plus _, h.ow.plus _, h.od.plus _, h.wp, h.wd', h.dp⟩

theorem T3r.alloc (h : T3r w B o l m ps base last pa pc wa wc W da dc D) (ob : Obj) : T3r (w.alloc ob) B o l m ps base last pa pc wa wc W da dc D := by rw [alloc_plus]; exact h.plus _

theorem T3r.drew (h : T3r w B o l m ps base last pa pc wa wc W da dc D) : T3r w.drew B o l m ps base last pa pc wa wc W da dc D := by rw [drew_is_plus]; exact h.plus _

theorem T3r.B_lt (h : T3r w B o l m ps base last pa pc wa wc W da dc D) : B < w.heap.size := (Array.getElem?_eq_some_iff.1 h.blk).1

theorem T3r.grewI {A' : Option Addr} {c' : Nat} {ys : List Int} (h : T3r w B o l m ps base last pa pc wa wc W da dc D) (hown : Own encI 3 w' A' c' ys (B + 1)) (hg : Grew wa w w') (hx : Nxt wa A' w.heap.size) :
    T3r w' B o l m ps base last pa pc A' c' ys da dc D where
  blk := by rw [hg.block B h.B_lt fun X hX e => by have := own_lo h.ow X hX; omega]; exact h.blk
  op := own_grew h.op hg fun X hX Y hY e => h.wp Y hY X hX e.symm
  ow := hown
  od := own_grew h.od hg fun X hX Y hY e => h.wd' Y hY X hX e.symm
  wp := fun X hX Y hY e => by
    rcases hx X hX with ⟨Z, hZ, he⟩ | he
    · exact h.wp Z hZ Y hY (by omega)
    · have := (own_lt h.op Y hY).2; omega
  wd' := fun X hX Y hY e => by
    rcases hx X hX with ⟨Z, hZ, he⟩ | he
    · exact h.wd' Z hZ Y hY (by omega)
    · have := (own_lt h.od Y hY).2; omega
  dp := h.dp

theorem T3r.grewB {A' : Option Addr} {c' : Nat} {ys : List UInt8} (h : T3r w B o l m ps base last pa pc wa wc W da dc D) (hown : Own encB 5 w' A' c' ys (B + 1)) (hg : Grew da w w') (hx : Nxt da A' w.heap.size) :
    T3r w' B o l m ps base last pa pc wa wc W A' c' ys where
  blk := by rw [hg.block B h.B_lt fun X hX e => by have := own_lo h.od X hX; omega]; exact h.blk
  op := own_grew h.op hg fun X hX Y hY e => h.dp Y hY X hX e.symm
  ow := own_grew h.ow hg fun X hX Y hY e => h.wd' X hX Y hY e
  od := hown
  wp := h.wp
  wd' := fun X hX Y hY e => by
    rcases hx Y hY with ⟨Z, hZ, he⟩ | he
    · exact h.wd' X hX Z hZ (by omega)
    · have := (own_lt h.ow X hX).2; omega
  dp := fun X hX Y hY e => by
    rcases hx X hX with ⟨Z, hZ, he⟩ | he
    · exact h.dp Z hZ Y hY (by omega)
    · have := (own_lt h.op Y hY).2; omega

theorem own_turn {α : Type} {E : Enc α} {e : TypeId} {a : Option Addr} {cap : Nat} {xs : List α} {ob : Obj} (h : Own E e w a cap xs (B + 1)) : Own E e (patch w B ob) a cap xs (B + 1) :=
  own_patch h fun X hX => by have := own_lo h X hX; omega

/-- the pairs have grown, and something else is known -/
theorem T3r.adv {A' : Option Addr} {c' : Nat} {qs : List Pr} (h : T3r w B o l m ps base last pa pc wa wc W da dc D) (hown : Own encP 81 w' A' c' qs (B + 1)) (hg : Grew pa w w') (hx : Within pa A' w.heap.size) :
    T3r (patch w' B (.cells #[.int .i64 o, .int .i64 l, .int .i64 m, .slice A' qs.length c', .int .i64 base, .int .i64 last'] 26)) B o l m qs base last' A' c' wa wc W da dc D where
  blk := patch_at _ _ _ (by have := h.B_lt; have := hg.size; omega)
  op := own_turn hown
  ow := own_turn (own_grew h.ow hg fun X hX Y hY e => h.wp X hX Y hY e)
  od := own_turn (own_grew h.od hg fun X hX Y hY e => h.dp X hX Y hY e)
  wp := fun X hX Y hY e => by
    rcases hx Y hY with ⟨Z, hZ, he⟩ | he
    · exact h.wp X hX Z hZ (by omega)
    · have := (own_lt h.ow X hX).2; omega
  wd' := h.wd'
  dp := fun X hX Y hY e => by
    rcases hx Y hY with ⟨Z, hZ, he⟩ | he
    · exact h.dp X hX Z hZ (by omega)
    · have := (own_lt h.od X hX).2; omega

theorem own_cutP {α : Type} {E : Enc α} {e : TypeId} {a : Option Addr} {cap lo : Nat} {xs : List α} (h : Own E e w a cap xs lo) (n : Nat) : Own E e w a cap (xs.take n) lo := by
  rcases h with ⟨h1, h2, h3⟩ | ⟨b, cur, h0, h1, hb, hs, hr, hl, hm⟩
  · exact .inl ⟨h1, h2, by rw [h3]; simp⟩
  · refine .inr ⟨b, cur, h0, h1, hb, hs, fun j u hj => hr j u ?_, by rw [List.length_take]; omega, hm⟩
    have h9 : flat E xs = flat E (xs.take n) ++ flat E (xs.drop n) := by
      have := List.take_append_drop n xs
      unfold flat
      rw [← List.flatMap_append, this]
    rw [h9, List.getElem?_append_left (List.getElem?_eq_some_iff.1 hj).1]
    exact hj

/-- the pairs have been cut, and nothing follows -/
theorem T3r.clear {b : Nat} {y : Ext} (h : T3r w B o l m ps base last pa pc wa wc W da dc D) (hb : b ≤ ps.length) :
    T3r (Go.Proofs.YtmddcbebaijjkaaGreatDoor.plus (patch w B (.cells #[.int .i64 o, .int .i64 l, .int .i64 m, .slice pa b pc, .int .i64 b, .int .i64 (-1)] 26)) y) B o l m (ps.take b) (b : Int) (-1) pa pc wa wc W da dc D := by
  have hl : (ps.take b).length = b := by rw [List.length_take]; omega
  refine T3r.plus ⟨?_, own_turn (own_cutP h.op b), own_turn h.ow, own_turn h.od, h.wp, h.wd', h.dp⟩ y
  rw [hl]
  exact patch_at _ _ _ h.B_lt

end

/-! ### The codes of the longest words follow one after the other -/

end Go.Proofs.YtmddcbebaijjkaaGreatDoor

/- The walk of impl.walkCodes: the widths and the data of codes that follow one after the other. -/
namespace Go.Proofs.YtmddcbebaijjkaaGreatDoor
open Go.RowKit
set_option linter.unusedVariables false
set_option linter.unusedSimpArgs false

theorem any_bd {o l m : Int} {base : Int} {ps : List Pr} {last c : Int} (h : KV o l m ps base last) (hc : Okc l m ps.length last c) : (anyW l ps last c).length ≤ 2003 := by
  have hlen := kv_len (kvb_iff.2 h)
  rcases hc with hc | ⟨hg, rfl⟩
  · rw [any_hw hc]; have := W_len hc; omega
  · have hl : hw l ps.length last = true := by
      rcases h.last with ⟨rfl, _⟩ | h
      · exact absurd rfl (grB_iff.1 hg).1
      · exact h
    rw [any_nw, List.length_append, List.length_take]
    have := W_len hl
    omega

end Go.Proofs.YtmddcbebaijjkaaGreatDoor
