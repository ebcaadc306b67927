/- The reference's reading of what is known. -/
import Derived.Test.YtmddcbebaijjkaaGreatDoorPik
import Derived.Test.YtmddcbebaijjkaaGreatDoorPsc
namespace Go.Proofs.YtmddcbebaijjkaaGreatDoor
open Go.RowKit
set_option linter.unusedVariables false
set_option linter.unusedSimpArgs false

/-- what cutting gives, by its block -/
def RetCblk (w : World) (xs : List ByteArray) (e : Ending) (w' : World) : Prop := ∃ (b c : Nat) (cur : Array Value), e = .returned (.slice (some ⟨b, 0, none⟩) xs.length c) ∧ w.heap.size ≤ b ∧ w'.heap[b]? = some (.cells cur 9 (0, 0)) ∧ (∀ (j : Nat) (x : ByteArray), xs[j]? = some x → cur[j]? = some (.string x)) ∧ More w w'

theorem cutB_ne (c : UInt8) (s : ByteArray) : cutB c s ≠ [] := by
  intro h
  have := cutB_len c s
  rw [h] at this
  simp at this

theorem l9Cut_blk (s : ByteArray) (c : UInt8) (w : World) (hs : s.size ≤ 1048576) : Calls Tryz.prog 29 #[.string s, .int .u8 c.toNat] w (RetCblk w (cutB c s)) := by
  refine (l9Cut_any s c w hs).mono ?_
  rintro e w' ⟨A, cp, rfl, hown, hm⟩
  rcases hown with ⟨_, _, h⟩ | ⟨b, cur, rfl, hlo, hb, _, hrow, _, _⟩
  · exact absurd h (cutB_ne c s)
  · refine ⟨b, cp, cur, rfl, hlo, hb, fun j x hx => ?_, hm⟩
    have h1 := flat_get encS (cutB c s) j x hx 0 (by decide)
    have h2 := hrow (j * 1 + 0) (.string x) h1
    simpa using h2

theorem oper_appP {P : Program} {o : Oper} {a : Act} {w1 W : World} {K : Act → World → Prop} {Q : Exit → Act → World → Prop} {w : World} {bt B L : Nat} {tx : Array Value} {ko kl km b la : Int} {A : Option Addr} {c : Nat} {ys : List Pr} (p : Pr) (s x : Operand) (i : TypeInfo) (z : Value)
    (ho : o.op = .call { callee := .builtin .append, args := #[s, x], argTypes := #[24, 24] }) (ht : P.underlying 24 = some (.slice 81)) (hi : P.info? 81 = some i) (hz : i.zero = some z) (hsz : i.size = 2) (hby : i.bytes = 16)
    (hzs : z.cells.size = 2) (hS : PkS w w1 bt B L tx ko kl km b la A c ys) (hm : More w1 W) (hs : a.eval s = .slice A ys.length c) (bb cc : Nat) (hr : ∀ j u, (flat encP [p])[j]? = some u → W.cell? ⟨bb, 0 + j, none⟩ = some u) (hx : a.eval x = .slice (some ⟨bb, 0, none⟩) 1 cc) (hl : ys.length ≤ 2000000)
    (h : ∀ (A' : Option Addr) (c' : Nat) (w' : World), w'.heap[bt]? = some (.cells tx 9 (0, 0)) →
      w'.heap[B]? = some (.cells #[.int .i64 ko, .int .i64 kl, .int .i64 km, .slice A ys.length c, .int .i64 b, .int .i64 la] 26 (0, 0)) →
      PkS w (patch w' B (.cells #[.int .i64 ko, .int .i64 kl, .int .i64 km, .slice A' (ys ++ [p]).length c', .int .i64 b, .int .i64 la] 26 (0, 0))) bt B L tx ko kl km b la A' c' (ys ++ [p]) → K (a.put o.dst (.slice A' (ys ++ [p]).length c')) w') :
    o.wp P a W K Q := by
  have hS2 := hS.more hm
  refine oper_append_at encP s x _ _ i z 16 ho ht hi hz hsz hby hzs (by decide) ys A c L hS2.own hs [p] bb 0 cc hr hx (by show _ + 1 ≤ _; omega) (by show (_ + 1) * 16 ≤ _; omega) (by have := hS2.low; omega) ?_
  intro A' c' w' h1 h2 h3
  have hlo := hS2.low
  have hoff := hS2.off
  have hk := grewF h2 hS2.k (fun X hX e => by have := hoff X hX; omega)
  have hzz := grewF h2 hS2.z (fun X hX e => by have := hoff X hX; omega)
  have htt := grewF h2 hS2.t (fun X hX e => by have := hoff X hX; omega)
  have hsz' := h2.size
  have hA' : ∀ X, A' = some X → L ≤ X.block := fun X hX => (own_lt h1 X hX).1
  have hbl := hS2.bel.trans (h2.below (B := w.heap.size) (by omega) (fun X hX => by have := hoff X hX; omega))
  refine h A' c' w' htt hk ⟨(patch_other _ _ _ (by omega)).trans hzz, patch_at _ _ _ (Array.getElem?_eq_some_iff.1 hk).1, (patch_other _ _ _ (by omega)).trans htt, own_ptF h1 (fun X hX e => by have := hA' X hX; omega), below_patch hbl (by omega) _, ?_⟩
  rw [patch_size]
  omega

theorem nil_ne {t : ByteArray} (h : t.size ≠ 0) : (([] : List UInt8) == t.toList) = false := by
  rw [beq_eq_false_iff_ne]
  intro e
  rw [ByteArray.toList_eq] at e
  have := congrArg List.length e
  rw [len_list] at this
  exact h this.symm

/-- texts read as pairs by the reference -/
structure Ptz (tx : List ByteArray) (ys : List Pr) (k : Nat) : Prop where
  len : ys.length = k
  uni : ∀ ps' : List Pr, (∀ (i : Nat) (p : Pr), ps'[i]? = some p → Sml p.p ∧ Sml p.b) → tx = ps'.map prT → ys = ps'.take k

theorem Ptz.nx {tx : List ByteArray} {ys : List Pr} {k : Nat} (h : Ptz tx ys k) {u : ByteArray} (hu : tx[k]? = some u) {n1 n2 : Int} (h2 : ∀ q : Pr, Sml q.p → Sml q.b → u = prT q → n1 = q.p ∧ n2 = q.b) : Ptz tx (ys ++ [⟨n1, n2⟩]) (k + 1) := by
  refine ⟨by rw [List.length_append, h.len]; rfl, fun ps' hp ht => ?_⟩
  have h3 := h.uni ps' hp ht
  rw [ht, List.getElem?_map] at hu
  cases hq : ps'[k]? with
  | none => rw [hq] at hu; cases hu
  | some q =>
    rw [hq] at hu
    injection hu with hu
    obtain ⟨h4, h5⟩ := hp k q hq
    obtain ⟨h6, h7⟩ := h2 q h4 h5 hu.symm
    rw [take_snoc hq, h3, h6, h7]

set_option maxRecDepth 100000 in
set_option maxHeartbeats 8000000 in
theorem specParseKnown_any (t : ByteArray) (w : World) (hs : t.size ≤ 1048576) : Calls Tryz.prog 28 #[.string t] w (RetPk w t) := by
  obtain ⟨i0, hi, hz0, hz1, hz2⟩ := info_parts infoPair
  have hlim := cutB_lim 59 t
  have hmem := fun x => cutB_mem (c := 59) (s := t) (x := x)
  obtain ⟨xs, hxs⟩ : ∃ xs, cutB 59 t = xs := ⟨_, rfl⟩
  rw [hxs] at hlim hmem
  have HX := Lib.hid hxs
  have HSP := Lib.hid (l9Cut_blk t 59)
  rw [hxs] at HSP
  clear hxs
  go_enter Tryz.func28, Tryz.ntmps28
  go_wp2_with fail
  refine (HSP.out _ hs).mono ?_
  rintro e X ⟨bt, cp, cur, rfl, hb0, hb, hcur, hm⟩
  have hm : More _ X := hm
  simp at hb0
  have HZ := Lib.hid (blk_mo (pushF w _ _ rfl) hm)
  have HB := Lib.hid (((Below.refl w.heap.size w).alloc (Nat.le_refl _) _).trans ((more_below hm).mono (by simp)))
  have rz := cell_of HZ.out
  have fz := free_of HZ.out
  have sz := fun i v => setCell_patch HZ.out i v
  have hX1 : w.heap.size < X.heap.size := (Array.getElem?_eq_some_iff.1 HZ.out).1
  have HBT := Lib.hid hb
  have hX2 : bt < X.heap.size := (Array.getElem?_eq_some_iff.1 hb).1
  clear hm
  by_cases h4 : xs.length = 4
  case neg =>
    have v3 : ((xs.length : Int) == 4) = false := by rw [beq_eq_false_iff_ne]; omega
    have HN := Lib.hid (kn_miss (t := t) (by rw [HX.out]; exact h4))
    clear hb hcur
    go_wp2_with fail
    exact bodyPost_ret (v := .tuple #[.agg #[.int .i64 0, .int .i64 0, .int .i64 0, .slice none 0 0, .int .i64 0, .int .i64 0], .bool false]) (by simp [results, Tryz.results28, go_sem, ↓IntWalk.iteOmega]) rfl ⟨0, 0, 0, [], 0, 0, false, ⟨none, 0, rfl, .inl ⟨rfl, rfl, rfl⟩, below_more (by repeat (first | (with_reducible exact HB.out) | refine below_plus ?_ (by first | omega | (simp <;> omega)) _ | refine Below.alloc ?_ (by first | omega | (simp <;> omega)) _ | refine below_patch ?_ (by omega) _ | refine Below.drew ?_))⟩, fun h => by (cases h), fun _ => ⟨rfl, rfl, rfl, rfl, rfl, rfl⟩, fun o' l' m' ps' b' la' hk' ht' => absurd ht' (HN.out _ _ _ _ _ _)⟩
  obtain ⟨f0, f1, f2, f3, rfl⟩ := four_of h4
  have hf0 := hmem f0 (by simp)
  have hf1 := hmem f1 (by simp)
  have hf2 := hmem f2 (by simp)
  have hf3 := hmem f3 (by simp)
  have rb0 : X.cell? ⟨bt, 0, none⟩ = some (.string f0) := (cell_of hb 0).trans (hcur 0 f0 rfl)
  have rb1 : X.cell? ⟨bt, 1, none⟩ = some (.string f1) := (cell_of hb 1).trans (hcur 1 f1 rfl)
  have rb2 : X.cell? ⟨bt, 2, none⟩ = some (.string f2) := (cell_of hb 2).trans (hcur 2 f2 rfl)
  have rb3 : X.cell? ⟨bt, 3, none⟩ = some (.string f3) := (cell_of hb 3).trans (hcur 3 f3 rfl)
  have hte : t.size ≠ 0 := fun h => by
    have h1 := cutB_len 59 t
    rw [HX.out] at h1
    have h2 := List.count_le_length (a := (59 : UInt8)) (l := t.data.toList)
    rw [len_list] at h2
    simp at h1
    omega
  have HPT := Lib.hid (fun o l m ps b la => kn_parts HX.out (o := o) (l := l) (m := m) (ps := ps) (b := b) (la := la))
  clear hmem HSP h4 hb hcur
  have hi0 : f0.size ≤ 1048576 := by omega
  have hi1 : f1.size ≤ 1048576 := by omega
  have hi2 : f2.size ≤ 1048576 := by omega
  have hi3 : f3.size ≤ 1048576 := by omega
  go_wp2_with fail
  refine (specParseSetting_any f0 _ hi0).mono ?_
  rintro e w' ⟨o, l, m, ok0, rfl, ⟨x1, rfl⟩, hg0⟩
  have HG0 := Lib.hid hg0
  clear hg0
  go_wp2_with fail
  refine (l9Num_any f1 _ hi1).mono ?_
  rintro e w' ⟨b, ok1, rfl, ⟨x2, rfl⟩, hg1⟩
  have HG1 := Lib.hid hg1
  clear hg1
  go_wp2_with fail
  refine (l9Num_any f2 _ hi2).mono ?_
  rintro e w' ⟨la, ok2, rfl, ⟨x3, rfl⟩, hg2⟩
  have HU := Lib.hid (show ∀ o' l' m' ps' b' la', kvb o' l' m' ps' b' la' = true → t = knT o' l' m' ps' b' la' → o = o' ∧ l = l' ∧ m = m' ∧ b = b' ∧ la = la' from fun o' l' m' ps' b' la' hk' ht' => by
    obtain ⟨e0, e1, e2, _⟩ := HPT.out _ _ _ _ _ _ ht'
    obtain ⟨h1, h2, h3⟩ := HG0.out o' l' m' (kvb_iff.1 hk').s e0
    obtain ⟨h4, _⟩ := HG1.out b' (kvb_iff.1 hk').nums.2.1 e1
    obtain ⟨h5, _⟩ := hg2 la' (kvb_iff.1 hk').nums.2.2.1 e2
    exact ⟨h1, h2, h3, h4, h5⟩)
  clear HG0 HG1 hg2 HPT
  by_cases h45 : f3 = ⟨#[45]⟩
  · have q45 : (f3.toList == [45]) = true := by rw [h45, ByteArray.toList_eq]; rfl
    have HQ := Lib.hid (show ∀ o' l' m' ps' b' la', kvb o' l' m' ps' b' la' = true → t = knT o' l' m' ps' b' la' → o = o' ∧ l = l' ∧ m = m' ∧ ([] : List Pr) = ps' ∧ b = b' ∧ la = la' from fun o' l' m' ps' b' la' hk' ht' => by
      obtain ⟨h1, h2, h3, h4, h5⟩ := HU.out o' l' m' ps' b' la' hk' ht'
      exact ⟨h1, h2, h3, (ptx_none HX.out h45 ht').symm, h4, h5⟩)
    clear h45 HU
    have hq0 : (([] : List UInt8) == t.toList) = false := nil_ne hte
    go_wp2_with fail
    refine calls_nmF (fun V => PkS w V bt (X.heap.size + x1.n + 1 + (x2.n + x3.n)) (X.heap.size + x1.n + 1 + (x2.n + x3.n) + 1) cur o l m b la none 0 []) ⟨(by repeat (first | (with_reducible exact HZ.out) | (with_reducible apply plusF) | (with_reducible apply allocF) | (with_reducible apply drewF))), pushF _ _ _ (by simp <;> omega), (by repeat (first | (with_reducible exact HBT.out) | (with_reducible apply plusF) | (with_reducible apply allocF) | (with_reducible apply drewF))), .inl ⟨rfl, rfl, rfl⟩, (by repeat (first | (with_reducible exact HB.out) | refine below_plus ?_ (by first | omega | (simp <;> omega)) _ | refine Below.alloc ?_ (by first | omega | (simp <;> omega)) _ | refine below_patch ?_ (by omega) _ | refine Below.drew ?_)), by simp; omega⟩ ?_
    generalize X.heap.size + x1.n + 1 + (x2.n + x3.n) = B
    intro V hV
    clear rz fz sz rb0 rb1 rb2 rb3 HBT
    have HS := Lib.hid hV
    clear hV HB HZ
    have HB := Lib.hid (HS.out).bel
    have hfx := (HS.out).facts
    have rz := cell_of (HS.out).z
    have fz := free_of (HS.out).z
    have sz := fun i v => setCell_patch (HS.out).z i v
    have rk := cell_of (HS.out).k
    have fk := free_of (HS.out).k
    have sk := fun i v => setCell_patch (HS.out).k i v
    have hf1 := hfx.1
    have hf2 := hfx.2.1
    have hf3 := hfx.2.2.1
    have hf4 := hfx.2.2.2
    clear hfx
    have HRd := Lib.hid (show Rd encP V none 0 [] from HS.out.own.rd)
    have HOw := Lib.hid (show Own encP 81 V none 0 [] w.heap.size from .inl ⟨rfl, rfl, rfl⟩)
    have HOf := Lib.hid (show ∀ X, (none : Option Addr) = some X → X.block ≠ w.heap.size from fun X h => by cases h)
    cases hk : kvb o l m [] b la
    · refine (specFormatKnown_no o l m none 0 [] b la _ (by (try unfold RdP); repeat (first | (with_reducible exact HRd.out) | (with_reducible apply rd_seq) | (with_reducible apply Rd.plus) | (with_reducible apply Rd.alloc) | (with_reducible apply Rd.drew) | (with_reducible apply Rd.drewN))) hk).mono ?_
      rintro e w' ⟨rfl, x5, rfl⟩
      have HK := Lib.hid hk
      clear hk
      go_wp2_with fail
      exact bodyPost_ret (v := .tuple #[.agg #[.int .i64 0, .int .i64 0, .int .i64 0, .slice none 0 0, .int .i64 0, .int .i64 0], .bool false]) (by simp [results, Tryz.results28, go_sem, ↓IntWalk.iteOmega]) rfl ⟨0, 0, 0, [], 0, 0, false, ⟨none, 0, rfl, .inl ⟨rfl, rfl, rfl⟩, below_more (by repeat (first | (with_reducible exact HB.out) | refine below_plus ?_ (by first | omega | (simp <;> omega)) _ | refine Below.alloc ?_ (by first | omega | (simp <;> omega)) _ | refine below_patch ?_ (by omega) _ | refine Below.drew ?_))⟩, fun h => by (cases h), fun _ => ⟨rfl, rfl, rfl, rfl, rfl, rfl⟩, fun o' l' m' ps' b' la' hk' ht' => (by obtain ⟨rfl, rfl, rfl, rfl, rfl, rfl⟩ := HQ.out o' l' m' ps' b' la' hk' ht'; rw [HK.out] at hk'; cases hk')⟩
    · refine (specFormatKnown_yes o l m none 0 [] b la _ (by (try unfold RdP); repeat (first | (with_reducible exact HRd.out) | (with_reducible apply rd_seq) | (with_reducible apply Rd.plus) | (with_reducible apply Rd.alloc) | (with_reducible apply Rd.drew) | (with_reducible apply Rd.drewN))) hk).mono ?_
      rintro e w' ⟨rfl, x5, rfl⟩
      have HK := Lib.hid hk
      clear hk
      by_cases he : knT o l m [] b la = t
      · have q9 : ((knT o l m [] b la).toList == t.toList) = true := by rw [he]; simp
        have HE := Lib.hid he
        clear he
        go_wp2_with fail
        exact bodyPost_ret (v := .tuple #[.agg #[.int .i64 o, .int .i64 l, .int .i64 m, .slice none ([]).length 0, .int .i64 b, .int .i64 la], .bool true]) (by simp [results, Tryz.results28, go_sem, ↓IntWalk.iteOmega]) rfl ⟨o, l, m, [], b, la, true, ⟨none, 0, rfl, (by repeat (first | (with_reducible exact HOw.out) | (with_reducible apply own_seq) | (with_reducible apply Own.plus) | (with_reducible refine own_ptF ?_ HOf.out))), below_more (by repeat (first | (with_reducible exact HB.out) | refine below_plus ?_ (by first | omega | (simp <;> omega)) _ | refine Below.alloc ?_ (by first | omega | (simp <;> omega)) _ | refine below_patch ?_ (by omega) _ | refine Below.drew ?_))⟩, fun _ => ⟨HK.out, HE.out.symm⟩, fun h => by (cases h), fun o' l' m' ps' b' la' hk' ht' => ⟨rfl, HQ.out o' l' m' ps' b' la' hk' ht'⟩⟩
      · have q9 := ne_lists he
        have HE := Lib.hid he
        clear he
        go_wp2_with fail
        exact bodyPost_ret (v := .tuple #[.agg #[.int .i64 0, .int .i64 0, .int .i64 0, .slice none 0 0, .int .i64 0, .int .i64 0], .bool false]) (by simp [results, Tryz.results28, go_sem, ↓IntWalk.iteOmega]) rfl ⟨0, 0, 0, [], 0, 0, false, ⟨none, 0, rfl, .inl ⟨rfl, rfl, rfl⟩, below_more (by repeat (first | (with_reducible exact HB.out) | refine below_plus ?_ (by first | omega | (simp <;> omega)) _ | refine Below.alloc ?_ (by first | omega | (simp <;> omega)) _ | refine below_patch ?_ (by omega) _ | refine Below.drew ?_))⟩, fun h => by (cases h), fun _ => ⟨rfl, rfl, rfl, rfl, rfl, rfl⟩, fun o' l' m' ps' b' la' hk' ht' => (by obtain ⟨rfl, rfl, rfl, rfl, rfl, rfl⟩ := HQ.out o' l' m' ps' b' la' hk' ht'; exact absurd ht'.symm HE.out)⟩
  · have q45 : (f3.toList == [45]) = false := by have := ne_lists h45; rwa [ByteArray.toList_eq ⟨#[45]⟩] at this
    have hq0 : (([] : List UInt8) == t.toList) = false := nil_ne hte
    have HP3 := Lib.hid (fun o l m ps b la => ptx_of HX.out h45 (o := o) (l := l) (m := m) (ps := ps) (b := b) (la := la))
    have hlim3 := cutB_lim 44 f3
    have hmem3 := fun x => cutB_mem (c := 44) (s := f3) (x := x)
    obtain ⟨tx, htx⟩ : ∃ tx, cutB 44 f3 = tx := ⟨_, rfl⟩
    have HSP3 := Lib.hid (l9Cut_blk f3 44)
    rw [htx] at hlim3 hmem3 HP3 HSP3
    have HM3 := Lib.hid hmem3
    clear htx h45 hmem3
    go_wp2_with fail
    refine calls_nmF (fun V => PkS w V bt (X.heap.size + x1.n + 1 + (x2.n + x3.n)) (X.heap.size + x1.n + 1 + (x2.n + x3.n) + 1) cur o l m b la none 0 []) ⟨(by repeat (first | (with_reducible exact HZ.out) | (with_reducible apply plusF) | (with_reducible apply allocF) | (with_reducible apply drewF))), pushF _ _ _ (by simp <;> omega), (by repeat (first | (with_reducible exact HBT.out) | (with_reducible apply plusF) | (with_reducible apply allocF) | (with_reducible apply drewF))), .inl ⟨rfl, rfl, rfl⟩, (by repeat (first | (with_reducible exact HB.out) | refine below_plus ?_ (by first | omega | (simp <;> omega)) _ | refine Below.alloc ?_ (by first | omega | (simp <;> omega)) _ | refine below_patch ?_ (by omega) _ | refine Below.drew ?_)), by simp; omega⟩ ?_
    generalize X.heap.size + x1.n + 1 + (x2.n + x3.n) = B
    intro V hV
    clear rz fz sz rb0 rb1 rb2 rb3 HBT
    have hVz := hV.facts
    have hVl := hV.low
    have HS0 := Lib.hid hV
    clear hV HB HZ
    refine (HSP3.out V hi3).mono ?_
    rintro e w3 ⟨b3, cp3, cur3, rfl, hb3, hc3, hcur3, hm3⟩
    have hm3 : More V w3 := hm3
    have hz3 := (more_below hm3).size
    have hz4 := (Array.getElem?_eq_some_iff.1 hc3).1
    have hS3 : PkS w w3 b3 B w3.heap.size cur3 o l m b la none 0 [] := ⟨(HS0.out.more hm3).z, (HS0.out.more hm3).k, hc3, .inl ⟨rfl, rfl, rfl⟩, (HS0.out.more hm3).bel, by omega⟩
    have HC3 := Lib.hid hcur3
    generalize w3.heap.size = L at *
    clear HS0 hc3 hm3 HSP3 hcur3
    go_wp2
    go_loopw [13] (fun i wr => ∃ (k : Nat) (A : Option Addr) (c : Nat) (ys : List Pr), k ≤ tx.length ∧ i = .int .i64 k ∧ Ptz tx ys k ∧ PkS w wr b3 B L cur3 o l m b la A c ys) (fun i _ => tx.length - (intOf i).toNat)
    case atStart => exact ⟨0, none, 0, [], Nat.zero_le _, rfl, ⟨rfl, fun _ _ _ => by simp⟩, hS3⟩
    case round =>
      obtain ⟨k, A, c, ys, hk, rfl, hpt, hst⟩ := hrel
      clear hS3
      have hyl : ys.length ≤ 2000000 := by have := hpt.len; omega
      have HPX := Lib.hid hpt
      have HS := Lib.hid hst
      clear hpt hst
      rcases dec (k < tx.length) with ⟨hlt, blt⟩ | ⟨hlt, blt⟩
      · obtain ⟨u, hu⟩ : ∃ u, tx[k]? = some u := ⟨tx[k], List.getElem?_eq_getElem hlt⟩
        have husz := HM3.out u (List.mem_of_getElem? hu)
        have hck := HC3.out k u hu
        have HUu := Lib.hid hu
        clear hu
        go_wp2_with fail
        refine wp_region_pt 9 (fun w' => w'.heap[B]? = some (.cells #[.int .i64 o, .int .i64 l, .int .i64 m, .slice A ys.length c, .int .i64 b, .int .i64 la] 26 (0, 0)) ∧ w'.heap[b3]? = some (.cells cur3 9 (0, 0))) (Plan.quiet 0 (Plan.quiet 1 (Plan.quiet 2 (Plan.quiet 3 (Plan.quiet 4 (Plan.quiet 5 (Plan.one 6 (Plan.one 7 (Plan.one 8 (Plan.one 9 (Plan.one 10 Plan.done))))))))))) (by kernel_rfl) (by kernel_rfl) (⟨drewF HS.out.k, drewF HS.out.t⟩) ?_
        refine wpPt_val rfl rfl ?_
        apply Exists.intro
        refine ⟨fun w' hS => ?_, ?_⟩
        focus (have rK := cell_of hS.1; have rT := cell_of hS.2; simp [go_sem, ↓IntWalk.iteOmega, rK, rT, hck] <;> first | done | exact rfl | (rw [IntWalk.i64_in _ (by omega)]; exact rfl) | trace_state)
        refine wpPt_val rfl rfl ?_
        apply Exists.intro
        refine ⟨fun w' hS => ?_, ?_⟩
        focus (have rK := cell_of hS.1; have rT := cell_of hS.2; simp [go_sem, ↓IntWalk.iteOmega, rK, rT, hck] <;> first | done | exact rfl | (rw [IntWalk.i64_in _ (by omega)]; exact rfl) | trace_state)
        refine wpPt_val rfl rfl ?_
        apply Exists.intro
        refine ⟨fun w' hS => ?_, ?_⟩
        focus (have rK := cell_of hS.1; have rT := cell_of hS.2; simp [go_sem, ↓IntWalk.iteOmega, rK, rT, hck] <;> first | done | exact rfl | (rw [IntWalk.i64_in _ (by omega)]; exact rfl) | trace_state)
        refine wpPt_val rfl rfl ?_
        apply Exists.intro
        refine ⟨fun w' hS => ?_, ?_⟩
        focus (have rK := cell_of hS.1; have rT := cell_of hS.2; simp [go_sem, ↓IntWalk.iteOmega, rK, rT, hck] <;> first | done | exact rfl | (rw [IntWalk.i64_in _ (by omega)]; exact rfl) | trace_state)
        refine wpPt_val rfl rfl ?_
        apply Exists.intro
        refine ⟨fun w' hS => ?_, ?_⟩
        focus (have rK := cell_of hS.1; have rT := cell_of hS.2; simp [go_sem, ↓IntWalk.iteOmega, rK, rT, hck] <;> first | done | exact rfl | (rw [IntWalk.i64_in _ (by omega)]; exact rfl) | trace_state)
        refine wpPt_val rfl rfl ?_
        apply Exists.intro
        refine ⟨fun w' hS => ?_, ?_⟩
        focus (have rK := cell_of hS.1; have rT := cell_of hS.2; simp [go_sem, ↓IntWalk.iteOmega, rK, rT, hck] <;> first | done | exact rfl | (rw [IntWalk.i64_in _ (by omega)]; exact rfl) | trace_state)
        refine wpPt_one rfl rfl (fun K hK => ?_)
        go_simp
        refine (l3Pair_any u _ (by omega)).mono ?_
        rintro e w1 ⟨n1, n2, rfl, hm1, hq1⟩
        have hm1 : More _ w1 := hm1
        have HS1 := Lib.hid ((HS.out.more ((by repeat (first | exact More.refl _ | apply More.plus | apply More.alloc | apply More.drew | apply More.drewN)))).more hm1)
        have HPN := Lib.hid (HPX.out.nx HUu.out hq1)
        clear hm1 hq1
        refine hK _ _ (fun hkn => ⟨HS1.out.k, HS1.out.t⟩) ?_
        clear hK K
        refine wpPt_one rfl rfl (fun K hK => ?_)
        go_simp
        refine hK _ _ (fun hkn => ⟨allocF HS1.out.k _, allocF HS1.out.t _⟩) ?_
        clear hK K
        refine wpPt_one rfl rfl (fun K hK => ?_)
        refine oper_appP ⟨n1, n2⟩ _ _ i0 _ rfl Tryz.underlying24 hi hz0 hz1 hz2 rfl HS1.out ((by repeat (first | exact More.refl _ | apply More.plus | apply More.alloc | apply More.drew | apply More.drewN))) rfl _ 1 (new_cells encP ⟨n1, n2⟩ _ _ (by simp <;> omega)) rfl hyl ?_
        intro A6 c6 w6 ht6 hk6 hs6
        have HT6 := Lib.hid ht6
        have HK6 := Lib.hid hk6
        have HS6 := Lib.hid hs6
        have r6 := cell_of hk6
        have f6 := free_of hk6
        have s6 := fun i v => setCell_patch hk6 i v
        have y6 : B < w6.heap.size := (Array.getElem?_eq_some_iff.1 hk6).1
        clear ht6 hk6 hs6
        refine hK _ _ (fun hkn => ⟨HK6.out, HT6.out⟩) ?_
        clear hK K
        refine wpPt_one rfl rfl (fun K hK => ?_)
        go_simp
        refine hK _ _ (fun hkn => absurd hkn (by decide)) ?_
        clear hK K
        refine wpPt_one rfl rfl (fun K hK => ?_)
        go_simp
        refine hK _ _ (fun hkn => absurd hkn (by decide)) ?_
        clear hK K
        refine NoPanic.normal ?_
        go_wp2_with fail
        go_roundw
        case rel => exact ⟨k + 1, A6, c6, ys ++ [⟨n1, n2⟩], by omega, by go_num, HPN.out, (by have h := HS6.out; rw [List.length_append] at h; exact h)⟩
        case measure => simp [intOf]; omega
      · obtain rfl : k = tx.length := by omega
        have HQ := Lib.hid (show ∀ o' l' m' ps' b' la', kvb o' l' m' ps' b' la' = true → t = knT o' l' m' ps' b' la' → o = o' ∧ l = l' ∧ m = m' ∧ ys = ps' ∧ b = b' ∧ la = la' from fun o' l' m' ps' b' la' hk' ht' => by
          obtain ⟨h1, h2, h3, h4, h5⟩ := HU.out o' l' m' ps' b' la' hk' ht'
          have h6 := HP3.out _ _ _ _ _ _ ht'
          have h7 := HPX.out.uni ps' (fun i p hp => (kvb_iff.1 hk').nums.2.2.2 i p hp) h6
          rw [h6, List.length_map, List.take_length] at h7
          exact ⟨h1, h2, h3, h7, h4, h5⟩)
        have HB := Lib.hid (HS.out).bel
        have hfx := (HS.out).facts
        have rz := cell_of (HS.out).z
        have fz := free_of (HS.out).z
        have sz := fun i v => setCell_patch (HS.out).z i v
        have rk := cell_of (HS.out).k
        have fk := free_of (HS.out).k
        have sk := fun i v => setCell_patch (HS.out).k i v
        have hf1 := hfx.1
        have hf2 := hfx.2.1
        have hf3 := hfx.2.2.1
        have hf4 := hfx.2.2.2
        clear hfx
        have HRd := Lib.hid (show Rd encP wr A c ys from HS.out.own.rd)
        have hlw := HS.out.low
        have hof := HS.out.off
        have HOw := Lib.hid (show Own encP 81 wr A c ys w.heap.size from HS.out.own.lower (by omega))
        have HOf := Lib.hid (show ∀ X, A = some X → X.block ≠ w.heap.size from fun X h => by have := hof X h; omega)
        clear hlw hof
        go_wp2_with fail
        cases hk : kvb o l m ys b la
        · refine (specFormatKnown_no o l m A c ys b la _ (by (try unfold RdP); repeat (first | (with_reducible exact HRd.out) | (with_reducible apply rd_seq) | (with_reducible apply Rd.plus) | (with_reducible apply Rd.alloc) | (with_reducible apply Rd.drew) | (with_reducible apply Rd.drewN))) hk).mono ?_
          rintro e w' ⟨rfl, x5, rfl⟩
          have HK := Lib.hid hk
          clear hk
          go_wp2_with fail
          exact bodyPost_ret (v := .tuple #[.agg #[.int .i64 0, .int .i64 0, .int .i64 0, .slice none 0 0, .int .i64 0, .int .i64 0], .bool false]) (by simp [results, Tryz.results28, go_sem, ↓IntWalk.iteOmega]) rfl ⟨0, 0, 0, [], 0, 0, false, ⟨none, 0, rfl, .inl ⟨rfl, rfl, rfl⟩, below_more (by repeat (first | (with_reducible exact HB.out) | refine below_plus ?_ (by first | omega | (simp <;> omega)) _ | refine Below.alloc ?_ (by first | omega | (simp <;> omega)) _ | refine below_patch ?_ (by omega) _ | refine Below.drew ?_))⟩, fun h => by (cases h), fun _ => ⟨rfl, rfl, rfl, rfl, rfl, rfl⟩, fun o' l' m' ps' b' la' hk' ht' => (by obtain ⟨rfl, rfl, rfl, rfl, rfl, rfl⟩ := HQ.out o' l' m' ps' b' la' hk' ht'; rw [HK.out] at hk'; cases hk')⟩
        · refine (specFormatKnown_yes o l m A c ys b la _ (by (try unfold RdP); repeat (first | (with_reducible exact HRd.out) | (with_reducible apply rd_seq) | (with_reducible apply Rd.plus) | (with_reducible apply Rd.alloc) | (with_reducible apply Rd.drew) | (with_reducible apply Rd.drewN))) hk).mono ?_
          rintro e w' ⟨rfl, x5, rfl⟩
          have HK := Lib.hid hk
          clear hk
          by_cases he : knT o l m ys b la = t
          · have q9 : ((knT o l m ys b la).toList == t.toList) = true := by rw [he]; simp
            have HE := Lib.hid he
            clear he
            go_wp2_with fail
            exact bodyPost_ret (v := .tuple #[.agg #[.int .i64 o, .int .i64 l, .int .i64 m, .slice A (ys).length c, .int .i64 b, .int .i64 la], .bool true]) (by simp [results, Tryz.results28, go_sem, ↓IntWalk.iteOmega]) rfl ⟨o, l, m, ys, b, la, true, ⟨A, c, rfl, (by repeat (first | (with_reducible exact HOw.out) | (with_reducible apply own_seq) | (with_reducible apply Own.plus) | (with_reducible refine own_ptF ?_ HOf.out))), below_more (by repeat (first | (with_reducible exact HB.out) | refine below_plus ?_ (by first | omega | (simp <;> omega)) _ | refine Below.alloc ?_ (by first | omega | (simp <;> omega)) _ | refine below_patch ?_ (by omega) _ | refine Below.drew ?_))⟩, fun _ => ⟨HK.out, HE.out.symm⟩, fun h => by (cases h), fun o' l' m' ps' b' la' hk' ht' => ⟨rfl, HQ.out o' l' m' ps' b' la' hk' ht'⟩⟩
          · have q9 := ne_lists he
            have HE := Lib.hid he
            clear he
            go_wp2_with fail
            exact bodyPost_ret (v := .tuple #[.agg #[.int .i64 0, .int .i64 0, .int .i64 0, .slice none 0 0, .int .i64 0, .int .i64 0], .bool false]) (by simp [results, Tryz.results28, go_sem, ↓IntWalk.iteOmega]) rfl ⟨0, 0, 0, [], 0, 0, false, ⟨none, 0, rfl, .inl ⟨rfl, rfl, rfl⟩, below_more (by repeat (first | (with_reducible exact HB.out) | refine below_plus ?_ (by first | omega | (simp <;> omega)) _ | refine Below.alloc ?_ (by first | omega | (simp <;> omega)) _ | refine below_patch ?_ (by omega) _ | refine Below.drew ?_))⟩, fun h => by (cases h), fun _ => ⟨rfl, rfl, rfl, rfl, rfl, rfl⟩, fun o' l' m' ps' b' la' hk' ht' => (by obtain ⟨rfl, rfl, rfl, rfl, rfl, rfl⟩ := HQ.out o' l' m' ps' b' la' hk' ht'; exact absurd ht'.symm HE.out)⟩

end Go.Proofs.YtmddcbebaijjkaaGreatDoor
