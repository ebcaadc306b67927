/- The program's reading of what is known. -/
import Derived.Test.YtmddcbebaijjkaaGreatDoorPke
namespace Go.Proofs.YtmddcbebaijjkaaGreatDoor
open Go.RowKit
set_option linter.unusedVariables false
set_option linter.unusedSimpArgs false

theorem grewF {A : Option Addr} {w w' : World} {k : Nat} {ob : Obj} (hg : Grew A w w') (h : w.heap[k]? = some ob) (ho : ∀ X, A = some X → X.block ≠ k) : w'.heap[k]? = some ob := by
  rw [hg.block k (Array.getElem?_eq_some_iff.1 h).1 ho]; exact h

/-- what is known, being read from texts tx in block bt -/
structure PkS (w wr : World) (bt B L : Nat) (tx : Array Value) (o l m b la : Int) (A : Option Addr) (c : Nat) (ys : List Pr) : Prop where
  z : wr.heap[w.heap.size]? = some (.cells #[.int .i64 0, .int .i64 0, .int .i64 0, .slice none 0 0, .int .i64 0, .int .i64 0] 26 (0, 0))
  k : wr.heap[B]? = some (.cells #[.int .i64 o, .int .i64 l, .int .i64 m, .slice A ys.length c, .int .i64 b, .int .i64 la] 26 (0, 0))
  t : wr.heap[bt]? = some (.cells tx 9 (0, 0))
  own : Own encP 81 wr A c ys L
  bel : Below w.heap.size w wr
  low : w.heap.size < B ∧ B < L ∧ bt < L ∧ w.heap.size < bt ∧ bt ≠ B ∧ L ≤ wr.heap.size

theorem own_ptF {α : Type} {E : Enc α} {e : TypeId} {w : World} {a : Option Addr} {cap : Nat} {xs : List α} {lo b : Nat} {ob : Obj} (h : Own E e w a cap xs lo) (ho : ∀ X, a = some X → X.block ≠ b) : Own E e (patch w b ob) a cap xs lo := by
  rcases h with h | ⟨b', cur, h0, h1, hb, h2⟩
  · exact .inl h
  · exact .inr ⟨b', cur, h0, h1, (patch_other _ _ _ (ho _ h0)).trans hb, h2⟩

theorem calls_nmF {P : Program} {f : FuncId} {args : Array Value} {Q : Ending → World → Prop} {W : World} (F : World → Prop) (hF : F W) (h : ∀ X, F X → Calls P f args X Q) : Calls P f args W Q := h W hF

theorem own_mo {α : Type} {E : Enc α} {e : TypeId} {w w' : World} {a : Option Addr} {cap : Nat} {xs : List α} {lo : Nat} (h : Own E e w a cap xs lo) (hm : More w w') : Own E e w' a cap xs lo := by
  obtain ⟨x, rfl⟩ := hm
  exact h.plus x

theorem PkS.more {w wr wr' : World} {bt B L : Nat} {tx : Array Value} {o l m b la : Int} {A : Option Addr} {c : Nat} {ys : List Pr} (h : PkS w wr bt B L tx o l m b la A c ys) (hm : More wr wr') : PkS w wr' bt B L tx o l m b la A c ys :=
  ⟨blk_mo h.z hm, blk_mo h.k hm, blk_mo h.t hm, own_mo h.own hm, h.bel.trans ((more_below hm).mono h.bel.size), by have := h.low; have := (more_below hm).size; omega⟩

/-- what the walk knows of a world with what is known -/
theorem PkS.facts {w wr : World} {bt B L : Nat} {tx : Array Value} {o l m b la : Int} {A : Option Addr} {c : Nat} {ys : List Pr} (h : PkS w wr bt B L tx o l m b la A c ys) : w.heap.size < wr.heap.size ∧ B < wr.heap.size ∧ bt < wr.heap.size ∧ w.heap.size < B := by
  have := h.low; omega

theorem PkS.off {w wr : World} {bt B L : Nat} {tx : Array Value} {o l m b la : Int} {A : Option Addr} {c : Nat} {ys : List Pr} (h : PkS w wr bt B L tx o l m b la A c ys) : ∀ X, A = some X → L ≤ X.block := fun X hX => (own_lt h.own X hX).1

theorem wpList_appP {P : Program} {ops : Array Oper} {rest : List Oper} {o : Oper} {a : Act} {w1 W : World} {Q : Exit → Act → World → Prop} {w : World} {bt B L : Nat} {tx : Array Value} {ko kl km b la : Int} {A : Option Addr} {c : Nat} {ys : List Pr} (p : Pr) (s x : Operand) (i : TypeInfo) (z : Value) (hgd : o.guard = none)
    (ho : o.op = .call { callee := .builtin .append, args := #[s, x], argTypes := #[24, 24] }) (ht : P.underlying 24 = some (.slice 81)) (hi : P.info? 81 = some i) (hz : i.zero = some z) (hsz : i.size = 2) (hby : i.bytes = 16)
    (hzs : z.cells.size = 2) (hS : PkS w w1 bt B L tx ko kl km b la A c ys) (hm : More w1 W) (hs : a.eval s = .slice A ys.length c) (bb cc : Nat) (hr : ∀ j u, (flat encP [p])[j]? = some u → W.cell? ⟨bb, 0 + j, none⟩ = some u) (hx : a.eval x = .slice (some ⟨bb, 0, none⟩) 1 cc) (hl : ys.length ≤ 2000000)
    (h : ∀ (A' : Option Addr) (c' : Nat) (w' : World), w'.heap[w.heap.size]? = some (.cells #[.int .i64 0, .int .i64 0, .int .i64 0, .slice none 0 0, .int .i64 0, .int .i64 0] 26 (0, 0)) →
      w'.heap[B]? = some (.cells #[.int .i64 ko, .int .i64 kl, .int .i64 km, .slice A ys.length c, .int .i64 b, .int .i64 la] 26 (0, 0)) →
      PkS w (patch w' B (.cells #[.int .i64 ko, .int .i64 kl, .int .i64 km, .slice A' (ys ++ [p]).length c', .int .i64 b, .int .i64 la] 26 (0, 0))) bt B L tx ko kl km b la A' c' (ys ++ [p]) → wpList P ops Q rest (a.put o.dst (.slice A' (ys ++ [p]).length c')) w') :
    wpList P ops Q (o :: rest) a W := by
  have hS2 := hS.more hm
  refine wpList_append_at encP s x _ _ i z 16 hgd ho ht hi hz hsz hby hzs (by decide) ys A c L hS2.own hs [p] bb 0 cc hr hx (by show _ + 1 ≤ _; omega) (by show (_ + 1) * 16 ≤ _; omega) (by have := hS2.low; omega) ?_
  intro A' c' w' h1 h2 h3
  have hlo := hS2.low
  have hoff := hS2.off
  have hk := grewF h2 hS2.k (fun X hX e => by have := hoff X hX; omega)
  have hzz := grewF h2 hS2.z (fun X hX e => by have := hoff X hX; omega)
  have htt := grewF h2 hS2.t (fun X hX e => by have := hoff X hX; omega)
  have hsz' := h2.size
  have hA' : ∀ X, A' = some X → L ≤ X.block := fun X hX => (own_lt h1 X hX).1
  have hbl := hS2.bel.trans (h2.below (B := w.heap.size) (by omega) (fun X hX => by have := hoff X hX; omega))
  refine h A' c' w' hzz hk ⟨(patch_other _ _ _ (by omega)).trans hzz, patch_at _ _ _ (Array.getElem?_eq_some_iff.1 hk).1, (patch_other _ _ _ (by omega)).trans htt, own_ptF h1 (fun X hX e => by have := hA' X hX; omega), below_patch hbl (by omega) _, ?_⟩
  rw [patch_size]
  omega

set_option maxRecDepth 100000 in
set_option maxHeartbeats 8000000 in
theorem ParseKnown_any (t : ByteArray) (w : World) (hs : t.size ≤ 1048576) (hl : Lw w) : Calls Tryz.prog 25 #[.string t] w (RetPk w t) := by
  obtain ⟨i0, hi, hz0, hz1, hz2⟩ := info_parts infoPair
  have HL := Lib.hid hl
  clear hl
  have hlim := cutB_lim 59 t
  have hmem := fun x => cutB_mem (c := 59) (s := t) (x := x)
  obtain ⟨xs, hxs⟩ : ∃ xs, cutB 59 t = xs := ⟨_, rfl⟩
  rw [hxs] at hlim hmem
  have HX := Lib.hid hxs
  have HSP := Lib.hid (Split_any t 59)
  rw [hxs] at HSP
  clear hxs
  go_enter Tryz.func25, Tryz.ntmps25
  go_wp2_with fail
  refine (HSP.out _ hs).mono ?_
  rintro e X ⟨bt, rfl, hb0, hb, hm⟩
  have hm : More _ X := hm
  simp at hb0
  have HZ := Lib.hid (blk_mo (pushF w _ _ rfl) hm)
  have HB := Lib.hid (((Below.refl w.heap.size w).alloc (Nat.le_refl _) _).trans ((more_below hm).mono (by simp)))
  have rz := cell_of HZ.out
  have fz := free_of HZ.out
  have sz := fun i v => setCell_patch HZ.out i v
  have hX1 : w.heap.size < X.heap.size := (Array.getElem?_eq_some_iff.1 HZ.out).1
  have rb := cell_of hb
  have HBT := Lib.hid hb
  have hX2 : bt < X.heap.size := (Array.getElem?_eq_some_iff.1 hb).1
  clear hm hb
  by_cases h4 : xs.length = 4
  case neg =>
    have v3 : ((xs.length : Int) == 4) = false := by rw [beq_eq_false_iff_ne]; omega
    have HN := Lib.hid (kn_miss (t := t) (by rw [HX.out]; exact h4))
    go_wp2_with fail
    exact bodyPost_ret (v := .tuple #[.agg #[.int .i64 0, .int .i64 0, .int .i64 0, .slice none 0 0, .int .i64 0, .int .i64 0], .bool false]) (by simp [results, Tryz.results25, go_sem, ↓IntWalk.iteOmega]) rfl ⟨0, 0, 0, [], 0, 0, false, ⟨none, 0, rfl, .inl ⟨rfl, rfl, rfl⟩, below_more (by repeat (first | (with_reducible exact HB.out) | refine below_plus ?_ (by first | omega | (simp <;> omega)) _ | refine Below.alloc ?_ (by first | omega | (simp <;> omega)) _ | refine below_patch ?_ (by omega) _ | refine Below.drew ?_))⟩, fun h => by (cases h), fun _ => ⟨rfl, rfl, rfl, rfl, rfl, rfl⟩, fun o' l' m' ps' b' la' hk' ht' => absurd ht' (HN.out _ _ _ _ _ _)⟩
  obtain ⟨f0, f1, f2, f3, rfl⟩ := four_of h4
  have hf0 := hmem f0 (by simp)
  have hf1 := hmem f1 (by simp)
  have hf2 := hmem f2 (by simp)
  have hf3 := hmem f3 (by simp)
  have HPT := Lib.hid (fun o l m ps b la => kn_parts HX.out (o := o) (l := l) (m := m) (ps := ps) (b := b) (la := la))
  clear hmem HSP h4
  simp only [List.map_cons, List.map_nil] at rb
  have hi0 : f0.size ≤ 1048576 := by omega
  have hi1 : f1.size ≤ 1048576 := by omega
  have hi2 : f2.size ≤ 1048576 := by omega
  have hi3 : f3.size ≤ 1048576 := by omega
  go_wp2_with fail
  refine (ParseSetting_any f0 _ hi0 (HL.out.below (by repeat (first | (with_reducible exact HB.out) | refine below_plus ?_ (by first | omega | (simp <;> omega)) _ | refine Below.alloc ?_ (by first | omega | (simp <;> omega)) _ | refine below_patch ?_ (by omega) _ | refine Below.drew ?_)))).mono ?_
  rintro e w' ⟨o, l, m, ok0, rfl, ⟨x1, rfl⟩, ha0, hg0⟩
  have HA0 := Lib.hid ha0
  have HG0 := Lib.hid hg0
  clear ha0 hg0
  go_wp2_with fail
  refine (parseNumber_any f1 _ hi1 (HL.out.below (by repeat (first | (with_reducible exact HB.out) | refine below_plus ?_ (by first | omega | (simp <;> omega)) _ | refine Below.alloc ?_ (by first | omega | (simp <;> omega)) _ | refine below_patch ?_ (by omega) _ | refine Below.drew ?_)))).mono ?_
  rintro e w' ⟨b, ok1, rfl, ⟨x2, rfl⟩, ha1, hg1⟩
  have HA1 := Lib.hid ha1
  have HG1 := Lib.hid hg1
  clear ha1 hg1
  go_wp2_with fail
  refine (parseNumber_any f2 _ hi2 (HL.out.below (by repeat (first | (with_reducible exact HB.out) | refine below_plus ?_ (by first | omega | (simp <;> omega)) _ | refine Below.alloc ?_ (by first | omega | (simp <;> omega)) _ | refine below_patch ?_ (by omega) _ | refine Below.drew ?_)))).mono ?_
  rintro e w' ⟨la, ok2, rfl, ⟨x3, rfl⟩, ha2, hg2⟩
  have HA2 := Lib.hid ha2
  have HG2 := Lib.hid hg2
  clear ha2 hg2
  cases ok0
  · go_wp2_with fail
    exact bodyPost_ret (v := .tuple #[.agg #[.int .i64 0, .int .i64 0, .int .i64 0, .slice none 0 0, .int .i64 0, .int .i64 0], .bool false]) (by simp [results, Tryz.results25, go_sem, ↓IntWalk.iteOmega]) rfl ⟨0, 0, 0, [], 0, 0, false, ⟨none, 0, rfl, .inl ⟨rfl, rfl, rfl⟩, below_more (by repeat (first | (with_reducible exact HB.out) | refine below_plus ?_ (by first | omega | (simp <;> omega)) _ | refine Below.alloc ?_ (by first | omega | (simp <;> omega)) _ | refine below_patch ?_ (by omega) _ | refine Below.drew ?_))⟩, fun h => by (cases h), fun _ => ⟨rfl, rfl, rfl, rfl, rfl, rfl⟩, fun o' l' m' ps' b' la' hk' ht' => (by obtain ⟨e0, _⟩ := HPT.out _ _ _ _ _ _ ht'; obtain ⟨_, _, _, h9⟩ := HG0.out o' l' m' (kvb_iff.1 hk').s e0; cases h9)⟩
  cases ok1
  · go_wp2_with fail
    exact bodyPost_ret (v := .tuple #[.agg #[.int .i64 0, .int .i64 0, .int .i64 0, .slice none 0 0, .int .i64 0, .int .i64 0], .bool false]) (by simp [results, Tryz.results25, go_sem, ↓IntWalk.iteOmega]) rfl ⟨0, 0, 0, [], 0, 0, false, ⟨none, 0, rfl, .inl ⟨rfl, rfl, rfl⟩, below_more (by repeat (first | (with_reducible exact HB.out) | refine below_plus ?_ (by first | omega | (simp <;> omega)) _ | refine Below.alloc ?_ (by first | omega | (simp <;> omega)) _ | refine below_patch ?_ (by omega) _ | refine Below.drew ?_))⟩, fun h => by (cases h), fun _ => ⟨rfl, rfl, rfl, rfl, rfl, rfl⟩, fun o' l' m' ps' b' la' hk' ht' => (by obtain ⟨_, e1, _⟩ := HPT.out _ _ _ _ _ _ ht'; obtain ⟨_, h9⟩ := HG1.out b' (kvb_iff.1 hk').all64.1 e1; cases h9)⟩
  cases ok2
  · go_wp2_with fail
    exact bodyPost_ret (v := .tuple #[.agg #[.int .i64 0, .int .i64 0, .int .i64 0, .slice none 0 0, .int .i64 0, .int .i64 0], .bool false]) (by simp [results, Tryz.results25, go_sem, ↓IntWalk.iteOmega]) rfl ⟨0, 0, 0, [], 0, 0, false, ⟨none, 0, rfl, .inl ⟨rfl, rfl, rfl⟩, below_more (by repeat (first | (with_reducible exact HB.out) | refine below_plus ?_ (by first | omega | (simp <;> omega)) _ | refine Below.alloc ?_ (by first | omega | (simp <;> omega)) _ | refine below_patch ?_ (by omega) _ | refine Below.drew ?_))⟩, fun h => by (cases h), fun _ => ⟨rfl, rfl, rfl, rfl, rfl, rfl⟩, fun o' l' m' ps' b' la' hk' ht' => (by obtain ⟨_, _, e2, _⟩ := HPT.out _ _ _ _ _ _ ht'; obtain ⟨_, h9⟩ := HG2.out la' (kvb_iff.1 hk').all64.2.1 e2; cases h9)⟩
  have HH := Lib.hid (show sv o l m = true ∧ f0 = setT o l m ∧ f1 = decB b ∧ f2 = decB la from ⟨(HA0.out rfl).1, (HA0.out rfl).2, (HA1.out rfl).1, (HA2.out rfl).1⟩)
  have HU := Lib.hid (show ∀ o' l' m' ps' b' la', kvb o' l' m' ps' b' la' = true → t = knT o' l' m' ps' b' la' → o = o' ∧ l = l' ∧ m = m' ∧ b = b' ∧ la = la' from fun o' l' m' ps' b' la' hk' ht' => by
    obtain ⟨e0, e1, e2, _⟩ := HPT.out _ _ _ _ _ _ ht'
    obtain ⟨h1, h2, h3, _⟩ := HG0.out o' l' m' (kvb_iff.1 hk').s e0
    obtain ⟨h4, _⟩ := HG1.out b' (kvb_iff.1 hk').all64.1 e1
    obtain ⟨h5, _⟩ := HG2.out la' (kvb_iff.1 hk').all64.2.1 e2
    exact ⟨h1, h2, h3, h4, h5⟩)
  clear HA0 HA1 HA2 HG0 HG1 HG2 HPT
  by_cases h45 : f3 = ⟨#[45]⟩
  · have q45 : (f3.toList == [45]) = true := by rw [h45, ByteArray.toList_eq]; rfl
    have HW := Lib.hid (fun _ : kvb o l m [] b la = true => kn_whole HX.out HH.out.2.1 HH.out.2.2.1 HH.out.2.2.2 (show f3 = orD (prsJ []) by rw [h45]; exact ((orD_prs []).1 rfl).symm))
    have HQ := Lib.hid (show ∀ o' l' m' ps' b' la', kvb o' l' m' ps' b' la' = true → t = knT o' l' m' ps' b' la' → o = o' ∧ l = l' ∧ m = m' ∧ ([] : List Pr) = ps' ∧ b = b' ∧ la = la' from fun o' l' m' ps' b' la' hk' ht' => by
      obtain ⟨h1, h2, h3, h4, h5⟩ := HU.out o' l' m' ps' b' la' hk' ht'
      exact ⟨h1, h2, h3, (ptx_none HX.out h45 ht').symm, h4, h5⟩)
    clear h45 HU
    go_wp2_with fail
    refine calls_nmF (fun V => PkS w V bt X.heap.size (X.heap.size + 1) ([f0, f1, f2, f3].map Value.string).toArray o l m b la none 0 []) ⟨(by repeat (first | (with_reducible exact HZ.out) | (with_reducible apply plusF) | (with_reducible apply allocF) | (with_reducible apply drewF))), (by repeat (first | exact pushF _ _ _ rfl | apply plusF)), (by repeat (first | (with_reducible exact HBT.out) | (with_reducible apply plusF) | (with_reducible apply allocF) | (with_reducible apply drewF))), .inl ⟨rfl, rfl, rfl⟩, (by repeat (first | (with_reducible exact HB.out) | refine below_plus ?_ (by first | omega | (simp <;> omega)) _ | refine Below.alloc ?_ (by first | omega | (simp <;> omega)) _ | refine below_patch ?_ (by omega) _ | refine Below.drew ?_)), by simp; omega⟩ ?_
    intro V hV
    clear rz fz sz rb HBT
    have HS := Lib.hid hV
    clear hV HB HZ
    have HB := Lib.hid (HS.out).bel
    have hfx := (HS.out).facts
    have rz := cell_of (HS.out).z
    have fz := free_of (HS.out).z
    have sz := fun i v => setCell_patch (HS.out).z i v
    have rk := cell_of (HS.out).k
    have fk := free_of (HS.out).k
    have sk := fun i v => setCell_patch (HS.out).k i v
    have hf1 := hfx.1
    have hf2 := hfx.2.1
    have hf3 := hfx.2.2.1
    have hf4 := hfx.2.2.2
    clear hfx
    have HRd := Lib.hid (show Rd encP V none 0 [] from HS.out.own.rd)
    have hyl : ([] : List Pr).length ≤ 2000000 := by simp
    refine (KnownValid_any o l m none 0 [] b la _ (by (try unfold RdP); repeat (first | (with_reducible exact HRd.out) | (with_reducible apply rd_seq) | (with_reducible apply Rd.plus) | (with_reducible apply Rd.alloc) | (with_reducible apply Rd.drew) | (with_reducible apply Rd.drewN)))).mono ?_
    rintro e w' ⟨rfl, x5, rfl⟩
    cases hk : kvb o l m [] b la
    · go_wp2_with fail
      exact bodyPost_ret (v := .tuple #[.agg #[.int .i64 0, .int .i64 0, .int .i64 0, .slice none 0 0, .int .i64 0, .int .i64 0], .bool false]) (by simp [results, Tryz.results25, go_sem, ↓IntWalk.iteOmega]) rfl ⟨0, 0, 0, [], 0, 0, false, ⟨none, 0, rfl, .inl ⟨rfl, rfl, rfl⟩, below_more (by repeat (first | (with_reducible exact HB.out) | refine below_plus ?_ (by first | omega | (simp <;> omega)) _ | refine Below.alloc ?_ (by first | omega | (simp <;> omega)) _ | refine below_patch ?_ (by omega) _ | refine Below.drew ?_))⟩, fun h => by (cases h), fun _ => ⟨rfl, rfl, rfl, rfl, rfl, rfl⟩, fun o' l' m' ps' b' la' hk' ht' => (by obtain ⟨rfl, rfl, rfl, rfl, rfl, rfl⟩ := HQ.out o' l' m' ps' b' la' hk' ht'; rw [hk] at hk'; cases hk')⟩
    · have HK := Lib.hid hk
      clear hk
      go_wp2_with fail
      refine (copyKnown_any o l m none 0 [] b la _ (by (try unfold RdP); repeat (first | (with_reducible exact HRd.out) | (with_reducible apply rd_seq) | (with_reducible apply Rd.plus) | (with_reducible apply Rd.alloc) | (with_reducible apply Rd.drew) | (with_reducible apply Rd.drewN))) (by omega)).mono ?_
      rintro e w' ⟨pa, pc, rfl, hown, x6, rfl⟩
      (try simp only [plus_plus] at hown)
      have HOp := Lib.hid hown
      clear hown
      go_wp2_with fail
      exact bodyPost_ret (v := .tuple #[.agg #[.int .i64 o, .int .i64 l, .int .i64 m, .slice pa ([]).length pc, .int .i64 b, .int .i64 la], .bool true]) (by simp [results, Tryz.results25, go_sem, ↓IntWalk.iteOmega]) rfl ⟨o, l, m, [], b, la, true, ⟨pa, pc, rfl, ((own_swap HOp.out (by simp <;> omega) (by simp <;> omega)).lower (by simp <;> omega)), below_more (by repeat (first | (with_reducible exact HB.out) | refine below_plus ?_ (by first | omega | (simp <;> omega)) _ | refine Below.alloc ?_ (by first | omega | (simp <;> omega)) _ | refine below_patch ?_ (by omega) _ | refine Below.drew ?_))⟩, fun _ => ⟨HK.out, HW.out HK.out⟩, fun h => by (cases h), fun o' l' m' ps' b' la' hk' ht' => ⟨rfl, HQ.out o' l' m' ps' b' la' hk' ht'⟩⟩
  · have q45 : (f3.toList == [45]) = false := by have := ne_lists h45; rwa [ByteArray.toList_eq ⟨#[45]⟩] at this
    have HP3 := Lib.hid (fun o l m ps b la => ptx_of HX.out h45 (o := o) (l := l) (m := m) (ps := ps) (b := b) (la := la))
    have hlim3 := cutB_lim 44 f3
    have hmem3 := fun x => cutB_mem (c := 44) (s := f3) (x := x)
    obtain ⟨tx, htx⟩ : ∃ tx, cutB 44 f3 = tx := ⟨_, rfl⟩
    have HSP3 := Lib.hid (Split_any f3 44)
    rw [htx] at hlim3 hmem3 HP3 HSP3
    have HTX := Lib.hid htx
    have HM3 := Lib.hid hmem3
    clear htx h45 hmem3
    go_wp2_with fail
    refine calls_nmF (fun V => PkS w V bt X.heap.size (X.heap.size + 1) ([f0, f1, f2, f3].map Value.string).toArray o l m b la none 0 []) ⟨(by repeat (first | (with_reducible exact HZ.out) | (with_reducible apply plusF) | (with_reducible apply allocF) | (with_reducible apply drewF))), (by repeat (first | exact pushF _ _ _ rfl | apply plusF)), (by repeat (first | (with_reducible exact HBT.out) | (with_reducible apply plusF) | (with_reducible apply allocF) | (with_reducible apply drewF))), .inl ⟨rfl, rfl, rfl⟩, (by repeat (first | (with_reducible exact HB.out) | refine below_plus ?_ (by first | omega | (simp <;> omega)) _ | refine Below.alloc ?_ (by first | omega | (simp <;> omega)) _ | refine below_patch ?_ (by omega) _ | refine Below.drew ?_)), by simp; omega⟩ ?_
    intro V hV
    clear rz fz sz rb HBT
    have hVz := hV.facts
    have hVl := hV.low
    have HS0 := Lib.hid hV
    clear hV HB HZ
    refine (HSP3.out V hi3).mono ?_
    rintro e w3 ⟨b3, rfl, hb3, hc3, hm3⟩
    have hm3 : More V w3 := hm3
    have hz3 := (more_below hm3).size
    have hz4 := (Array.getElem?_eq_some_iff.1 hc3).1
    have hS3 : PkS w w3 b3 X.heap.size w3.heap.size (tx.map Value.string).toArray o l m b la none 0 [] := ⟨(HS0.out.more hm3).z, (HS0.out.more hm3).k, hc3, .inl ⟨rfl, rfl, rfl⟩, (HS0.out.more hm3).bel, by omega⟩
    generalize X.heap.size = B at *
    generalize w3.heap.size = L at *
    clear HS0 hc3 hm3 HSP3
    go_wp2
    go_loopw [63] (fun i wr => ∃ (k : Nat) (A : Option Addr) (c : Nat) (ys : List Pr), k ≤ tx.length ∧ i = .int .i64 k ∧ Ptx tx ys k ∧ PkS w wr b3 B L (tx.map Value.string).toArray o l m b la A c ys) (fun i _ => tx.length - (intOf i).toNat)
    case atStart => exact ⟨0, none, 0, [], Nat.zero_le _, rfl, Ptx.zero _, hS3⟩
    case round =>
      obtain ⟨k, A, c, ys, hk, rfl, hpt, hst⟩ := hrel
      clear hS3
      have hyl : ys.length ≤ 2000000 := by have := hpt.len; omega
      have HPX := Lib.hid hpt
      have HS := Lib.hid hst
      clear hpt hst
      rcases dec (k < tx.length) with ⟨hlt, blt⟩ | ⟨hlt, blt⟩
      · obtain ⟨u, hu⟩ : ∃ u, tx[k]? = some u := ⟨tx[k], List.getElem?_eq_getElem hlt⟩
        have husz := HM3.out u (List.mem_of_getElem? hu)
        have HUu := Lib.hid hu
        have c1 := cells_str HS.out.t k u hu
        have hf3' := HS.out.facts.2.2.1
        have HLr := Lib.hid (HL.out.below HS.out.bel)
        clear hu
        go_wp2_with fail
        refine (parsePair_any u wr (by omega) HLr.out).mono ?_
        rintro e w1 ⟨n1, n2, ok, rfl, hm1, h1, h2⟩
        have hm1 : More wr w1 := hm1
        have HS1 := Lib.hid (HS.out.more hm1)
        have H1 := Lib.hid h1
        have H2 := Lib.hid h2
        clear hm1 h1 h2 c1 hf3'
        have HB := Lib.hid (HS1.out).bel
        have hfx := (HS1.out).facts
        have rz := cell_of (HS1.out).z
        have fz := free_of (HS1.out).z
        have sz := fun i v => setCell_patch (HS1.out).z i v
        have rk := cell_of (HS1.out).k
        have fk := free_of (HS1.out).k
        have sk := fun i v => setCell_patch (HS1.out).k i v
        have hf1 := hfx.1
        have hf2 := hfx.2.1
        have hf3 := hfx.2.2.1
        have hf4 := hfx.2.2.2
        clear hfx
        cases ok
        · have HBad := Lib.hid (ptx_bad HUu.out (fun q h1 h2 h3 => by obtain ⟨_, _, h9⟩ := H2.out q h1 h2 h3; cases h9))
          go_wp2_with fail
          exact bodyPost_ret (v := .tuple #[.agg #[.int .i64 0, .int .i64 0, .int .i64 0, .slice none 0 0, .int .i64 0, .int .i64 0], .bool false]) (by simp [results, Tryz.results25, go_sem, ↓IntWalk.iteOmega]) rfl ⟨0, 0, 0, [], 0, 0, false, ⟨none, 0, rfl, .inl ⟨rfl, rfl, rfl⟩, below_more (by repeat (first | (with_reducible exact HB.out) | refine below_plus ?_ (by first | omega | (simp <;> omega)) _ | refine Below.alloc ?_ (by first | omega | (simp <;> omega)) _ | refine below_patch ?_ (by omega) _ | refine Below.drew ?_))⟩, fun h => by (cases h), fun _ => ⟨rfl, rfl, rfl, rfl, rfl, rfl⟩, fun o' l' m' ps' b' la' hk' ht' => absurd (HP3.out _ _ _ _ _ _ ht') (HBad.out ps' (kvb_iff.1 hk').all64.2.2)⟩
        · have HPN := Lib.hid (HPX.out.nx HUu.out (H1.out rfl) (fun q h1 h2 h3 => ⟨(H2.out q h1 h2 h3).1, (H2.out q h1 h2 h3).2.1⟩))
          clear H1 H2
          go_wp2_with (at_builtin; refine wpList_appP ⟨n1, n2⟩ _ _ i0 _ rfl rfl Tryz.underlying24 hi hz0 hz1 hz2 rfl HS1.out (by repeat (first | exact More.refl _ | apply More.plus | apply More.alloc | apply More.drew | apply More.drewN)) rfl _ 1 (new_cells encP ⟨n1, n2⟩ _ _ (by simp <;> omega)) rfl hyl ?_; intro A6 c6 w6 hz6 hk6 hs6; have HS6 := Lib.hid hs6; have r6 := cell_of hk6; have f6 := free_of hk6; have s6 := fun i v => setCell_patch hk6 i v; have y6 : B < w6.heap.size := (Array.getElem?_eq_some_iff.1 hk6).1; clear hz6 hk6 hs6)
          go_roundw
          case rel => exact ⟨k + 1, A6, c6, ys ++ [⟨n1, n2⟩], by omega, by go_num, HPN.out, (by have h := HS6.out; rw [List.length_append] at h; exact h)⟩
          case measure => simp [intOf]; omega
      · obtain rfl : k = tx.length := by omega
        have HW := Lib.hid (fun _ : kvb o l m ys b la = true => kn_whole HX.out HH.out.2.1 HH.out.2.2.1 HH.out.2.2.2 (f3_of (ys := ys) (by rw [HTX.out, ← HPX.out.txt, List.take_length])))
        have HQ := Lib.hid (show ∀ o' l' m' ps' b' la', kvb o' l' m' ps' b' la' = true → t = knT o' l' m' ps' b' la' → o = o' ∧ l = l' ∧ m = m' ∧ ys = ps' ∧ b = b' ∧ la = la' from fun o' l' m' ps' b' la' hk' ht' => by
          obtain ⟨h1, h2, h3, h4, h5⟩ := HU.out o' l' m' ps' b' la' hk' ht'
          have h6 := HP3.out _ _ _ _ _ _ ht'
          have h7 := HPX.out.uni ps' (kvb_iff.1 hk').all64.2.2 h6
          rw [h6, List.length_map, List.take_length] at h7
          exact ⟨h1, h2, h3, h7, h4, h5⟩)
        have HB := Lib.hid (HS.out).bel
        have hfx := (HS.out).facts
        have rz := cell_of (HS.out).z
        have fz := free_of (HS.out).z
        have sz := fun i v => setCell_patch (HS.out).z i v
        have rk := cell_of (HS.out).k
        have fk := free_of (HS.out).k
        have sk := fun i v => setCell_patch (HS.out).k i v
        have hf1 := hfx.1
        have hf2 := hfx.2.1
        have hf3 := hfx.2.2.1
        have hf4 := hfx.2.2.2
        clear hfx
        have HRd := Lib.hid (show Rd encP wr A c ys from HS.out.own.rd)
        go_wp2_with fail
        refine (KnownValid_any o l m A c ys b la _ (by (try unfold RdP); repeat (first | (with_reducible exact HRd.out) | (with_reducible apply rd_seq) | (with_reducible apply Rd.plus) | (with_reducible apply Rd.alloc) | (with_reducible apply Rd.drew) | (with_reducible apply Rd.drewN)))).mono ?_
        rintro e w' ⟨rfl, x5, rfl⟩
        cases hk : kvb o l m ys b la
        · go_wp2_with fail
          exact bodyPost_ret (v := .tuple #[.agg #[.int .i64 0, .int .i64 0, .int .i64 0, .slice none 0 0, .int .i64 0, .int .i64 0], .bool false]) (by simp [results, Tryz.results25, go_sem, ↓IntWalk.iteOmega]) rfl ⟨0, 0, 0, [], 0, 0, false, ⟨none, 0, rfl, .inl ⟨rfl, rfl, rfl⟩, below_more (by repeat (first | (with_reducible exact HB.out) | refine below_plus ?_ (by first | omega | (simp <;> omega)) _ | refine Below.alloc ?_ (by first | omega | (simp <;> omega)) _ | refine below_patch ?_ (by omega) _ | refine Below.drew ?_))⟩, fun h => by (cases h), fun _ => ⟨rfl, rfl, rfl, rfl, rfl, rfl⟩, fun o' l' m' ps' b' la' hk' ht' => (by obtain ⟨rfl, rfl, rfl, rfl, rfl, rfl⟩ := HQ.out o' l' m' ps' b' la' hk' ht'; rw [hk] at hk'; cases hk')⟩
        · have HK := Lib.hid hk
          clear hk
          go_wp2_with fail
          refine (copyKnown_any o l m A c ys b la _ (by (try unfold RdP); repeat (first | (with_reducible exact HRd.out) | (with_reducible apply rd_seq) | (with_reducible apply Rd.plus) | (with_reducible apply Rd.alloc) | (with_reducible apply Rd.drew) | (with_reducible apply Rd.drewN))) (by omega)).mono ?_
          rintro e w' ⟨pa, pc, rfl, hown, x6, rfl⟩
          (try simp only [plus_plus] at hown)
          have HOp := Lib.hid hown
          clear hown
          go_wp2_with fail
          exact bodyPost_ret (v := .tuple #[.agg #[.int .i64 o, .int .i64 l, .int .i64 m, .slice pa (ys).length pc, .int .i64 b, .int .i64 la], .bool true]) (by simp [results, Tryz.results25, go_sem, ↓IntWalk.iteOmega]) rfl ⟨o, l, m, ys, b, la, true, ⟨pa, pc, rfl, ((own_swap HOp.out (by simp <;> omega) (by simp <;> omega)).lower (by simp <;> omega)), below_more (by repeat (first | (with_reducible exact HB.out) | refine below_plus ?_ (by first | omega | (simp <;> omega)) _ | refine Below.alloc ?_ (by first | omega | (simp <;> omega)) _ | refine below_patch ?_ (by omega) _ | refine Below.drew ?_))⟩, fun _ => ⟨HK.out, HW.out HK.out⟩, fun h => by (cases h), fun o' l' m' ps' b' la' hk' ht' => ⟨rfl, HQ.out o' l' m' ps' b' la' hk' ht'⟩⟩

end Go.Proofs.YtmddcbebaijjkaaGreatDoor
