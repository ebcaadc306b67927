/- Codes that follow one after the other, in plain Lean; and what is known beside two slices of the call's own. -/
import Derived.Test.YtibfkfinghcpaaaAdv
import Derived.Test.YtibfkfinghcpaaaGrp
import Derived.Test.YtibfkfinghcpaaaTbn
namespace Go.Proofs.Ytibfkfinghcpaaa
open Go.RowKit
set_option linter.unusedVariables false
set_option linter.unusedSimpArgs false

open Classical in
/-- the widths and the data of codes, behind W and D; none if they cannot follow one after the other -/
noncomputable def wlk (l m : Int) (b : Nat) : List Int → List Pr → Int → List Int → List UInt8 → Option (List Int × List UInt8)
  | [], _, _, W, D => some (W, D)
  | c :: cs, ps, last, W, D =>
    if c = two l + 1 then (if cs = [] then some (W ++ [wd l m ps.length last], D) else none)
    else if c = two l then wlk l m b cs (ps.take b) (-1) (W ++ [wd l m ps.length last]) D
    else if Okc l m ps.length last c ∧ D.length + (anyW l ps last c).length ≤ 2000 then wlk l m b cs (aftP l m ps last c) c (W ++ [wd l m ps.length last]) (D ++ anyW l ps last c)
    else none

theorem wlk_nil (l m : Int) (b : Nat) (ps : List Pr) (last : Int) (W : List Int) (D : List UInt8) : wlk l m b [] ps last W D = some (W, D) := rfl

theorem wlk_end {l m : Int} {b : Nat} {cs : List Int} {ps : List Pr} {last : Int} {W : List Int} {D : List UInt8} : wlk l m b ((two l + 1) :: cs) ps last W D = if cs = [] then some (W ++ [wd l m ps.length last], D) else none := by
  show (if _ then _ else _) = _
  rw [if_pos rfl]

theorem wlk_clear {l m : Int} {b : Nat} {cs : List Int} {ps : List Pr} {last : Int} {W : List Int} {D : List UInt8} : wlk l m b (two l :: cs) ps last W D = wlk l m b cs (ps.take b) (-1) (W ++ [wd l m ps.length last]) D := by
  show (if _ then _ else _) = _
  rw [if_neg (by omega), if_pos rfl]

theorem okc_not {l m : Int} {n : Nat} {last c : Int} (h : Okc l m n last c) : c ≠ two l ∧ c ≠ two l + 1 := by
  rcases h with h | ⟨_, h⟩
  · have := hw_iff.1 h; omega
  · subst h; unfold nw; omega

theorem wlk_word {l m : Int} {b : Nat} {c : Int} {cs : List Int} {ps : List Pr} {last : Int} {W : List Int} {D : List UInt8} (hc : Okc l m ps.length last c) (hd : D.length + (anyW l ps last c).length ≤ 2000) :
    wlk l m b (c :: cs) ps last W D = wlk l m b cs (aftP l m ps last c) c (W ++ [wd l m ps.length last]) (D ++ anyW l ps last c) := by
  obtain ⟨h1, h2⟩ := okc_not hc
  show (if _ then _ else _) = _
  rw [if_neg h2, if_neg h1, if_pos ⟨hc, hd⟩]

theorem wlk_bad {l m : Int} {b : Nat} {c : Int} {cs : List Int} {ps : List Pr} {last : Int} {W : List Int} {D : List UInt8} (h1 : c ≠ two l) (h2 : c ≠ two l + 1) (h : ¬ (Okc l m ps.length last c ∧ D.length + (anyW l ps last c).length ≤ 2000)) :
    wlk l m b (c :: cs) ps last W D = none := by
  show (if _ then _ else _) = _
  rw [if_neg h2, if_neg h1, if_neg h]

theorem can_okc {l m : Int} {n : Nat} {last c : Int} (h0 : 2 ≤ two l) (h : canB l m n last c = true) (h1 : c ≠ two l) (h2 : c ≠ two l + 1) : Okc l m n last c := by
  obtain ⟨q1, q2⟩ := canB_iff.1 h
  by_cases hc : c < two l
  · exact .inl (hw_iff.2 (by omega))
  · exact okc_range (by omega) q2

theorem okc_can {l m : Int} {n : Nat} {last c : Int} (h0 : 2 ≤ two l) (h : Okc l m n last c) : canB l m n last c = true := canB_iff.2 ⟨h.nonneg h0, okc_le h h0⟩

/-- what is known in block B, and two slices of the call's own, apart from each other -/
structure T3r (w : World) (B : Nat) (o l m : Int) (ps : List Pr) (base last : Int) (pa : Option Addr) (pc : Nat) (wa : Option Addr) (wc : Nat) (W : List Int) (da : Option Addr) (dc : Nat) (D : List UInt8) : Prop where
  blk : w.heap[B]? = some (.cells #[.int .i64 o, .int .i64 l, .int .i64 m, .slice pa ps.length pc, .int .i64 base, .int .i64 last] 27 (0, 0))
  op : Own encP 137 w pa pc ps (B + 1)
  ow : Own encI 3 w wa wc W (B + 1)
  od : Own encB 5 w da dc D (B + 1)
  wp : ∀ X, wa = some X → Off pa X.block
  wd' : ∀ X, wa = some X → Off da X.block
  dp : ∀ X, da = some X → Off pa X.block

section
variable {w w' : World} {B : Nat} {o l m : Int} {ps ps' : List Pr} {base last last' : Int} {pa : Option Addr} {pc : Nat} {wa : Option Addr} {wc : Nat} {W : List Int} {da : Option Addr} {dc : Nat} {D : List UInt8}

theorem T3r.plus (h : T3r w B o l m ps base last pa pc wa wc W da dc D) (x : Ext) : T3r (Go.Proofs.Ytibfkfinghcpaaa.plus w x) B o l m ps base last pa pc wa wc W da dc D :=
  ⟨blk_plus h.blk _, h.op.plus _, h.ow.plus _, h.od.plus _, h.wp, h.wd', h.dp⟩

theorem T3r.alloc (h : T3r w B o l m ps base last pa pc wa wc W da dc D) (ob : Obj) : T3r (w.alloc ob) B o l m ps base last pa pc wa wc W da dc D := by rw [alloc_plus]; exact h.plus _

theorem T3r.drew (h : T3r w B o l m ps base last pa pc wa wc W da dc D) : T3r w.drew B o l m ps base last pa pc wa wc W da dc D := by rw [drew_is_plus]; exact h.plus _

theorem t3_seq {x y : Ext} (h : T3r (Go.Proofs.Ytibfkfinghcpaaa.plus w x) B o l m ps base last pa pc wa wc W da dc D) : T3r (Go.Proofs.Ytibfkfinghcpaaa.plus w (x.seq y)) B o l m ps base last pa pc wa wc W da dc D := by rw [← plus_plus]; exact h.plus y

theorem T3r.B_lt (h : T3r w B o l m ps base last pa pc wa wc W da dc D) : B < w.heap.size := (Array.getElem?_eq_some_iff.1 h.blk).1

theorem T3r.grewI {A' : Option Addr} {c' : Nat} {ys : List Int} (h : T3r w B o l m ps base last pa pc wa wc W da dc D) (hown : Own encI 3 w' A' c' ys (B + 1)) (hg : Grew wa w w') (hx : Nxt wa A' w.heap.size) :
    T3r w' B o l m ps base last pa pc A' c' ys da dc D where
  blk := by rw [hg.block B h.B_lt fun X hX e => by have := own_lo h.ow X hX; omega]; exact h.blk
  op := own_grew h.op hg fun X hX Y hY e => h.wp Y hY X hX e.symm
  ow := hown
  od := own_grew h.od hg fun X hX Y hY e => h.wd' Y hY X hX e.symm
  wp := fun X hX Y hY e => by
    rcases hx X hX with ⟨Z, hZ, he⟩ | he
    · exact h.wp Z hZ Y hY (by omega)
    · have := (own_lt h.op Y hY).2; omega
  wd' := fun X hX Y hY e => by
    rcases hx X hX with ⟨Z, hZ, he⟩ | he
    · exact h.wd' Z hZ Y hY (by omega)
    · have := (own_lt h.od Y hY).2; omega
  dp := h.dp

theorem T3r.grewB {A' : Option Addr} {c' : Nat} {ys : List UInt8} (h : T3r w B o l m ps base last pa pc wa wc W da dc D) (hown : Own encB 5 w' A' c' ys (B + 1)) (hg : Grew da w w') (hx : Nxt da A' w.heap.size) :
    T3r w' B o l m ps base last pa pc wa wc W A' c' ys where
  blk := by rw [hg.block B h.B_lt fun X hX e => by have := own_lo h.od X hX; omega]; exact h.blk
  op := own_grew h.op hg fun X hX Y hY e => h.dp Y hY X hX e.symm
  ow := own_grew h.ow hg fun X hX Y hY e => h.wd' X hX Y hY e
  od := hown
  wp := h.wp
  wd' := fun X hX Y hY e => by
    rcases hx Y hY with ⟨Z, hZ, he⟩ | he
    · exact h.wd' X hX Z hZ (by omega)
    · have := (own_lt h.ow X hX).2; omega
  dp := fun X hX Y hY e => by
    rcases hx X hX with ⟨Z, hZ, he⟩ | he
    · exact h.dp Z hZ Y hY (by omega)
    · have := (own_lt h.op Y hY).2; omega

theorem own_turn {α : Type} {E : Enc α} {e : TypeId} {a : Option Addr} {cap : Nat} {xs : List α} {ob : Obj} (h : Own E e w a cap xs (B + 1)) : Own E e (patch w B ob) a cap xs (B + 1) :=
  own_patch h fun X hX => by have := own_lo h X hX; omega

/-- the pairs have grown, and something else is known -/
theorem T3r.adv {A' : Option Addr} {c' : Nat} {qs : List Pr} (h : T3r w B o l m ps base last pa pc wa wc W da dc D) (hown : Own encP 137 w' A' c' qs (B + 1)) (hg : Grew pa w w') (hx : Within pa A' w.heap.size) :
    T3r (patch w' B (.cells #[.int .i64 o, .int .i64 l, .int .i64 m, .slice A' qs.length c', .int .i64 base, .int .i64 last'] 27)) B o l m qs base last' A' c' wa wc W da dc D where
  blk := patch_at _ _ _ (by have := h.B_lt; have := hg.size; omega)
  op := own_turn hown
  ow := own_turn (own_grew h.ow hg fun X hX Y hY e => h.wp X hX Y hY e)
  od := own_turn (own_grew h.od hg fun X hX Y hY e => h.dp X hX Y hY e)
  wp := fun X hX Y hY e => by
    rcases hx Y hY with ⟨Z, hZ, he⟩ | he
    · exact h.wp X hX Z hZ (by omega)
    · have := (own_lt h.ow X hX).2; omega
  wd' := h.wd'
  dp := fun X hX Y hY e => by
    rcases hx Y hY with ⟨Z, hZ, he⟩ | he
    · exact h.dp X hX Z hZ (by omega)
    · have := (own_lt h.od X hX).2; omega

theorem own_cutP {α : Type} {E : Enc α} {e : TypeId} {a : Option Addr} {cap lo : Nat} {xs : List α} (h : Own E e w a cap xs lo) (n : Nat) : Own E e w a cap (xs.take n) lo := by
  rcases h with ⟨h1, h2, h3⟩ | ⟨b, cur, h0, h1, hb, hs, hr, hl, hm⟩
  · exact .inl ⟨h1, h2, by rw [h3]; simp⟩
  · refine .inr ⟨b, cur, h0, h1, hb, hs, fun j u hj => hr j u ?_, by rw [List.length_take]; omega, hm⟩
    have h9 : flat E xs = flat E (xs.take n) ++ flat E (xs.drop n) := by
      have := List.take_append_drop n xs
      unfold flat
      rw [← List.flatMap_append, this]
    rw [h9, List.getElem?_append_left (List.getElem?_eq_some_iff.1 hj).1]
    exact hj

/-- the pairs have been cut, and nothing follows -/
theorem T3r.clear {b : Nat} {y : Ext} (h : T3r w B o l m ps base last pa pc wa wc W da dc D) (hb : b ≤ ps.length) :
    T3r (Go.Proofs.Ytibfkfinghcpaaa.plus (patch w B (.cells #[.int .i64 o, .int .i64 l, .int .i64 m, .slice pa b pc, .int .i64 b, .int .i64 (-1)] 27)) y) B o l m (ps.take b) (b : Int) (-1) pa pc wa wc W da dc D := by
  have hl : (ps.take b).length = b := by rw [List.length_take]; omega
  refine T3r.plus ⟨?_, own_turn (own_cutP h.op b), own_turn h.ow, own_turn h.od, h.wp, h.wd', h.dp⟩ y
  rw [hl]
  exact patch_at _ _ _ h.B_lt

end

/-! ### The codes of the longest words follow one after the other -/

theorem gre_wlk {o l m : Int} {b : Nat} : ∀ (f : Nat) (ps : List Pr) (last : Int) (d : List UInt8) (W : List Int) (D : List UInt8), Tx o l m (b : Int) ps last d → d.length ≤ f → D.length + d.length ≤ 2000 →
    ∃ W', wlk l m b (gre l m b f ps last d ++ [two l + 1]) ps last W D = some (W', D ++ d)
  | 0, ps, last, d, W, D, hT, hf, hD => by
    obtain rfl : d = [] := List.eq_nil_of_length_eq_zero (by omega)
    exact ⟨_, by rw [gre_nil, List.nil_append, wlk_end, if_pos rfl, List.append_nil]⟩
  | f + 1, ps, last, d, W, D, hT, hf, hD => by
    have step : ∀ (ps : List Pr) (last : Int) (W : List Int), Tx o l m (b : Int) ps last d → d ≠ [] → full l m ps.length b = false → ∃ W', wlk l m b (gre l m b (f + 1) ps last d ++ [two l + 1]) ps last W D = some (W', D ++ d) := fun ps last W hT hd hfu => by
      obtain ⟨n, c, hn, hc, hT'⟩ := hT.step hd
      have hw := fnd_word hn hc
      have hn1 := hn.1
      have hn2 := hn.2.1
      have hwl : (anyW l ps last c).length = n := by rw [hw, List.length_take]; omega
      obtain ⟨W', hW'⟩ := gre_wlk f _ _ (d.drop n) (W ++ [wd l m ps.length last]) (D ++ anyW l ps last c) hT' (by rw [List.length_drop]; omega) (by rw [List.length_append, hwl, List.length_drop]; omega)
      refine ⟨W', ?_⟩
      rw [gre_step hd hfu hn hc, List.cons_append, wlk_word (fnd_ok hn hc) (by omega), hW', hw, List.append_assoc, List.take_append_drop]
    by_cases hd : d = []
    · subst hd
      exact ⟨_, by rw [gre_nil, List.nil_append, wlk_end, if_pos rfl, List.append_nil]⟩
    · cases hfu : full l m ps.length b
      · exact step ps last W hT hd hfu
      · rw [gre_full hd hfu, List.cons_append, wlk_clear]
        exact step _ _ _ hT.clear hd (full_no.2 (by have := (full_iff.1 hfu).2; rw [List.length_take]; omega))

theorem greL_wlk {o l m last : Int} {b : Nat} {ps : List Pr} {d : List UInt8} (hkv : KV o l m ps (b : Int) last) (hd : dfB o l m (bstr d) = true) (hl : d.length ≤ 2000) :
    ∃ W', wlk l m b (greL l m b ps d) ps last [] [] = some (W', d) := by
  have hT : Tx o l m (b : Int) (ps.take b) (-1) d := ⟨by simpa using hkv.cleared, hd⟩
  obtain ⟨W', hW'⟩ := gre_wlk d.length (ps.take b) (-1) d ([] ++ [wd l m ps.length last]) [] hT (Nat.le_refl _) (by simpa using hl)
  exact ⟨W', by unfold greL; rw [wlk_clear, hW']; rfl⟩

/-- there are at most three codes for two bytes -/
theorem gre_three {o l m : Int} {b : Nat} : ∀ (f : Nat) (ps : List Pr) (last : Int) (d : List UInt8), Tx o l m (b : Int) ps last d → d ≠ [] →
    (2 * (gre l m b f ps last d).length : Int) ≤ 3 * d.length + (if full l m ps.length b then 1 else if last = -1 then -1 else 0)
  | 0, ps, last, d, hT, hd => by
    have : 0 < d.length := List.length_pos_iff.2 hd
    simp only [gre, List.length_nil]
    split <;> (try split) <;> omega
  | f + 1, ps, last, d, hT, hd => by
    have step : ∀ (ps : List Pr) (last : Int), Tx o l m (b : Int) ps last d → full l m ps.length b = false → (2 * (gre l m b (f + 1) ps last d).length : Int) ≤ 3 * d.length + (if last = -1 then -1 else 0) := fun ps last hT hfu => by
      obtain ⟨n, c, hn, hc, hT'⟩ := hT.step hd
      have hn1 := hn.1
      have hn2 := hn.2.1
      have hpos : 0 < d.length := List.length_pos_iff.2 hd
      rw [gre_step hd hfu hn hc, List.length_cons]
      have hc0 : c ≠ -1 := by have := (fnd_ok hn hc).nonneg (hT.1.lim.bds).2.2.2.2.1; omega
      by_cases hd2 : d.drop n = []
      · rw [hd2, gre_nil]
        simp only [List.length_nil]
        split <;> omega
      · have ih := gre_three f _ _ _ hT' hd2
        rw [if_neg hc0, List.length_drop] at ih
        by_cases hl : last = -1
        · have hsame : aftP l m ps last c = ps := by unfold aftP; rw [grB_no.2 (by omega)]; rfl
          rw [hsame, hfu] at ih
          rw [if_pos hl, hsame]
          simp only [Bool.false_eq_true, if_false] at ih
          omega
        · rw [if_neg hl]
          have : (if full l m (aftP l m ps last c).length b = true then (1 : Int) else 0) ≤ 1 := by split <;> omega
          omega
    cases hfu : full l m ps.length b
    · simp only [Bool.false_eq_true, if_false]
      exact step ps last hT hfu
    · rw [gre_full hd hfu, List.length_cons]
      have := step _ _ hT.clear (full_no.2 (by have := (full_iff.1 hfu).2; rw [List.length_take]; omega))
      rw [if_pos rfl] at this ⊢
      omega

theorem greL_len2 {o l m last : Int} {b : Nat} {ps : List Pr} {d : List UInt8} (hkv : KV o l m ps (b : Int) last) (hd : dfB o l m (bstr d) = true) (hl : d.length ≤ 2000) : (greL l m b ps d).length ≤ 3100 := by
  have hT : Tx o l m (b : Int) (ps.take b) (-1) d := ⟨by simpa using hkv.cleared, hd⟩
  unfold greL
  rw [List.length_cons, List.length_append, List.length_singleton]
  by_cases h0 : d = []
  · subst h0; rw [gre_nil]; simp
  · have := gre_three d.length (ps.take b) (-1) d hT h0
    have h2 : (if full l m (ps.take b).length b then (1 : Int) else if (-1 : Int) = -1 then -1 else 0) ≤ 1 := by split <;> (try split) <;> omega
    omega

end Go.Proofs.Ytibfkfinghcpaaa
