/- Lemmas and walks, part Gb1. -/
import Derived.Test.YtmddcbebaijjkaaGreatDoorPck

/- Codes read from bits, in plain Lean. -/
namespace Go.Proofs.YtmddcbebaijjkaaGreatDoor
open Go.RowKit
set_option linter.unusedVariables false
set_option linter.unusedSimpArgs false

/-- what has been read -/
structure Rg where
  ps : List Pr
  last : Int
  C : List Int
  D : List UInt8
  e : Int
  p : Nat

/-- reading from position p on, behind the codes C and the data D; sz bytes and ct codes had been read before -/
noncomputable def rdc (o l m : Int) (b sz ct : Nat) (bits : List UInt8) : Nat → List Pr → Int → Nat → List Int → List UInt8 → Rg
  | 0, ps, last, p, C, D => ⟨ps, last, C, D, 1, p⟩
  | f + 1, ps, last, p, C, D =>
    if bits.length - p < (wd l m ps.length last).toNat then ⟨ps, last, C, D, 1, p⟩
    else if canB l m ps.length last (numL o ((bits.drop p).take (wd l m ps.length last).toNat)) = false then ⟨ps, last, C, D, 2, p + (wd l m ps.length last).toNat⟩
    else if numL o ((bits.drop p).take (wd l m ps.length last).toNat) = two l + 1 then ⟨ps, last, C ++ [two l + 1], D, 0, p + (wd l m ps.length last).toNat⟩
    else if numL o ((bits.drop p).take (wd l m ps.length last).toNat) = two l then
      if 3100 ≤ ct + (C.length + 1) then ⟨ps.take b, -1, C ++ [two l], D, 3, p + (wd l m ps.length last).toNat⟩
      else rdc o l m b sz ct bits f (ps.take b) (-1) (p + (wd l m ps.length last).toNat) (C ++ [two l]) D
    else if 2000 < sz + D.length + (anyW l ps last (numL o ((bits.drop p).take (wd l m ps.length last).toNat))).length then ⟨ps, last, C, D, 3, p + (wd l m ps.length last).toNat⟩
    else if 3100 ≤ ct + (C.length + 1) then
      ⟨aftP l m ps last (numL o ((bits.drop p).take (wd l m ps.length last).toNat)), numL o ((bits.drop p).take (wd l m ps.length last).toNat), C ++ [numL o ((bits.drop p).take (wd l m ps.length last).toNat)], D ++ anyW l ps last (numL o ((bits.drop p).take (wd l m ps.length last).toNat)), 3, p + (wd l m ps.length last).toNat⟩
    else rdc o l m b sz ct bits f (aftP l m ps last (numL o ((bits.drop p).take (wd l m ps.length last).toNat))) (numL o ((bits.drop p).take (wd l m ps.length last).toNat)) (p + (wd l m ps.length last).toNat)
      (C ++ [numL o ((bits.drop p).take (wd l m ps.length last).toNat)]) (D ++ anyW l ps last (numL o ((bits.drop p).take (wd l m ps.length last).toNat)))

section
variable {o l m : Int} {b sz ct : Nat} {bits : List UInt8} {f : Nat} {ps : List Pr} {last : Int} {p n : Nat} {C : List Int} {D : List UInt8} {c : Int}

theorem rdc_short (hn : (wd l m ps.length last).toNat = n) (h : bits.length - p < n) : rdc o l m b sz ct bits f ps last p C D = ⟨ps, last, C, D, 1, p⟩ := by
  cases f with
  | zero => rfl
  | succ f =>
    show (if _ then _ else _) = _
    rw [hn, if_pos h]

theorem rdc_wrong (hn : (wd l m ps.length last).toNat = n) (h : ¬ bits.length - p < n) (hc : numL o ((bits.drop p).take n) = c) (h1 : canB l m ps.length last c = false) :
    rdc o l m b sz ct bits (f + 1) ps last p C D = ⟨ps, last, C, D, 2, p + n⟩ := by
  show (if _ then _ else _) = _
  rw [hn, if_neg h, hc, if_pos h1]

theorem rdc_end (hn : (wd l m ps.length last).toNat = n) (h : ¬ bits.length - p < n) (hc : numL o ((bits.drop p).take n) = two l + 1) (h1 : canB l m ps.length last (two l + 1) = true) :
    rdc o l m b sz ct bits (f + 1) ps last p C D = ⟨ps, last, C ++ [two l + 1], D, 0, p + n⟩ := by
  show (if _ then _ else _) = _
  rw [hn, if_neg h, hc, if_neg (by rw [h1]; simp), if_pos rfl]

theorem rdc_clear (hn : (wd l m ps.length last).toNat = n) (h : ¬ bits.length - p < n) (hc : numL o ((bits.drop p).take n) = two l) (h1 : canB l m ps.length last (two l) = true) :
    rdc o l m b sz ct bits (f + 1) ps last p C D = if 3100 ≤ ct + (C.length + 1) then ⟨ps.take b, -1, C ++ [two l], D, 3, p + n⟩ else rdc o l m b sz ct bits f (ps.take b) (-1) (p + n) (C ++ [two l]) D := by
  show (if _ then _ else _) = _
  rw [hn, if_neg h, hc, if_neg (by rw [h1]; simp), if_neg (by omega), if_pos rfl]

theorem rdc_long (hn : (wd l m ps.length last).toNat = n) (h : ¬ bits.length - p < n) (hc : numL o ((bits.drop p).take n) = c) (h1 : canB l m ps.length last c = true) (h2 : c ≠ two l + 1) (h3 : c ≠ two l) (h4 : 2000 < sz + D.length + (anyW l ps last c).length) :
    rdc o l m b sz ct bits (f + 1) ps last p C D = ⟨ps, last, C, D, 3, p + n⟩ := by
  show (if _ then _ else _) = _
  rw [hn, if_neg h, hc, if_neg (by rw [h1]; simp), if_neg h2, if_neg h3, if_pos h4]

theorem rdc_word (hn : (wd l m ps.length last).toNat = n) (h : ¬ bits.length - p < n) (hc : numL o ((bits.drop p).take n) = c) (h1 : canB l m ps.length last c = true) (h2 : c ≠ two l + 1) (h3 : c ≠ two l) (h4 : ¬ 2000 < sz + D.length + (anyW l ps last c).length) :
    rdc o l m b sz ct bits (f + 1) ps last p C D = if 3100 ≤ ct + (C.length + 1) then ⟨aftP l m ps last c, c, C ++ [c], D ++ anyW l ps last c, 3, p + n⟩ else rdc o l m b sz ct bits f (aftP l m ps last c) c (p + n) (C ++ [c]) (D ++ anyW l ps last c) := by
  show (if _ then _ else _) = _
  rw [hn, if_neg h, hc, if_neg (by rw [h1]; simp), if_neg h2, if_neg h3, if_neg h4]

end

/-- the codes read follow one after the other, and the data are theirs -/
theorem rdc_wlk {o l m : Int} {b sz ct : Nat} {bits : List UInt8} {ps0 : List Pr} {last0 : Int} : ∀ (f : Nat) (ps : List Pr) (last : Int) (p : Nat) (C : List Int) (D : List UInt8) (W : List Int), KV o l m ps (b : Int) last →
    (∀ cs, wlk l m b (C ++ cs) ps0 last0 [] [] = wlk l m b cs ps last W D) → ct + C.length < 3100 → sz + D.length ≤ 2000 →
    (∃ W', wlk l m b (rdc o l m b sz ct bits f ps last p C D).C ps0 last0 [] [] = some (W', (rdc o l m b sz ct bits f ps last p C D).D)) ∧ ct + (rdc o l m b sz ct bits f ps last p C D).C.length ≤ 3100 ∧ sz + (rdc o l m b sz ct bits f ps last p C D).D.length ≤ 2000 ∧
    KV o l m (rdc o l m b sz ct bits f ps last p C D).ps (b : Int) (rdc o l m b sz ct bits f ps last p C D).last
  | 0, ps, last, p, C, D, W, hkv, hL, hC, hD => by
    have := hL []
    rw [List.append_nil, wlk_nil] at this
    exact ⟨⟨W, this⟩, by show ct + C.length ≤ 3100; omega, hD, hkv⟩
  | f + 1, ps, last, p, C, D, W, hkv, hL, hC, hD => by
    have hL0 : wlk l m b C ps0 last0 [] [] = some (W, D) := by
      have := hL []
      rwa [List.append_nil, wlk_nil] at this
    have t1 := (hkv.lim.bds).2.2.2.2.1
    obtain ⟨n, hn⟩ : ∃ n, (wd l m ps.length last).toNat = n := ⟨_, rfl⟩
    by_cases hs : bits.length - p < n
    · rw [rdc_short hn hs]
      exact ⟨⟨W, hL0⟩, by show ct + C.length ≤ 3100; omega, hD, hkv⟩
    · obtain ⟨c, hc⟩ : ∃ c, numL o ((bits.drop p).take n) = c := ⟨_, rfl⟩
      cases h1 : canB l m ps.length last c
      · rw [rdc_wrong hn hs hc h1]
        exact ⟨⟨W, hL0⟩, by show ct + C.length ≤ 3100; omega, hD, hkv⟩
      · by_cases h2 : c = two l + 1
        · subst h2
          rw [rdc_end hn hs hc h1]
          refine ⟨⟨W ++ [wd l m ps.length last], ?_⟩, by show ct + (C ++ [_]).length ≤ 3100; rw [List.length_append]; simp; omega, hD, hkv⟩
          show wlk l m b (C ++ [two l + 1]) ps0 last0 [] [] = _
          rw [hL, wlk_end, if_pos rfl]
        · by_cases h3 : c = two l
          · subst h3
            have hL2 : ∀ cs, wlk l m b (C ++ [two l] ++ cs) ps0 last0 [] [] = wlk l m b cs (ps.take b) (-1) (W ++ [wd l m ps.length last]) D := fun cs => by
              rw [List.append_assoc, hL, List.singleton_append, wlk_clear]
            have hk2 : KV o l m (ps.take b) (b : Int) (-1) := by simpa using hkv.cleared
            rw [rdc_clear hn hs hc h1]
            by_cases h4 : 3100 ≤ ct + (C.length + 1)
            · rw [if_pos h4]
              have := hL2 []
              rw [List.append_nil, wlk_nil] at this
              exact ⟨⟨_, this⟩, by show ct + (C ++ [_]).length ≤ 3100; rw [List.length_append]; simp; omega, hD, hk2⟩
            · rw [if_neg h4]
              exact rdc_wlk f _ _ _ _ _ _ hk2 hL2 (by rw [List.length_append]; simp; omega) hD
          · have hok := can_okc t1 h1 h3 h2
            by_cases h5 : 2000 < sz + D.length + (anyW l ps last c).length
            · rw [rdc_long hn hs hc h1 h2 h3 h5]
              exact ⟨⟨W, hL0⟩, by show ct + C.length ≤ 3100; omega, hD, hkv⟩
            · have hL2 : ∀ cs, wlk l m b (C ++ [c] ++ cs) ps0 last0 [] [] = wlk l m b cs (aftP l m ps last c) c (W ++ [wd l m ps.length last]) (D ++ anyW l ps last c) := fun cs => by
                rw [List.append_assoc, hL, List.singleton_append, wlk_word hok (by omega)]
              have hk2 := hkv.after hok
              rw [rdc_word hn hs hc h1 h2 h3 h5]
              by_cases h4 : 3100 ≤ ct + (C.length + 1)
              · rw [if_pos h4]
                have := hL2 []
                rw [List.append_nil, wlk_nil] at this
                exact ⟨⟨_, this⟩, by show ct + (C ++ [_]).length ≤ 3100; rw [List.length_append]; simp; omega, by show sz + (D ++ _).length ≤ 2000; rw [List.length_append]; omega, hk2⟩
              · rw [if_neg h4]
                exact rdc_wlk f _ _ _ _ _ _ hk2 hL2 (by rw [List.length_append]; simp; omega) (by rw [List.length_append]; omega)

end Go.Proofs.YtmddcbebaijjkaaGreatDoor

/- A reading in memory, and its three slices of the call's own. -/
namespace Go.Proofs.YtmddcbebaijjkaaGreatDoor
open Go.RowKit
set_option linter.unusedVariables false
set_option linter.unusedSimpArgs false

theorem numL_bd (o : Int) (bs : List UInt8) (h : bs.length ≤ 10) : 0 ≤ numL o bs ∧ numL o bs < 1024 := by
  have := numK_bd (o := o) (w := bs.length) (bs := bs) (k := bs.length) (Nat.le_refl _) (Nat.le_refl _) h
  rwa [numK_all] at this

theorem can_clear {l m : Int} {n : Nat} {last : Int} (h0 : 2 ≤ two l) : canB l m n last (two l) = true := canB_iff.2 ⟨by omega, by unfold gt nw; split <;> omega⟩

theorem can_end {l m : Int} {n : Nat} {last : Int} (h0 : 2 ≤ two l) : canB l m n last (two l + 1) = true := canB_iff.2 ⟨by omega, by unfold gt nw; split <;> omega⟩

/-- a reading in block B, and its three slices of the call's own, apart from each other -/
structure T4r (w : World) (B lo : Nat) (o l m : Int) (ps : List Pr) (base last : Int) (pa : Option Addr) (pc : Nat) (ca : Option Addr) (cc : Nat) (C : List Int) (da : Option Addr) (dc : Nat) (D : List UInt8) (e p : Int) : Prop where
  blk : w.heap[B]? = some (.cells #[.int .i64 o, .int .i64 l, .int .i64 m, .slice pa ps.length pc, .int .i64 base, .int .i64 last, .slice ca C.length cc, .slice da D.length dc, .int .i64 e, .int .i64 p] 71 (0, 0))
  op : Own encP 81 w pa pc ps lo
  oc : Own encI 3 w ca cc C lo
  od : Own encB 5 w da dc D lo
  cp : ∀ X, ca = some X → Off pa X.block
  cd : ∀ X, ca = some X → Off da X.block
  dp : ∀ X, da = some X → Off pa X.block
  bp : Off pa B
  bc : Off ca B
  bd : Off da B

section
variable {w w' : World} {B lo : Nat} {o l m : Int} {ps : List Pr} {base last last' : Int} {pa : Option Addr} {pc : Nat} {ca : Option Addr} {cc : Nat} {C : List Int} {da : Option Addr} {dc : Nat} {D : List UInt8} {e p : Int}

theorem T4r.plus (h : T4r w B lo o l m ps base last pa pc ca cc C da dc D e p) (x : Ext) : T4r (Go.Proofs.YtmddcbebaijjkaaGreatDoor.plus w x) B lo o l m ps base last pa pc ca cc C da dc D e p :=
  ⟨blk_plus h.blk _, h.op.plus _, h.oc.plus _, h.od.plus _, h.cp, h.cd, h.dp, h.bp, h.bc, h.bd⟩

theorem T4r.alloc (h : T4r w B lo o l m ps base last pa pc ca cc C da dc D e p) (ob : Obj) : T4r (w.alloc ob) B lo o l m ps base last pa pc ca cc C da dc D e p := by rw [alloc_plus]; exact h.plus _

theorem T4r.drew (h : T4r w B lo o l m ps base last pa pc ca cc C da dc D e p) : T4r w.drew B lo o l m ps base last pa pc ca cc C da dc D e p := by rw [drew_is_plus]; exact h.plus _

theorem t4_seq {x y : Ext} (h : T4r (Go.Proofs.YtmddcbebaijjkaaGreatDoor.plus w x) B lo o l m ps base last pa pc ca cc C da dc D e p) : T4r (Go.Proofs.YtmddcbebaijjkaaGreatDoor.plus w (x.seq y)) B lo o l m ps base last pa pc ca cc C da dc D e p := by rw [← plus_plus]; exact h.plus y

theorem T4r.B_lt (h : T4r w B lo o l m ps base last pa pc ca cc C da dc D e p) : B < w.heap.size := (Array.getElem?_eq_some_iff.1 h.blk).1

/-- the numbers have turned -/
theorem T4r.turn (h : T4r w B lo o l m ps base last pa pc ca cc C da dc D e p) (e' p' : Int) :
    T4r (patch w B (.cells #[.int .i64 o, .int .i64 l, .int .i64 m, .slice pa ps.length pc, .int .i64 base, .int .i64 last, .slice ca C.length cc, .slice da D.length dc, .int .i64 e', .int .i64 p'] 71)) B lo o l m ps base last pa pc ca cc C da dc D e' p' :=
  ⟨patch_at _ _ _ h.B_lt, own_patch h.op h.bp, own_patch h.oc h.bc, own_patch h.od h.bd, h.cp, h.cd, h.dp, h.bp, h.bc, h.bd⟩

theorem T4r.grewC {A' : Option Addr} {c' : Nat} {ys : List Int} (h : T4r w B lo o l m ps base last pa pc ca cc C da dc D e p) (hown : Own encI 3 w' A' c' ys lo) (hg : Grew ca w w') (hx : Nxt ca A' w.heap.size) (e' : Int) :
    T4r (patch w' B (.cells #[.int .i64 o, .int .i64 l, .int .i64 m, .slice pa ps.length pc, .int .i64 base, .int .i64 last, .slice A' ys.length c', .slice da D.length dc, .int .i64 e', .int .i64 p] 71)) B lo o l m ps base last pa pc A' c' ys da dc D e' p := by
  have hB := h.B_lt
  have hs := hg.size
  have hb : Off A' B := hx.off h.bc (by omega)
  refine ⟨patch_at _ _ _ (by omega), own_patch (own_grew h.op hg fun X hX Y hY e => h.cp Y hY X hX e.symm) h.bp, own_patch hown hb, own_patch (own_grew h.od hg fun X hX Y hY e => h.cd Y hY X hX e.symm) h.bd, ?_, ?_, h.dp, h.bp, hb, h.bd⟩
  · intro X hX Y hY e
    rcases hx X hX with ⟨Z, hZ, he⟩ | he
    · exact h.cp Z hZ Y hY (by omega)
    · have := (own_lt h.op Y hY).2; omega
  · intro X hX Y hY e
    rcases hx X hX with ⟨Z, hZ, he⟩ | he
    · exact h.cd Z hZ Y hY (by omega)
    · have := (own_lt h.od Y hY).2; omega

theorem T4r.grewC_blk {w' : World} (h : T4r w B lo o l m ps base last pa pc ca cc C da dc D e p) (hg : Grew ca w w') : w'.heap[B]? = some (.cells #[.int .i64 o, .int .i64 l, .int .i64 m, .slice pa ps.length pc, .int .i64 base, .int .i64 last, .slice ca C.length cc, .slice da D.length dc, .int .i64 e, .int .i64 p] 71 (0, 0)) := by
  rw [hg.block B h.B_lt h.bc]; exact h.blk

theorem T4r.grewD {A' : Option Addr} {c' : Nat} {ys : List UInt8} (h : T4r w B lo o l m ps base last pa pc ca cc C da dc D e p) (hown : Own encB 5 w' A' c' ys lo) (hg : Grew da w w') (hx : Nxt da A' w.heap.size) :
    T4r (patch w' B (.cells #[.int .i64 o, .int .i64 l, .int .i64 m, .slice pa ps.length pc, .int .i64 base, .int .i64 last, .slice ca C.length cc, .slice A' ys.length c', .int .i64 e, .int .i64 p] 71)) B lo o l m ps base last pa pc ca cc C A' c' ys e p := by
  have hB := h.B_lt
  have hs := hg.size
  have hb : Off A' B := hx.off h.bd (by omega)
  refine ⟨patch_at _ _ _ (by omega), own_patch (own_grew h.op hg fun X hX Y hY e => h.dp Y hY X hX e.symm) h.bp, own_patch (own_grew h.oc hg fun X hX Y hY e => h.cd X hX Y hY e) h.bc, own_patch hown hb, h.cp, ?_, ?_, h.bp, h.bc, hb⟩
  · intro X hX Y hY e
    rcases hx Y hY with ⟨Z, hZ, he⟩ | he
    · exact h.cd X hX Z hZ (by omega)
    · have := (own_lt h.oc X hX).2; omega
  · intro X hX Y hY e
    rcases hx X hX with ⟨Z, hZ, he⟩ | he
    · exact h.dp Z hZ Y hY (by omega)
    · have := (own_lt h.op Y hY).2; omega

theorem T4r.grewD_blk {w' : World} (h : T4r w B lo o l m ps base last pa pc ca cc C da dc D e p) (hg : Grew da w w') : w'.heap[B]? = some (.cells #[.int .i64 o, .int .i64 l, .int .i64 m, .slice pa ps.length pc, .int .i64 base, .int .i64 last, .slice ca C.length cc, .slice da D.length dc, .int .i64 e, .int .i64 p] 71 (0, 0)) := by
  rw [hg.block B h.B_lt h.bd]; exact h.blk

/-- the pairs have grown, and something else is known -/
theorem T4r.adv {A' : Option Addr} {c' : Nat} {qs : List Pr} (h : T4r w B lo o l m ps base last pa pc ca cc C da dc D e p) (hown : Own encP 81 w' A' c' qs lo) (hg : Grew pa w w') (hx : Within pa A' w.heap.size) :
    T4r (patch w' B (.cells #[.int .i64 o, .int .i64 l, .int .i64 m, .slice A' qs.length c', .int .i64 base, .int .i64 last', .slice ca C.length cc, .slice da D.length dc, .int .i64 e, .int .i64 p] 71)) B lo o l m qs base last' A' c' ca cc C da dc D e p := by
  have hB := h.B_lt
  have hs := hg.size
  have hb : Off A' B := fun Y hY e => by
    rcases hx Y hY with ⟨Z, hZ, he⟩ | he
    · exact h.bp Z hZ (by omega)
    · omega
  refine ⟨patch_at _ _ _ (by omega), own_patch hown hb, own_patch (own_grew h.oc hg fun X hX Y hY e => h.cp X hX Y hY e) h.bc, own_patch (own_grew h.od hg fun X hX Y hY e => h.dp X hX Y hY e) h.bd, ?_, h.cd, ?_, hb, h.bc, h.bd⟩
  · intro X hX Y hY e
    rcases hx Y hY with ⟨Z, hZ, he⟩ | he
    · exact h.cp X hX Z hZ (by omega)
    · have := (own_lt h.oc X hX).2; omega
  · intro X hX Y hY e
    rcases hx Y hY with ⟨Z, hZ, he⟩ | he
    · exact h.dp X hX Z hZ (by omega)
    · have := (own_lt h.od X hX).2; omega

theorem T4r.adv_blk {w' : World} (h : T4r w B lo o l m ps base last pa pc ca cc C da dc D e p) (hg : Grew pa w w') : w'.heap[B]? = some (.cells #[.int .i64 o, .int .i64 l, .int .i64 m, .slice pa ps.length pc, .int .i64 base, .int .i64 last, .slice ca C.length cc, .slice da D.length dc, .int .i64 e, .int .i64 p] 71 (0, 0)) := by
  rw [hg.block B h.B_lt h.bp]; exact h.blk

theorem T4r.clear {b : Nat} (h : T4r w B lo o l m ps base last pa pc ca cc C da dc D e p) (hb : b ≤ ps.length) :
    T4r (patch w B (.cells #[.int .i64 o, .int .i64 l, .int .i64 m, .slice pa b pc, .int .i64 base, .int .i64 (-1), .slice ca C.length cc, .slice da D.length dc, .int .i64 e, .int .i64 p] 71)) B lo o l m (ps.take b) base (-1) pa pc ca cc C da dc D e p := by
  have hl : (ps.take b).length = b := by rw [List.length_take]; omega
  refine ⟨?_, own_patch (own_cutP h.op b) h.bp, own_patch h.oc h.bc, own_patch h.od h.bd, h.cp, h.cd, h.dp, h.bp, h.bc, h.bd⟩
  rw [hl]
  exact patch_at _ _ _ h.B_lt

end

theorem patch_comm (w : World) {b c : Nat} (ob oc : Obj) (h : b ≠ c) : patch (patch w b ob) c oc = patch (patch w c oc) b ob := by
  refine world_ext (fun k => ?_) rfl rfl rfl rfl
  rw [patch_heap, patch_heap, patch_heap, patch_heap, patch_size, patch_size]
  by_cases h1 : b = k
  · subst h1
    rw [if_neg (fun e => h e.symm), if_pos rfl, if_pos rfl]
  · rw [if_neg h1, if_neg h1]

/-- a block below has turned -/
theorem T4r.low {w : World} {B lo n : Nat} {o l m : Int} {ps : List Pr} {base last : Int} {pa : Option Addr} {pc : Nat} {ca : Option Addr} {cc : Nat} {C : List Int} {da : Option Addr} {dc : Nat} {D : List UInt8} {e p : Int} {Y : Obj}
    (h : T4r (patch w B Y) B lo o l m ps base last pa pc ca cc C da dc D e p) (hn : n < lo) (hB : n ≠ B) (Z : Obj) : T4r (patch (patch w n Z) B Y) B lo o l m ps base last pa pc ca cc C da dc D e p := by
  rw [patch_comm _ _ _ hB]
  exact ⟨by rw [patch_other _ _ _ (fun e => hB e.symm)]; exact h.blk, own_patch h.op fun X hX e => by have := own_lo h.op X hX; omega, own_patch h.oc fun X hX e => by have := own_lo h.oc X hX; omega, own_patch h.od fun X hX e => by have := own_lo h.od X hX; omega, h.cp, h.cd, h.dp, h.bp, h.bc, h.bd⟩

/-- what readCodes leaves -/
def RetRg (w : World) (o l m base : Int) (R : Rg) (E : Ending) (w' : World) : Prop :=
  ∃ pa pc ca cc da dc, E = .returned (.agg #[.int .i64 o, .int .i64 l, .int .i64 m, .slice pa R.ps.length pc, .int .i64 base, .int .i64 R.last, .slice ca R.C.length cc, .slice da R.D.length dc, .int .i64 R.e, .int .i64 R.p]) ∧
    Own encP 81 w' pa pc R.ps w.heap.size ∧ Own encI 3 w' ca cc R.C w.heap.size ∧ Own encB 5 w' da dc R.D w.heap.size ∧ ∃ x, w' = plus w x

/-- the position of the reading in block B -/
def posAt (w : World) (B : Nat) : Int := match w.cell? ⟨B, 9, none⟩ with | some (.int _ n) => n | _ => 0

theorem T4r.pos {w : World} {B lo : Nat} {o l m : Int} {ps : List Pr} {base last : Int} {pa : Option Addr} {pc : Nat} {ca : Option Addr} {cc : Nat} {C : List Int} {da : Option Addr} {dc : Nat} {D : List UInt8} {e p : Int} (h : T4r w B lo o l m ps base last pa pc ca cc C da dc D e p) : posAt w B = p := by
  unfold posAt
  rw [cell_of h.blk]
  rfl

end Go.Proofs.YtmddcbebaijjkaaGreatDoor

/- What UnpackCodes leaves; how many bytes are used. -/
namespace Go.Proofs.YtmddcbebaijjkaaGreatDoor
open Go.RowKit
set_option linter.unusedVariables false
set_option linter.unusedSimpArgs false

end Go.Proofs.YtmddcbebaijjkaaGreatDoor
