/- Codes read from bits, in plain Lean. -/
import Derived.Test.YtibfkfinghcpaaaPck
namespace Go.Proofs.Ytibfkfinghcpaaa
open Go.RowKit
set_option linter.unusedVariables false
set_option linter.unusedSimpArgs false

/-- what has been read -/
structure Rg where
  ps : List Pr
  last : Int
  C : List Int
  D : List UInt8
  e : Int
  p : Nat

/-- reading from position p on, behind the codes C and the data D; sz bytes and ct codes had been read before -/
noncomputable def rdc (o l m : Int) (b sz ct : Nat) (bits : List UInt8) : Nat → List Pr → Int → Nat → List Int → List UInt8 → Rg
  | 0, ps, last, p, C, D => ⟨ps, last, C, D, 1, p⟩
  | f + 1, ps, last, p, C, D =>
    if bits.length - p < (wd l m ps.length last).toNat then ⟨ps, last, C, D, 1, p⟩
    else if canB l m ps.length last (numL o ((bits.drop p).take (wd l m ps.length last).toNat)) = false then ⟨ps, last, C, D, 2, p + (wd l m ps.length last).toNat⟩
    else if numL o ((bits.drop p).take (wd l m ps.length last).toNat) = two l + 1 then ⟨ps, last, C ++ [two l + 1], D, 0, p + (wd l m ps.length last).toNat⟩
    else if numL o ((bits.drop p).take (wd l m ps.length last).toNat) = two l then
      if 3100 ≤ ct + (C.length + 1) then ⟨ps.take b, -1, C ++ [two l], D, 3, p + (wd l m ps.length last).toNat⟩
      else rdc o l m b sz ct bits f (ps.take b) (-1) (p + (wd l m ps.length last).toNat) (C ++ [two l]) D
    else if 2000 < sz + D.length + (anyW l ps last (numL o ((bits.drop p).take (wd l m ps.length last).toNat))).length then ⟨ps, last, C, D, 3, p + (wd l m ps.length last).toNat⟩
    else if 3100 ≤ ct + (C.length + 1) then
      ⟨aftP l m ps last (numL o ((bits.drop p).take (wd l m ps.length last).toNat)), numL o ((bits.drop p).take (wd l m ps.length last).toNat), C ++ [numL o ((bits.drop p).take (wd l m ps.length last).toNat)], D ++ anyW l ps last (numL o ((bits.drop p).take (wd l m ps.length last).toNat)), 3, p + (wd l m ps.length last).toNat⟩
    else rdc o l m b sz ct bits f (aftP l m ps last (numL o ((bits.drop p).take (wd l m ps.length last).toNat))) (numL o ((bits.drop p).take (wd l m ps.length last).toNat)) (p + (wd l m ps.length last).toNat)
      (C ++ [numL o ((bits.drop p).take (wd l m ps.length last).toNat)]) (D ++ anyW l ps last (numL o ((bits.drop p).take (wd l m ps.length last).toNat)))

section
variable {o l m : Int} {b sz ct : Nat} {bits : List UInt8} {f : Nat} {ps : List Pr} {last : Int} {p n : Nat} {C : List Int} {D : List UInt8} {c : Int}

theorem rdc_short (hn : (wd l m ps.length last).toNat = n) (h : bits.length - p < n) : rdc o l m b sz ct bits f ps last p C D = ⟨ps, last, C, D, 1, p⟩ := by
  cases f with
  | zero => rfl
  | succ f =>
    show (if _ then _ else _) = _
    rw [hn, if_pos h]

theorem rdc_wrong (hn : (wd l m ps.length last).toNat = n) (h : ¬ bits.length - p < n) (hc : numL o ((bits.drop p).take n) = c) (h1 : canB l m ps.length last c = false) :
    rdc o l m b sz ct bits (f + 1) ps last p C D = ⟨ps, last, C, D, 2, p + n⟩ := by
  show (if _ then _ else _) = _
  rw [hn, if_neg h, hc, if_pos h1]

theorem rdc_end (hn : (wd l m ps.length last).toNat = n) (h : ¬ bits.length - p < n) (hc : numL o ((bits.drop p).take n) = two l + 1) (h1 : canB l m ps.length last (two l + 1) = true) :
    rdc o l m b sz ct bits (f + 1) ps last p C D = ⟨ps, last, C ++ [two l + 1], D, 0, p + n⟩ := by
  show (if _ then _ else _) = _
  rw [hn, if_neg h, hc, if_neg (by rw [h1]; simp), if_pos rfl]

theorem rdc_clear (hn : (wd l m ps.length last).toNat = n) (h : ¬ bits.length - p < n) (hc : numL o ((bits.drop p).take n) = two l) (h1 : canB l m ps.length last (two l) = true) :
    rdc o l m b sz ct bits (f + 1) ps last p C D = if 3100 ≤ ct + (C.length + 1) then ⟨ps.take b, -1, C ++ [two l], D, 3, p + n⟩ else rdc o l m b sz ct bits f (ps.take b) (-1) (p + n) (C ++ [two l]) D := by
  show (if _ then _ else _) = _
  rw [hn, if_neg h, hc, if_neg (by rw [h1]; simp), if_neg (by omega), if_pos rfl]

theorem rdc_long (hn : (wd l m ps.length last).toNat = n) (h : ¬ bits.length - p < n) (hc : numL o ((bits.drop p).take n) = c) (h1 : canB l m ps.length last c = true) (h2 : c ≠ two l + 1) (h3 : c ≠ two l) (h4 : 2000 < sz + D.length + (anyW l ps last c).length) :
    rdc o l m b sz ct bits (f + 1) ps last p C D = ⟨ps, last, C, D, 3, p + n⟩ := by
  show (if _ then _ else _) = _
  rw [hn, if_neg h, hc, if_neg (by rw [h1]; simp), if_neg h2, if_neg h3, if_pos h4]

theorem rdc_word (hn : (wd l m ps.length last).toNat = n) (h : ¬ bits.length - p < n) (hc : numL o ((bits.drop p).take n) = c) (h1 : canB l m ps.length last c = true) (h2 : c ≠ two l + 1) (h3 : c ≠ two l) (h4 : ¬ 2000 < sz + D.length + (anyW l ps last c).length) :
    rdc o l m b sz ct bits (f + 1) ps last p C D = if 3100 ≤ ct + (C.length + 1) then ⟨aftP l m ps last c, c, C ++ [c], D ++ anyW l ps last c, 3, p + n⟩ else rdc o l m b sz ct bits f (aftP l m ps last c) c (p + n) (C ++ [c]) (D ++ anyW l ps last c) := by
  show (if _ then _ else _) = _
  rw [hn, if_neg h, hc, if_neg (by rw [h1]; simp), if_neg h2, if_neg h3, if_neg h4]

end

/-- the codes read follow one after the other, and the data are theirs -/
theorem rdc_wlk {o l m : Int} {b sz ct : Nat} {bits : List UInt8} {ps0 : List Pr} {last0 : Int} : ∀ (f : Nat) (ps : List Pr) (last : Int) (p : Nat) (C : List Int) (D : List UInt8) (W : List Int), KV o l m ps (b : Int) last →
    (∀ cs, wlk l m b (C ++ cs) ps0 last0 [] [] = wlk l m b cs ps last W D) → ct + C.length < 3100 → sz + D.length ≤ 2000 →
    (∃ W', wlk l m b (rdc o l m b sz ct bits f ps last p C D).C ps0 last0 [] [] = some (W', (rdc o l m b sz ct bits f ps last p C D).D)) ∧ ct + (rdc o l m b sz ct bits f ps last p C D).C.length ≤ 3100 ∧ sz + (rdc o l m b sz ct bits f ps last p C D).D.length ≤ 2000 ∧
    KV o l m (rdc o l m b sz ct bits f ps last p C D).ps (b : Int) (rdc o l m b sz ct bits f ps last p C D).last
  | 0, ps, last, p, C, D, W, hkv, hL, hC, hD => by
    have := hL []
    rw [List.append_nil, wlk_nil] at this
    exact ⟨⟨W, this⟩, by show ct + C.length ≤ 3100; omega, hD, hkv⟩
  | f + 1, ps, last, p, C, D, W, hkv, hL, hC, hD => by
    have hL0 : wlk l m b C ps0 last0 [] [] = some (W, D) := by
      have := hL []
      rwa [List.append_nil, wlk_nil] at this
    have t1 := (hkv.lim.bds).2.2.2.2.1
    obtain ⟨n, hn⟩ : ∃ n, (wd l m ps.length last).toNat = n := ⟨_, rfl⟩
    by_cases hs : bits.length - p < n
    · rw [rdc_short hn hs]
      exact ⟨⟨W, hL0⟩, by show ct + C.length ≤ 3100; omega, hD, hkv⟩
    · obtain ⟨c, hc⟩ : ∃ c, numL o ((bits.drop p).take n) = c := ⟨_, rfl⟩
      cases h1 : canB l m ps.length last c
      · rw [rdc_wrong hn hs hc h1]
        exact ⟨⟨W, hL0⟩, by show ct + C.length ≤ 3100; omega, hD, hkv⟩
      · by_cases h2 : c = two l + 1
        · subst h2
          rw [rdc_end hn hs hc h1]
          refine ⟨⟨W ++ [wd l m ps.length last], ?_⟩, by show ct + (C ++ [_]).length ≤ 3100; rw [List.length_append]; simp; omega, hD, hkv⟩
          show wlk l m b (C ++ [two l + 1]) ps0 last0 [] [] = _
          rw [hL, wlk_end, if_pos rfl]
        · by_cases h3 : c = two l
          · subst h3
            have hL2 : ∀ cs, wlk l m b (C ++ [two l] ++ cs) ps0 last0 [] [] = wlk l m b cs (ps.take b) (-1) (W ++ [wd l m ps.length last]) D := fun cs => by
              rw [List.append_assoc, hL, List.singleton_append, wlk_clear]
            have hk2 : KV o l m (ps.take b) (b : Int) (-1) := by simpa using hkv.cleared
            rw [rdc_clear hn hs hc h1]
            by_cases h4 : 3100 ≤ ct + (C.length + 1)
            · rw [if_pos h4]
              have := hL2 []
              rw [List.append_nil, wlk_nil] at this
              exact ⟨⟨_, this⟩, by show ct + (C ++ [_]).length ≤ 3100; rw [List.length_append]; simp; omega, hD, hk2⟩
            · rw [if_neg h4]
              exact rdc_wlk f _ _ _ _ _ _ hk2 hL2 (by rw [List.length_append]; simp; omega) hD
          · have hok := can_okc t1 h1 h3 h2
            by_cases h5 : 2000 < sz + D.length + (anyW l ps last c).length
            · rw [rdc_long hn hs hc h1 h2 h3 h5]
              exact ⟨⟨W, hL0⟩, by show ct + C.length ≤ 3100; omega, hD, hkv⟩
            · have hL2 : ∀ cs, wlk l m b (C ++ [c] ++ cs) ps0 last0 [] [] = wlk l m b cs (aftP l m ps last c) c (W ++ [wd l m ps.length last]) (D ++ anyW l ps last c) := fun cs => by
                rw [List.append_assoc, hL, List.singleton_append, wlk_word hok (by omega)]
              have hk2 := hkv.after hok
              rw [rdc_word hn hs hc h1 h2 h3 h5]
              by_cases h4 : 3100 ≤ ct + (C.length + 1)
              · rw [if_pos h4]
                have := hL2 []
                rw [List.append_nil, wlk_nil] at this
                exact ⟨⟨_, this⟩, by show ct + (C ++ [_]).length ≤ 3100; rw [List.length_append]; simp; omega, by show sz + (D ++ _).length ≤ 2000; rw [List.length_append]; omega, hk2⟩
              · rw [if_neg h4]
                exact rdc_wlk f _ _ _ _ _ _ hk2 hL2 (by rw [List.length_append]; simp; omega) (by rw [List.length_append]; omega)

end Go.Proofs.Ytibfkfinghcpaaa
