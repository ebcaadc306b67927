/- Reading a stream without its last byte, and with more behind it; in plain Lean. -/
import Derived.Test.YtibfkfinghcpaaaGp
namespace Go.Proofs.Ytibfkfinghcpaaa
open Go.RowKit
set_option linter.unusedVariables false
set_option linter.unusedSimpArgs false

theorem rdc_firstJ2 {o l m : Int} {b sz ct : Nat} {bits : List UInt8} {f : Nat} {ps : List Pr} {last : Int} {p : Nat} {C : List Int} {D : List UInt8} : (rdc o l m b sz ct bits (f + 1) ps last p C D).e ≠ 1 → p + (wd l m ps.length last).toNat ≤ (rdc o l m b sz ct bits (f + 1) ps last p C D).p := by
  unfold rdc
  by_cases hn : bits.length - p < (wd l m ps.length last).toNat
  · rw [if_pos hn]; intro h; exact absurd rfl h
  · rw [if_neg hn]
    intro _
    repeat' split
    all_goals first | exact Nat.le_refl _ | exact rdc_ge2 f _ _ _ _ _

/-- a whole reading has read an end code -/
theorem rdc_grow {o l m : Int} {b sz ct : Nat} {bits : List UInt8} : ∀ (f : Nat) (ps : List Pr) (last : Int) (p : Nat) (C : List Int) (D : List UInt8) (R : Rg), rdc o l m b sz ct bits f ps last p C D = R → R.e = 0 → ∃ T, T ≠ [] ∧ R.C = C ++ T
  | 0, _, _, _, _, _, R, h, he => by
    subst h
    exact absurd he (by show ¬ (1 : Int) = 0; decide)
  | f + 1, ps, last, p, C, D, R, hR, he => by
    obtain ⟨n, hn⟩ : ∃ n, (wd l m ps.length last).toNat = n := ⟨_, rfl⟩
    by_cases hs : bits.length - p < n
    · rw [rdc_short hn hs] at hR
      subst hR
      exact absurd he (by show ¬ (1 : Int) = 0; decide)
    · obtain ⟨c, hc⟩ : ∃ c, numL o ((bits.drop p).take n) = c := ⟨_, rfl⟩
      cases h3 : canB l m ps.length last c
      · rw [rdc_wrong hn hs hc h3] at hR
        subst hR
        exact absurd he (by show ¬ (2 : Int) = 0; decide)
      · by_cases h4 : c = two l + 1
        · subst h4
          rw [rdc_end hn hs hc h3] at hR
          subst hR
          exact ⟨_, by simp, rfl⟩
        · by_cases h5 : c = two l
          · subst h5
            rw [rdc_clear hn hs hc h3] at hR
            by_cases h7 : 3100 ≤ ct + (C.length + 1)
            · rw [if_pos h7] at hR
              subst hR
              exact absurd he (by show ¬ (3 : Int) = 0; decide)
            · rw [if_neg h7] at hR
              obtain ⟨T, h1, h2⟩ := rdc_grow f _ _ _ _ _ R hR he
              exact ⟨two l :: T, by simp, by rw [h2]; simp⟩
          · by_cases h6 : 2000 < sz + D.length + (anyW l ps last c).length
            · rw [rdc_long hn hs hc h3 h4 h5 h6] at hR
              subst hR
              exact absurd he (by show ¬ (3 : Int) = 0; decide)
            · rw [rdc_word hn hs hc h3 h4 h5 h6] at hR
              by_cases h7 : 3100 ≤ ct + (C.length + 1)
              · rw [if_pos h7] at hR
                subst hR
                exact absurd he (by show ¬ (3 : Int) = 0; decide)
              · rw [if_neg h7] at hR
                obtain ⟨T, h1, h2⟩ := rdc_grow f _ _ _ _ _ R hR he
                exact ⟨c :: T, by simp, by rw [h2]; simp⟩

/-- bits that end before the end of a whole reading -/
theorem rdc_cut {o l m : Int} {b sz ct : Nat} {b1 b2 : List UInt8} {q : Nat} (hcut : b1.take q = b2) : ∀ (f f' : Nat) (ps : List Pr) (last : Int) (p : Nat) (C : List Int) (D : List UInt8) (R : Rg), KV o l m ps (b : Int) last → b1.length - p < f → b2.length - p < f' →
    rdc o l m b sz ct b1 f ps last p C D = R → R.e = 0 → q < R.p →
    ∃ R2, rdc o l m b sz ct b2 f' ps last p C D = R2 ∧ R2.e = 1 ∧ ∃ T, T ≠ [] ∧ R.C = R2.C ++ T
  | 0, _, _, _, _, _, _, _, _, h, _, _, _, _ => by omega
  | _ + 1, 0, _, _, _, _, _, _, _, _, h, _, _, _ => by omega
  | f + 1, f' + 1, ps, last, p, C, D, R, hk, h1, h2, hR, he, hq => by
    have hle : b2.length = min q b1.length := by rw [← hcut, List.length_take]
    obtain ⟨w1, _⟩ := wd_pos hk
    obtain ⟨n, hn⟩ : ∃ n, (wd l m ps.length last).toNat = n := ⟨_, rfl⟩
    rw [hn] at w1
    have t1 := (hk.lim.bds).2.2.2.2.1
    by_cases hs2 : b2.length - p < n
    · exact ⟨_, rdc_short hn hs2, rfl, rdc_grow _ _ _ _ _ _ R hR he⟩
    · have hs : ¬ b1.length - p < n := by omega
      obtain ⟨c, hc⟩ : ∃ c, numL o ((b1.drop p).take n) = c := ⟨_, rfl⟩
      have hc2 : numL o ((b2.drop p).take n) = c := by
        rw [same_take (b1 := b1) (P := b2.length) (by rw [List.take_length, hle, ← hcut, ← List.take_take, List.take_length]) (by omega)]
        exact hc
      cases h3 : canB l m ps.length last c
      · rw [rdc_wrong hn hs hc h3] at hR
        subst hR
        exact absurd he (by show ¬ (2 : Int) = 0; decide)
      · by_cases h4 : c = two l + 1
        · subst h4
          rw [rdc_end hn hs hc h3] at hR
          subst hR
          have hq2 : q < p + n := hq
          omega
        · by_cases h5 : c = two l
          · subst h5
            rw [rdc_clear hn hs hc h3] at hR
            by_cases h7 : 3100 ≤ ct + (C.length + 1)
            · rw [if_pos h7] at hR
              subst hR
              exact absurd he (by show ¬ (3 : Int) = 0; decide)
            · rw [if_neg h7] at hR
              rw [rdc_clear hn hs2 hc2 h3, if_neg h7]
              exact rdc_cut hcut f f' _ _ _ _ _ R (by simpa using hk.cleared) (by omega) (by omega) hR he hq
          · by_cases h6 : 2000 < sz + D.length + (anyW l ps last c).length
            · rw [rdc_long hn hs hc h3 h4 h5 h6] at hR
              subst hR
              exact absurd he (by show ¬ (3 : Int) = 0; decide)
            · rw [rdc_word hn hs hc h3 h4 h5 h6] at hR
              by_cases h7 : 3100 ≤ ct + (C.length + 1)
              · rw [if_pos h7] at hR
                subst hR
                exact absurd he (by show ¬ (3 : Int) = 0; decide)
              · rw [if_neg h7] at hR
                rw [rdc_word hn hs2 hc2 h3 h4 h5 h6, if_neg h7]
                exact rdc_cut hcut f f' _ _ _ _ _ R (hk.after (can_okc t1 h3 h5 h4)) (by omega) (by omega) hR he hq

theorem unpL_appC (o : Int) (a b : List UInt8) : unpL o (a ++ b) = unpL o a ++ unpL o b := by simp [unpL]

theorem unpL_takeC (o : Int) : ∀ (a : List UInt8) (q : Nat), unpL o (a.take q) = (unpL o a).take (8 * q)
  | [], q => by simp [unpL]
  | x :: a, 0 => by simp [unpL]
  | x :: a, q + 1 => by
    have h1 : unpL o (x :: a) = bitsL o x.toNat 8 ++ unpL o a := rfl
    have h2 : unpL o ((x :: a).take (q + 1)) = bitsL o x.toNat 8 ++ unpL o (a.take q) := rfl
    have e1 : (bitsL o x.toNat 8).length = 8 := bitsL_len _ _ _
    rw [h1, h2, unpL_takeC o a q, List.take_append, e1, List.take_of_length_le (l := bitsL o x.toNat 8) (by rw [e1]; omega), show 8 * (q + 1) - 8 = 8 * q by omega]

/-- a whole stream: with more behind its used bytes, and without the last of these -/
theorem unR_behind {o l m : Int} {b : Nat} {ps : List Pr} {last : Int} {s : ByteArray} (hk : kvb o l m ps (b : Int) last = true) {R : Rg} (hR : unR o l m b ps last s = R) (he : R.e = 0) :
    ∃ q : Nat, usedV s.size R = q ∧ 1 ≤ q ∧ q ≤ s.size ∧ (∀ t : ByteArray, unR o l m b ps last (s.extract 0 q ++ t) = R ∧ usedV (s.extract 0 q ++ t).size R = q) ∧
      ∃ R2 T, unR o l m b ps last (s.extract 0 (q - 1)) = R2 ∧ R2.e = 1 ∧ T ≠ [] ∧ R.C = R2.C ++ T := by
  have hkv := kvb_iff.1 hk
  obtain ⟨bits, hb⟩ : ∃ bits, unpL o s.data.toList = bits := ⟨_, rfl⟩
  have hbl : bits.length = 8 * s.size := by rw [← hb, unpL_len, bytes_len]
  have hR0 : rdc o l m b 0 0 bits (8 * s.size + 1) ps last 0 [] [] = R := by
    rw [← hR, ← hb]
    rfl
  have hp := rdc_p (o := o) (l := l) (m := m) (b := b) (sz := 0) (ct := 0) (bits := bits) (8 * s.size + 1) ps last 0 [] [] (by omega)
  have hf := rdc_firstJ2 (o := o) (l := l) (m := m) (b := b) (sz := 0) (ct := 0) (bits := bits) (f := 8 * s.size) (ps := ps) (last := last) (p := 0) (C := []) (D := [])
  rw [hR0] at hp hf
  have hw := (wd_pos hkv).1
  have hf1 := hf (by omega)
  refine ⟨(R.p + 7) / 8, ?_, by omega, by omega, fun t => ?_, ?_⟩
  · unfold usedV
    rw [if_neg (by omega)]
    omega
  · have hz : (s.extract 0 ((R.p + 7) / 8) ++ t).size = (R.p + 7) / 8 + t.size := by
      rw [ByteArray.size_append, ByteArray.size_extract]
      omega
    have hbits : unpL o (s.extract 0 ((R.p + 7) / 8) ++ t).data.toList = bits.take (8 * ((R.p + 7) / 8)) ++ unpL o t.data.toList := by
      rw [show (s.extract 0 ((R.p + 7) / 8) ++ t).data.toList = s.data.toList.take ((R.p + 7) / 8) ++ t.data.toList from by simp, unpL_appC, unpL_takeC, hb]
    refine ⟨?_, ?_⟩
    · unfold unR
      rw [hz, hbits]
      have hlen : (bits.take (8 * ((R.p + 7) / 8)) ++ unpL o t.data.toList).length = 8 * ((R.p + 7) / 8) + 8 * t.size := by
        rw [List.length_append, List.length_take, unpL_len, bytes_len]
        omega
      refine (rdc_same (b1 := bits) (8 * s.size + 1) _ _ _ _ _ _ hkv (by omega) (by rw [hlen]; omega) (by rw [hR0]; omega) (by rw [hR0, hlen]; omega) ?_).trans hR0
      rw [hR0, List.take_append_of_le_length (by rw [List.length_take]; omega), List.take_take, Nat.min_eq_left (by omega)]
    · unfold usedV
      rw [if_neg (by omega)]
      omega
  · have hbits : bits.take (8 * ((R.p + 7) / 8 - 1)) = unpL o (s.extract 0 ((R.p + 7) / 8 - 1)).data.toList := by
      rw [show (s.extract 0 ((R.p + 7) / 8 - 1)).data.toList = s.data.toList.take ((R.p + 7) / 8 - 1) from by simp, unpL_takeC, hb]
    have hz : (s.extract 0 ((R.p + 7) / 8 - 1)).size = (R.p + 7) / 8 - 1 := by rw [ByteArray.size_extract]; omega
    obtain ⟨R2, h1, h2, T, h3, h4⟩ := rdc_cut hbits _ (8 * (s.extract 0 ((R.p + 7) / 8 - 1)).size + 1) _ _ _ _ _ R hkv (by omega) (by rw [← hbits, List.length_take, hz]; omega) hR0 he (by omega)
    exact ⟨R2, T, h1, h2, h3, h4⟩

theorem numL_zero (o : Int) (k : Nat) : numL o (List.replicate k 48) = 0 := by
  have h : hor (List.replicate k 48) = 0 := by
    have := zeros_hor k []
    rw [List.append_nil] at this
    rw [this]
    rfl
  unfold numL
  split
  · exact h
  · rw [List.reverse_replicate]
    exact h

/-- zeros are never read as a whole -/
theorem rdc_zeros {o l m : Int} {b sz ct : Nat} {bits : List UInt8} (hz : ∀ v ∈ bits, v = 48) (ht : 2 ≤ two l) : ∀ (f : Nat) (ps : List Pr) (last : Int) (p : Nat) (C : List Int) (D : List UInt8) (R : Rg), rdc o l m b sz ct bits f ps last p C D = R → R.e ≠ 0
  | 0, _, _, _, _, _, R, h => by
    subst h
    show ¬ (1 : Int) = 0
    decide
  | f + 1, ps, last, p, C, D, R, hR => by
    obtain ⟨n, hn⟩ : ∃ n, (wd l m ps.length last).toNat = n := ⟨_, rfl⟩
    by_cases hs : bits.length - p < n
    · rw [rdc_short hn hs] at hR
      subst hR
      show ¬ (1 : Int) = 0
      decide
    · have hc : numL o ((bits.drop p).take n) = 0 := by
        rw [show (bits.drop p).take n = List.replicate n 48 from List.eq_replicate_iff.2 ⟨by rw [List.length_take, List.length_drop]; omega, fun v hv => hz v (List.mem_of_mem_drop (List.mem_of_mem_take hv))⟩]
        exact numL_zero o n
      cases h3 : canB l m ps.length last 0
      · rw [rdc_wrong hn hs hc h3] at hR
        subst hR
        show ¬ (2 : Int) = 0
        decide
      · by_cases h6 : 2000 < sz + D.length + (anyW l ps last 0).length
        · rw [rdc_long hn hs hc h3 (by omega) (by omega) h6] at hR
          subst hR
          show ¬ (3 : Int) = 0
          decide
        · rw [rdc_word hn hs hc h3 (by omega) (by omega) h6] at hR
          by_cases h7 : 3100 ≤ ct + (C.length + 1)
          · rw [if_pos h7] at hR
            subst hR
            show ¬ (3 : Int) = 0
            decide
          · rw [if_neg h7] at hR
            exact rdc_zeros hz ht f _ _ _ _ _ R hR

theorem unpL_zeros (o : Int) {bs : List UInt8} (h : ∀ v ∈ bs, v = 0) : ∀ v ∈ unpL o bs, v = 48 := by
  intro v hv
  unfold unpL at hv
  obtain ⟨x, hx, hv2⟩ := List.mem_flatMap.1 hv
  obtain rfl := h x hx
  have h3 : v ∈ lowL ((0 : UInt8).toNat : Int) 8 := by
    unfold bitsL at hv2
    split at hv2
    · exact List.mem_reverse.1 hv2
    · exact hv2
  unfold lowL at h3
  obtain ⟨i, _, rfl⟩ := List.mem_map.1 h3
  unfold bt
  rw [if_neg]
  show ¬ (0 : Int) / 2 ^ i % 2 = 1
  rw [Int.zero_ediv]
  decide

end Go.Proofs.Ytibfkfinghcpaaa
