/- Lemmas and walks, part Gp. -/
import Derived.Test.YtibfkfinghcpaaaBtk
import Derived.Test.YtibfkfinghcpaaaPck
import Derived.Test.YtibfkfinghcpaaaRdp
import Derived.Test.YtibfkfinghcpaaaUnc

/- Bits of numbers and bytes, there and back, in plain Lean. -/
namespace Go.Proofs.Ytibfkfinghcpaaa
open Go.RowKit
set_option linter.unusedVariables false
set_option linter.unusedSimpArgs false

theorem bv1_bt (n : Int) (k : Nat) : bv1 (bt n k) = n / 2 ^ k % 2 := by
  unfold bv1 bt
  have : 0 ≤ n / 2 ^ k % 2 ∧ n / 2 ^ k % 2 < 2 := ⟨Int.emod_nonneg _ (by decide), Int.emod_lt_of_pos _ (by decide)⟩
  by_cases h : n / 2 ^ k % 2 = 1
  · rw [if_pos h, h]; rfl
  · rw [if_neg h, if_neg (by decide)]; omega

theorem mod_two (n : Int) (k : Nat) : n % 2 ^ (k + 1) = (n / 2 ^ k % 2) * 2 ^ k + n % 2 ^ k := by
  have h2 : (0 : Int) < 2 ^ k := Int.pow_pos (by decide)
  have e : (2 : Int) ^ (k + 1) = 2 ^ k * 2 := Int.pow_succ _ _
  have h3 := Int.mul_ediv_add_emod n (2 ^ k)
  have h4 := Int.mul_ediv_add_emod (n / 2 ^ k) 2
  have h5 := Int.emod_lt_of_pos n h2
  have h6 := Int.emod_nonneg n (Int.ne_of_gt h2)
  have h7 : 0 ≤ n / 2 ^ k % 2 ∧ n / 2 ^ k % 2 < 2 := ⟨Int.emod_nonneg _ (by decide), Int.emod_lt_of_pos _ (by decide)⟩
  obtain ⟨q, hq⟩ : ∃ q, n / 2 ^ k / 2 = q := ⟨_, rfl⟩
  obtain ⟨t, ht⟩ : ∃ t, n / 2 ^ k % 2 = t := ⟨_, rfl⟩
  obtain ⟨r, hr⟩ : ∃ r, n % 2 ^ k = r := ⟨_, rfl⟩
  rw [hq, ht] at h4
  rw [← h4, hr] at h3
  rw [ht] at h7
  rw [hr] at h5 h6
  rw [e, ht, hr, ← h3]
  have e2 : 2 ^ k * (2 * q + t) + r = (t * 2 ^ k + r) + 2 ^ k * 2 * q := by
    rw [Int.mul_add, ← Int.mul_assoc, Int.mul_comm (2 ^ k) t]; omega
  rw [e2, Int.add_mul_emod_self_left]
  refine Int.emod_eq_of_lt ?_ ?_
  · have := Int.mul_nonneg h7.1 (Int.le_of_lt h2); omega
  · rcases (by omega : t = 0 ∨ t = 1) with h | h
    · rw [h]; omega
    · rw [h]; omega

theorem hor_low (n : Int) : ∀ k, hor (lowL n k).reverse = n % 2 ^ k
  | 0 => by simp [lowL, hor] <;> omega
  | k + 1 => by
    rw [lowL_succ, List.reverse_append, List.reverse_singleton, List.singleton_append, hor_cons, hor_low n k, List.length_reverse, lowL_len, bv1_bt, mod_two]

theorem numL_bits (o n : Int) (k : Nat) : numL o (bitsL o n k) = n % 2 ^ k := by
  unfold numL bitsL
  by_cases h : o = 1
  · rw [if_pos h, if_pos h, hor_low]
  · rw [if_neg h, if_neg h, hor_low]

theorem numL_code {o n : Int} {k : Nat} (h0 : 0 ≤ n) (h1 : n < 2 ^ k) : numL o (bitsL o n k) = n := by
  rw [numL_bits, Int.emod_eq_of_lt h0 h1]

theorem bt_mod (n : Int) {i k : Nat} (h : i < k) : bt (n % 2 ^ k) i = bt n i := by
  have key : n % 2 ^ k / 2 ^ i % 2 = n / 2 ^ i % 2 := by
    have h2 : (0 : Int) < 2 ^ i := Int.pow_pos (by decide)
    obtain ⟨d, rfl⟩ : ∃ d, k = i + 1 + d := ⟨k - (i + 1), by omega⟩
    have h3 := Int.mul_ediv_add_emod n (2 ^ (i + 1 + d))
    have e : (2 : Int) ^ (i + 1 + d) = 2 ^ i * (2 * 2 ^ d) := by rw [Int.pow_add, Int.pow_succ, Int.mul_assoc]
    obtain ⟨q, hq⟩ : ∃ q, n / 2 ^ (i + 1 + d) = q := ⟨_, rfl⟩
    obtain ⟨r, hr⟩ : ∃ r, n % 2 ^ (i + 1 + d) = r := ⟨_, rfl⟩
    rw [hq, hr, e] at h3
    rw [hr, ← h3]
    have e2 : 2 ^ i * (2 * 2 ^ d) * q + r = r + 2 ^ i * (2 * 2 ^ d * q) := by rw [Int.mul_assoc, Int.add_comm]
    rw [e2, Int.add_mul_ediv_left _ _ (Int.ne_of_gt h2)]
    have e3 : 2 * 2 ^ d * q = 2 * (2 ^ d * q) := by rw [Int.mul_assoc]
    rw [e3]
    omega
  unfold bt
  rw [key]

theorem bt_of {b : UInt8} (h : b = 48 ∨ b = 49) {n : Int} {k : Nat} (hn : n / 2 ^ k % 2 = bv1 b) : bt n k = b := by
  unfold bt
  rw [hn]
  rcases h with rfl | rfl
  · rw [if_neg (by decide)]
  · rw [if_pos (by decide)]

theorem low_hor : ∀ (r : List UInt8), BV r → lowL (hor r) r.length = r.reverse
  | [], _ => rfl
  | b :: r, h => by
    have h1 := low_hor r (fun x hx => h x (List.mem_cons_of_mem _ hx))
    have hb := hor_bd r
    have hv := bv1_bd b
    have h2 : (0 : Int) < 2 ^ r.length := Int.pow_pos (by decide)
    rw [List.length_cons, lowL_succ, List.reverse_cons]
    have e : hor (b :: r) = hor r + 2 ^ r.length * bv1 b := by rw [hor_cons, Int.mul_comm]; omega
    have hm : hor (b :: r) % 2 ^ r.length = hor r := by
      rw [e, Int.add_mul_emod_self_left, Int.emod_eq_of_lt hb.1 hb.2]
    have hd : hor (b :: r) / 2 ^ r.length = bv1 b := by
      rw [e, Int.add_mul_ediv_left _ _ (Int.ne_of_gt h2), Int.ediv_eq_zero_of_lt hb.1 hb.2]; omega
    congr 1
    · rw [← h1]
      unfold lowL
      refine List.map_congr_left fun i hi => ?_
      rw [← bt_mod (hor (b :: r)) (List.mem_range.1 hi), hm]
    · rw [bt_of (h b (by simp)) (by rw [hd]; omega)]

theorem bits_num {o : Int} {bs : List UInt8} (h : BV bs) : bitsL o (numL o bs) bs.length = bs := by
  unfold bitsL numL
  by_cases ho : o = 1
  · rw [if_pos ho, if_pos ho, low_hor bs h, List.reverse_reverse]
  · rw [if_neg ho, if_neg ho]
    have := low_hor bs.reverse (fun x hx => h x (List.mem_reverse.1 hx))
    rw [List.length_reverse, List.reverse_reverse] at this
    exact this

theorem chk_all (L : List UInt8) : ∀ k, 8 * k ≤ L.length → (List.range k).flatMap (chk L) = L.take (8 * k)
  | 0, _ => by simp
  | k + 1, h => by
    rw [List.range_succ, List.flatMap_append, chk_all L k (by omega), List.flatMap_singleton]
    unfold chk
    rw [show 8 * (k + 1) = 8 * k + 8 by omega, List.take_add]

theorem BV.take {bs : List UInt8} (h : BV bs) (k : Nat) : BV (bs.take k) := fun b hb => h b (List.mem_of_mem_take hb)

theorem BV.drop {bs : List UInt8} (h : BV bs) (k : Nat) : BV (bs.drop k) := fun b hb => h b (List.mem_of_mem_drop hb)

/-- the bits of packed bits are these, padded -/
theorem unp_pck {o : Int} {bs : List UInt8} (h : BV bs) : unpL o (pckL o bs) = padL bs := by
  have hl := padL_len bs
  have hc := chk_all (padL bs) ((bs.length + 7) / 8) (by omega)
  rw [List.take_of_length_le (by omega)] at hc
  rw [← hc]
  unfold unpL pckL
  rw [List.flatMap_map]
  refine congrArg List.flatten (List.map_congr_left fun j hj => ?_)
  have hj2 := List.mem_range.1 hj
  have hcl := chk_len bs j
  have hbd := pkB_bd (o := o) (chk bs j) (by omega)
  rw [padL_chk hj2]
  show bitsL o ((pkB o bs j).toNat : Int) 8 = _
  unfold pkB
  rw [byte_back hbd.1 hbd.2]
  have hp : BV (pad8 (chk bs j)) := by
    rw [← padL_chk hj2]
    exact ((padL_bv h).drop _).take _
  have hp8 : (pad8 (chk bs j)).length = 8 := by unfold pad8; rw [List.length_append, List.length_replicate]; omega
  have := bits_num (o := o) hp
  rw [hp8] at this
  exact this

theorem unpL_bv (o : Int) (bs : List UInt8) : BV (unpL o bs) := by
  intro b hb
  obtain ⟨x, _, hx⟩ := List.mem_flatMap.1 hb
  exact bitsL_bv o _ _ b hx

end Go.Proofs.Ytibfkfinghcpaaa

/- Reading codes from bits: from more bits, from fewer, from what was packed; in plain Lean. -/
namespace Go.Proofs.Ytibfkfinghcpaaa
open Go.RowKit
set_option linter.unusedVariables false
set_option linter.unusedSimpArgs false

theorem wd_pos {o l m base last : Int} {ps : List Pr} (h : KV o l m ps base last) : 2 ≤ (wd l m ps.length last).toNat ∧ (wd l m ps.length last).toNat ≤ 11 := by
  obtain ⟨l1, l2, _⟩ := h.lim.bds
  have := need_bd (gt l m ps.length last)
  unfold wd
  omega

theorem rdc_ge2 {o l m : Int} {b sz ct : Nat} {bits : List UInt8} : ∀ (f : Nat) (ps : List Pr) (last : Int) (p : Nat) (C : List Int) (D : List UInt8), p ≤ (rdc o l m b sz ct bits f ps last p C D).p
  | 0, ps, last, p, C, D => Nat.le_refl _
  | f + 1, ps, last, p, C, D => by
    unfold rdc
    by_cases hn : bits.length - p < (wd l m ps.length last).toNat
    · rw [if_pos hn]; exact Nat.le_refl _
    · rw [if_neg hn]
      repeat' split
      all_goals first | exact Nat.le_add_right _ _ | exact Nat.le_trans (Nat.le_add_right _ _) (rdc_ge2 f _ _ _ _ _)

/-- what is read does not depend on the fuel -/
theorem rdc_fuel {o l m : Int} {b sz ct : Nat} {bits : List UInt8} : ∀ (f f' : Nat) (ps : List Pr) (last : Int) (p : Nat) (C : List Int) (D : List UInt8), KV o l m ps (b : Int) last → bits.length - p < f → bits.length - p < f' →
    rdc o l m b sz ct bits f ps last p C D = rdc o l m b sz ct bits f' ps last p C D
  | 0, _, _, _, _, _, _, _, h, _ => by omega
  | _ + 1, 0, _, _, _, _, _, _, _, h => by omega
  | f + 1, f' + 1, ps, last, p, C, D, hk, h1, h2 => by
    obtain ⟨w1, _⟩ := wd_pos hk
    obtain ⟨n, hn⟩ : ∃ n, (wd l m ps.length last).toNat = n := ⟨_, rfl⟩
    rw [hn] at w1
    have t1 := (hk.lim.bds).2.2.2.2.1
    by_cases hs : bits.length - p < n
    · rw [rdc_short hn hs, rdc_short hn hs]
    · obtain ⟨c, hc⟩ : ∃ c, numL o ((bits.drop p).take n) = c := ⟨_, rfl⟩
      cases h3 : canB l m ps.length last c
      · rw [rdc_wrong hn hs hc h3, rdc_wrong hn hs hc h3]
      · by_cases h4 : c = two l + 1
        · subst h4
          rw [rdc_end hn hs hc h3, rdc_end hn hs hc h3]
        · by_cases h5 : c = two l
          · subst h5
            rw [rdc_clear hn hs hc h3, rdc_clear hn hs hc h3]
            split
            · rfl
            · exact rdc_fuel f f' _ _ _ _ _ (by simpa using hk.cleared) (by omega) (by omega)
          · by_cases h6 : 2000 < sz + D.length + (anyW l ps last c).length
            · rw [rdc_long hn hs hc h3 h4 h5 h6, rdc_long hn hs hc h3 h4 h5 h6]
            · rw [rdc_word hn hs hc h3 h4 h5 h6, rdc_word hn hs hc h3 h4 h5 h6]
              split
              · rfl
              · exact rdc_fuel f f' _ _ _ _ _ (hk.after (can_okc t1 h3 h5 h4)) (by omega) (by omega)

theorem same_take {b1 b2 : List UInt8} {P p n : Nat} (h : b2.take P = b1.take P) (hp : p + n ≤ P) : (b2.drop p).take n = (b1.drop p).take n := by
  have e : ∀ b : List UInt8, (b.drop p).take n = ((b.take P).drop p).take n := fun b => by
    rw [List.drop_take, List.take_take, Nat.min_eq_left (by omega)]
  rw [e b2, e b1, h]

/-- a reading that has ended does not look beyond its end -/
theorem rdc_same {o l m : Int} {b sz ct : Nat} {b1 b2 : List UInt8} : ∀ (f f' : Nat) (ps : List Pr) (last : Int) (p : Nat) (C : List Int) (D : List UInt8), KV o l m ps (b : Int) last → b1.length - p < f → b2.length - p < f' →
    (rdc o l m b sz ct b1 f ps last p C D).e ≠ 1 → (rdc o l m b sz ct b1 f ps last p C D).p ≤ b2.length → b2.take (rdc o l m b sz ct b1 f ps last p C D).p = b1.take (rdc o l m b sz ct b1 f ps last p C D).p →
    rdc o l m b sz ct b2 f' ps last p C D = rdc o l m b sz ct b1 f ps last p C D
  | 0, _, _, _, _, _, _, _, h, _, _, _, _ => by omega
  | _ + 1, 0, _, _, _, _, _, _, _, h, _, _, _ => by omega
  | f + 1, f' + 1, ps, last, p, C, D, hk, h1, h2, he, hz, ht => by
    obtain ⟨w1, _⟩ := wd_pos hk
    obtain ⟨n, hn⟩ : ∃ n, (wd l m ps.length last).toNat = n := ⟨_, rfl⟩
    rw [hn] at w1
    have t1 := (hk.lim.bds).2.2.2.2.1
    by_cases hs : b1.length - p < n
    · rw [rdc_short hn hs] at he
      exact absurd rfl he
    · obtain ⟨c, hc⟩ : ∃ c, numL o ((b1.drop p).take n) = c := ⟨_, rfl⟩
      cases h3 : canB l m ps.length last c
      · rw [rdc_wrong hn hs hc h3] at he hz ht ⊢
        have hz' : p + n ≤ b2.length := hz
        exact rdc_wrong hn (by omega) (by rw [same_take ht (Nat.le_refl _)]; exact hc) h3
      · by_cases h4 : c = two l + 1
        · subst h4
          rw [rdc_end hn hs hc h3] at he hz ht ⊢
          have hz' : p + n ≤ b2.length := hz
          exact rdc_end hn (by omega) (by rw [same_take ht (Nat.le_refl _)]; exact hc) h3
        · by_cases h5 : c = two l
          · subst h5
            rw [rdc_clear hn hs hc h3] at he hz ht ⊢
            by_cases h6 : 3100 ≤ ct + (C.length + 1)
            · rw [if_pos h6] at he hz ht ⊢
              have hz' : p + n ≤ b2.length := hz
              rw [rdc_clear hn (by omega) (by rw [same_take ht (Nat.le_refl _)]; exact hc) h3, if_pos h6]
            · rw [if_neg h6] at he hz ht ⊢
              have hge := rdc_ge2 (o := o) (l := l) (m := m) (b := b) (sz := sz) (ct := ct) (bits := b1) f (ps.take b) (-1) (p + n) (C ++ [two l]) D
              rw [rdc_clear hn (by omega) (by rw [same_take ht hge]; exact hc) h3, if_neg h6]
              exact rdc_same f f' _ _ _ _ _ (by simpa using hk.cleared) (by omega) (by omega) he hz ht
          · by_cases h6 : 2000 < sz + D.length + (anyW l ps last c).length
            · rw [rdc_long hn hs hc h3 h4 h5 h6] at he hz ht ⊢
              have hz' : p + n ≤ b2.length := hz
              exact rdc_long hn (by omega) (by rw [same_take ht (Nat.le_refl _)]; exact hc) h3 h4 h5 h6
            · rw [rdc_word hn hs hc h3 h4 h5 h6] at he hz ht ⊢
              by_cases h7 : 3100 ≤ ct + (C.length + 1)
              · rw [if_pos h7] at he hz ht ⊢
                have hz' : p + n ≤ b2.length := hz
                rw [rdc_word hn (by omega) (by rw [same_take ht (Nat.le_refl _)]; exact hc) h3 h4 h5 h6, if_pos h7]
              · rw [if_neg h7] at he hz ht ⊢
                have hge := rdc_ge2 (o := o) (l := l) (m := m) (b := b) (sz := sz) (ct := ct) (bits := b1) f (aftP l m ps last c) c (p + n) (C ++ [c]) (D ++ anyW l ps last c)
                rw [rdc_word hn (by omega) (by rw [same_take ht hge]; exact hc) h3 h4 h5 h6, if_neg h7]
                exact rdc_same f f' _ _ _ _ _ (hk.after (can_okc t1 h3 h5 h4)) (by omega) (by omega) he hz ht

/-- the widths of codes that follow each other suffice for them -/
theorem wd_fits {o l m base last c : Int} {ps : List Pr} (h : KV o l m ps base last) (h0 : 0 ≤ c) (h1 : c ≤ gt l m ps.length last) : c < 2 ^ (wd l m ps.length last).toNat := by
  have hb := gt_bd h.lim
  have hn : gt l m ps.length last < 2 ^ (need (gt l m ps.length last)).toNat := by
    generalize gt l m ps.length last = g at *
    unfold need
    repeat' split
    all_goals simp; omega
  have hw : (need (gt l m ps.length last)).toNat ≤ (wd l m ps.length last).toNat := by unfold wd; omega
  have := pow_le hw
  omega

theorem can_of {l m : Int} {n : Nat} {last c : Int} (h0 : 2 ≤ two l) (h : Okc l m n last c ∨ c = two l ∨ c = two l + 1) : canB l m n last c = true := by
  rcases h with h | h | h
  · exact okc_can h0 h
  · subst h; exact canB_iff.2 ⟨by omega, by unfold gt nw; split <;> omega⟩
  · subst h; exact canB_iff.2 ⟨by omega, by unfold gt nw; split <;> omega⟩

theorem cbits_cons (o c x : Int) (cs W : List Int) : cbits o (c :: cs) (x :: W) = bitsL o c x.toNat ++ cbits o cs W := rfl

theorem wlk_ext {l m : Int} {b : Nat} : ∀ (cs : List Int) (ps : List Pr) (last : Int) (W : List Int) (D : List UInt8) (W' : List Int) (D' : List UInt8), wlk l m b cs ps last W D = some (W', D') → ∃ U E, W' = W ++ U ∧ D' = D ++ E
  | [], ps, last, W, D, W', D', h => by
    rw [wlk_nil] at h
    cases h
    exact ⟨[], [], by simp, by simp⟩
  | c :: cs, ps, last, W, D, W', D', h => by
    by_cases h1 : c = two l + 1
    · subst h1
      rw [wlk_end] at h
      split at h
      · cases h; exact ⟨_, [], rfl, by simp⟩
      · cases h
    · by_cases h2 : c = two l
      · subst h2
        rw [wlk_clear] at h
        obtain ⟨U, E, e1, e2⟩ := wlk_ext cs _ _ _ _ _ _ h
        exact ⟨wd l m ps.length last :: U, E, by rw [e1]; simp, e2⟩
      · by_cases h3 : Okc l m ps.length last c ∧ D.length + (anyW l ps last c).length ≤ 2000
        · rw [wlk_word h3.1 h3.2] at h
          obtain ⟨U, E, e1, e2⟩ := wlk_ext cs _ _ _ _ _ _ h
          exact ⟨wd l m ps.length last :: U, anyW l ps last c ++ E, by rw [e1]; simp, by rw [e2, List.append_assoc]⟩
        · rw [wlk_bad h2 h1 h3] at h
          cases h

/-- codes up to an end code are read from the bits to which they were packed -/
theorem rdc_pack {o l m : Int} {b sz ct : Nat} {bits : List UInt8} : ∀ (cs : List Int) (f : Nat) (ps : List Pr) (last : Int) (p : Nat) (C : List Int) (D : List UInt8) (V W : List Int) (D' : List UInt8) (rest : List UInt8), KV o l m ps (b : Int) last →
    cs.getLast? = some (two l + 1) → wlk l m b cs ps last V D = some (V ++ W, D') → bits.drop p = cbits o cs W ++ rest → p ≤ bits.length → cs.length ≤ f → ct + C.length + cs.length ≤ 3100 → sz + D'.length ≤ 2000 →
    ∃ ps' last', rdc o l m b sz ct bits f ps last p C D = ⟨ps', last', C ++ cs, D', 0, p + (cbits o cs W).length⟩
  | [], f, ps, last, p, C, D, V, W, D', rest, hk, hl, hw, hb, hp, hf, hc, hd => by simp at hl
  | c :: cs, 0, ps, last, p, C, D, V, W, D', rest, hk, hl, hw, hb, hp, hf, hc, hd => by simp at hf
  | c :: cs, f + 1, ps, last, p, C, D, V, W, D', rest, hk, hl, hw, hb, hp, hf, hc, hd => by
    have t1 := (hk.lim.bds).2.2.2.2.1
    obtain ⟨n, hn⟩ : ∃ n, (wd l m ps.length last).toNat = n := ⟨_, rfl⟩
    have hwl := (wlk_bd (c :: cs) ps last V D _ _ hk hw).1
    rw [List.length_append, List.length_cons] at hwl
    obtain ⟨x, W, rfl⟩ : ∃ x W', W = x :: W' := by
      cases W with
      | nil => simp at hwl
      | cons x W => exact ⟨x, W, rfl⟩
    rw [cbits_cons, List.append_assoc] at hb
    have hblen := congrArg List.length hb
    rw [List.length_drop, List.length_append, bitsL_len] at hblen
    have key : ∀ U, V ++ x :: W = V ++ [wd l m ps.length last] ++ U → x = wd l m ps.length last ∧ W = U := fun U e => by
      rw [List.append_assoc] at e
      have := List.append_cancel_left e
      simpa using this
    have hread : x = wd l m ps.length last → 0 ≤ c → c ≤ gt l m ps.length last → ¬ bits.length - p < n ∧ numL o ((bits.drop p).take n) = c ∧ bits.drop (p + n) = cbits o cs W ++ rest ∧ p + n ≤ bits.length := fun hx h0 h1 => by
      subst hx
      rw [hn] at hb hblen
      refine ⟨by omega, ?_, ?_, by omega⟩
      · rw [hb, List.take_left' (bitsL_len _ _ _), numL_code h0 (by have := wd_fits hk h0 h1; rw [hn] at this; exact this)]
      · rw [← List.drop_drop, hb, List.drop_left' (bitsL_len _ _ _)]
    have hlen : x = wd l m ps.length last → (cbits o (c :: cs) (x :: W)).length = n + (cbits o cs W).length := fun hx => by
      subst hx
      rw [cbits_cons, List.length_append, bitsL_len, hn]
    by_cases h4 : c = two l + 1
    · subst h4
      have hcan := can_of (m := m) (n := ps.length) (last := last) t1 (.inr (.inr rfl))
      rw [wlk_end] at hw
      by_cases hnil : cs = []
      · subst hnil
        rw [if_pos rfl] at hw
        simp only [Option.some.injEq, Prod.mk.injEq] at hw
        obtain ⟨e1, e2⟩ := hw
        obtain ⟨hx, hW⟩ := key [] (by rw [List.append_nil]; exact e1.symm)
        subst e2
        have hg := canB_iff.1 hcan
        obtain ⟨a1, a2, _, _⟩ := hread hx hg.1 hg.2
        refine ⟨ps, last, ?_⟩
        rw [rdc_end hn a1 a2 hcan, hlen hx, hW]
        simp [cbits]
      · rw [if_neg hnil] at hw
        cases hw
    · have hne : cs ≠ [] := fun e => by
        subst e
        simp at hl
        exact h4 hl
      have hl2 : cs.getLast? = some (two l + 1) := by
        rw [List.getLast?_cons_of_ne_nil hne] at hl
        exact hl
      have hpos : 0 < cs.length := List.length_pos_iff.2 hne
      rw [List.length_cons] at hf hc
      by_cases h5 : c = two l
      · subst h5
        have hcan := can_of (m := m) (n := ps.length) (last := last) t1 (.inr (.inl rfl))
        rw [wlk_clear] at hw
        obtain ⟨U, E, e1, e2⟩ := wlk_ext cs _ _ _ _ _ _ hw
        obtain ⟨hx, hW⟩ := key U e1
        have hg := canB_iff.1 hcan
        obtain ⟨a1, a2, a3, a4⟩ := hread hx hg.1 hg.2
        have e3 : V ++ x :: W = V ++ [wd l m ps.length last] ++ W := by rw [hx]; simp
        rw [e3] at hw
        obtain ⟨ps', last', hR⟩ := rdc_pack (sz := sz) (ct := ct) cs f (ps.take b) (-1) (p + n) (C ++ [two l]) D _ W D' rest (by simpa using hk.cleared) hl2 hw a3 a4 (by omega) (by simp only [List.length_append, List.length_singleton]; omega) hd
        refine ⟨ps', last', ?_⟩
        rw [rdc_clear hn a1 a2 hcan, if_neg (by omega), hR, hlen hx]
        simp [Nat.add_assoc]
      · by_cases h6 : Okc l m ps.length last c ∧ D.length + (anyW l ps last c).length ≤ 2000
        · have hcan := can_of t1 (.inl h6.1)
          rw [wlk_word h6.1 h6.2] at hw
          obtain ⟨U, E, e1, e2⟩ := wlk_ext cs _ _ _ _ _ _ hw
          obtain ⟨hx, hW⟩ := key U e1
          have hg := canB_iff.1 hcan
          obtain ⟨a1, a2, a3, a4⟩ := hread hx hg.1 hg.2
          have e3 : V ++ x :: W = V ++ [wd l m ps.length last] ++ W := by rw [hx]; simp
          rw [e3] at hw
          have hdl := congrArg List.length e2
          rw [List.length_append, List.length_append] at hdl
          obtain ⟨ps', last', hR⟩ := rdc_pack (sz := sz) (ct := ct) cs f _ c (p + n) (C ++ [c]) _ _ W D' rest (hk.after h6.1) hl2 hw a3 a4 (by omega) (by simp only [List.length_append, List.length_singleton]; omega) hd
          refine ⟨ps', last', ?_⟩
          rw [rdc_word hn a1 a2 hcan h4 h5 (by omega), if_neg (by omega), hR, hlen hx]
          simp [Nat.add_assoc]
        · rw [wlk_bad h5 h4 h6] at hw
          cases hw

end Go.Proofs.Ytibfkfinghcpaaa

/- Unpacking what was packed, in plain Lean. -/
namespace Go.Proofs.Ytibfkfinghcpaaa
open Go.RowKit
set_option linter.unusedVariables false
set_option linter.unusedSimpArgs false

theorem wlk_len {l m : Int} {b : Nat} : ∀ (cs : List Int) (ps : List Pr) (last : Int) (W : List Int) (D : List UInt8) (W' : List Int) (D' : List UInt8), wlk l m b cs ps last W D = some (W', D') → D.length ≤ 2000 → D'.length ≤ 2000
  | [], ps, last, W, D, W', D', h, hd => by
    rw [wlk_nil] at h
    cases h
    exact hd
  | c :: cs, ps, last, W, D, W', D', h, hd => by
    by_cases h1 : c = two l + 1
    · subst h1
      rw [wlk_end] at h
      split at h
      · cases h; exact hd
      · cases h
    · by_cases h2 : c = two l
      · subst h2
        rw [wlk_clear] at h
        exact wlk_len cs _ _ _ _ _ _ h hd
      · by_cases h3 : Okc l m ps.length last c ∧ D.length + (anyW l ps last c).length ≤ 2000
        · rw [wlk_word h3.1 h3.2] at h
          exact wlk_len cs _ _ _ _ _ _ h (by rw [List.length_append]; exact h3.2)
        · rw [wlk_bad h2 h1 h3] at h
          cases h

theorem cbits_ge {o : Int} : ∀ (cs W : List Int), W.length = cs.length → (∀ x, x ∈ W → 1 ≤ x) → cs.length ≤ (cbits o cs W).length
  | [], W, _, _ => by simp
  | c :: cs, [], h, _ => by simp at h
  | c :: cs, x :: W, h, hw => by
    rw [cbits_cons, List.length_append, bitsL_len, List.length_cons]
    have := cbits_ge (o := o) cs W (by simpa using h) (fun y hy => hw y (List.mem_cons_of_mem _ hy))
    have := hw x (by simp)
    omega

theorem unR_pack {o l m : Int} {b : Nat} {ps : List Pr} {last : Int} {cs W : List Int} {D : List UInt8} (hk : kvb o l m ps (b : Int) last = true) (hw : wlk l m b cs ps last [] [] = some (W, D)) (hl : cs.getLast? = some (two l + 1)) (hc : cs.length ≤ 3100) {s : ByteArray} (hs : bstr (pckL o (cbits o cs W)) = s) :
    s.size ≤ 4000 ∧ (unR o l m b ps last s).C = cs ∧ (unR o l m b ps last s).D = D ∧ (unR o l m b ps last s).e = 0 ∧ usedV s.size (unR o l m b ps last s) = s.size := by
  have hkv := kvb_iff.1 hk
  obtain ⟨b1, b2, b3⟩ := wlk_bd cs ps last [] [] W D hkv hw
  have hb2 : ∀ x, x ∈ W → 1 ≤ x ∧ x ≤ 10 := fun x hx => by
    rcases b2 x hx with h | h
    · simp at h
    · exact h
  have hge := cbits_ge (o := o) cs W (by simpa using b1) (fun x hx => (hb2 x hx).1)
  have hle := cbits_len (o := o) cs W (fun x hx => (hb2 x hx).2)
  have hz : s.size = ((cbits o cs W).length + 7) / 8 := by rw [← hs, bstr_size, pckL_len]
  have hD := wlk_len _ _ _ _ _ _ _ hw (by simp)
  have hbits : unpL o s.data.toList = padL (cbits o cs W) := by rw [← hs, bytes_bstr, unp_pck (cbits_bv o cs W)]
  obtain ⟨ps', last', hR⟩ := rdc_pack (o := o) (l := l) (m := m) (b := b) (sz := 0) (ct := 0) (bits := unpL o s.data.toList) cs (8 * s.size + 1) ps last 0 [] [] [] W D (List.replicate ((8 - (cbits o cs W).length % 8) % 8) 48) hkv hl (by simpa using hw) (by rw [hbits]; rfl) (Nat.zero_le _) (by omega) (by simpa using hc) (by omega)
  have hR2 : unR o l m b ps last s = ⟨ps', last', cs, D, 0, (cbits o cs W).length⟩ := by
    unfold unR
    rw [hR]
    simp
  rw [hR2]
  refine ⟨by omega, rfl, rfl, rfl, ?_⟩
  unfold usedV
  rw [if_neg (by simp)]
  show (((cbits o cs W).length : Int) + 7) / 8 = (s.size : Int)
  omega

/-- what ends as a whole ends with an end code -/
theorem rdc_last {o l m : Int} {b sz ct : Nat} {bits : List UInt8} : ∀ (f : Nat) (ps : List Pr) (last : Int) (p : Nat) (C : List Int) (D : List UInt8), (rdc o l m b sz ct bits f ps last p C D).e = 0 → (rdc o l m b sz ct bits f ps last p C D).C.getLast? = some (two l + 1)
  | 0, ps, last, p, C, D, h => by simp [rdc] at h
  | f + 1, ps, last, p, C, D, h => by
    obtain ⟨n, hn⟩ : ∃ n, (wd l m ps.length last).toNat = n := ⟨_, rfl⟩
    by_cases hs : bits.length - p < n
    · rw [rdc_short hn hs] at h
      simp at h
    · obtain ⟨c, hc⟩ : ∃ c, numL o ((bits.drop p).take n) = c := ⟨_, rfl⟩
      cases h3 : canB l m ps.length last c
      · rw [rdc_wrong hn hs hc h3] at h
        simp at h
      · by_cases h4 : c = two l + 1
        · subst h4
          rw [rdc_end hn hs hc h3]
          simp
        · by_cases h5 : c = two l
          · subst h5
            rw [rdc_clear hn hs hc h3] at h ⊢
            split
            · rename_i h6
              rw [if_pos h6] at h
              simp at h
            · rename_i h6
              rw [if_neg h6] at h
              exact rdc_last f _ _ _ _ _ h
          · by_cases h6 : 2000 < sz + D.length + (anyW l ps last c).length
            · rw [rdc_long hn hs hc h3 h4 h5 h6] at h
              simp at h
            · rw [rdc_word hn hs hc h3 h4 h5 h6] at h ⊢
              split
              · rename_i h7
                rw [if_pos h7] at h
                simp at h
              · rename_i h7
                rw [if_neg h7] at h
                exact rdc_last f _ _ _ _ _ h

end Go.Proofs.Ytibfkfinghcpaaa
