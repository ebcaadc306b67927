/- Packing what was unpacked: in plain Lean; CodesWidths, soBits. -/
import Derived.Test.YtibfkfinghcpaaaGp
import Derived.Test.YtibfkfinghcpaaaGu
namespace Go.Proofs.Ytibfkfinghcpaaa
open Go.RowKit
set_option linter.unusedVariables false
set_option linter.unusedSimpArgs false

theorem cbits_snoc (o c x : Int) : ∀ (C V : List Int), V.length = C.length → cbits o (C ++ [c]) (V ++ [x]) = cbits o C V ++ bitsL o c x.toNat
  | [], [], _ => by simp [cbits]
  | [], _ :: _, h => by simp at h
  | _ :: _, [], h => by simp at h
  | a :: C, v :: V, h => by
    rw [List.cons_append, List.cons_append, cbits_cons, cbits_cons, cbits_snoc o c x C V (by simpa using h), List.append_assoc]

/-- the codes read are packed to the bits from which they were read -/
theorem rdc_cbits {o l m : Int} {b sz ct : Nat} {bits : List UInt8} (hbv : BV bits) {ps0 : List Pr} {last0 : Int} : ∀ (f : Nat) (ps : List Pr) (last : Int) (p : Nat) (C : List Int) (D : List UInt8) (V : List Int), KV o l m ps (b : Int) last →
    (∀ cs, wlk l m b (C ++ cs) ps0 last0 [] [] = wlk l m b cs ps last V D) → V.length = C.length → cbits o C V = bits.take p → p ≤ bits.length → ct + C.length < 3100 → sz + D.length ≤ 2000 →
    ∃ W q, wlk l m b (rdc o l m b sz ct bits f ps last p C D).C ps0 last0 [] [] = some (W, (rdc o l m b sz ct bits f ps last p C D).D) ∧ W.length = (rdc o l m b sz ct bits f ps last p C D).C.length ∧ cbits o (rdc o l m b sz ct bits f ps last p C D).C W = bits.take q ∧ q ≤ bits.length
  | 0, ps, last, p, C, D, V, hk, hL, hv, hb, hp, hc, hd => by
    have := hL []
    rw [List.append_nil, wlk_nil] at this
    exact ⟨V, p, this, hv, hb, hp⟩
  | f + 1, ps, last, p, C, D, V, hk, hL, hv, hb, hp, hc, hd => by
    have hL0 : wlk l m b C ps0 last0 [] [] = some (V, D) := by
      have := hL []
      rwa [List.append_nil, wlk_nil] at this
    have t1 := (hk.lim.bds).2.2.2.2.1
    obtain ⟨n, hn⟩ : ∃ n, (wd l m ps.length last).toNat = n := ⟨_, rfl⟩
    by_cases hs : bits.length - p < n
    · rw [rdc_short hn hs]
      exact ⟨V, p, hL0, hv, hb, hp⟩
    · obtain ⟨c, hcc⟩ : ∃ c, numL o ((bits.drop p).take n) = c := ⟨_, rfl⟩
      have hcl : ((bits.drop p).take n).length = n := by rw [List.length_take, List.length_drop]; omega
      have hbn : bitsL o c (wd l m ps.length last).toNat = (bits.drop p).take n := by
        have := bits_num (o := o) ((hbv.drop p).take n)
        rw [hcc, hcl] at this
        rw [hn]; exact this
      have hnew : cbits o (C ++ [c]) (V ++ [wd l m ps.length last]) = bits.take (p + n) := by
        rw [cbits_snoc o c _ C V hv, hb, hbn, List.take_add]
      have hvn : (V ++ [wd l m ps.length last]).length = (C ++ [c]).length := by simp [hv]
      cases h1 : canB l m ps.length last c
      · rw [rdc_wrong hn hs hcc h1]
        exact ⟨V, p, hL0, hv, hb, hp⟩
      · by_cases h2 : c = two l + 1
        · subst h2
          rw [rdc_end hn hs hcc h1]
          refine ⟨V ++ [wd l m ps.length last], p + n, ?_, hvn, hnew, by omega⟩
          show wlk l m b (C ++ [two l + 1]) ps0 last0 [] [] = _
          rw [hL, wlk_end, if_pos rfl]
        · by_cases h3 : c = two l
          · subst h3
            have hL2 : ∀ cs, wlk l m b (C ++ [two l] ++ cs) ps0 last0 [] [] = wlk l m b cs (ps.take b) (-1) (V ++ [wd l m ps.length last]) D := fun cs => by
              rw [List.append_assoc, hL, List.singleton_append, wlk_clear]
            rw [rdc_clear hn hs hcc h1]
            by_cases h4 : 3100 ≤ ct + (C.length + 1)
            · rw [if_pos h4]
              have := hL2 []
              rw [List.append_nil, wlk_nil] at this
              exact ⟨_, p + n, this, hvn, hnew, by omega⟩
            · rw [if_neg h4]
              exact rdc_cbits hbv f _ _ _ _ _ _ (by simpa using hk.cleared) hL2 hvn hnew (by omega) (by rw [List.length_append, List.length_singleton]; omega) hd
          · have hok := can_okc t1 h1 h3 h2
            by_cases h5 : 2000 < sz + D.length + (anyW l ps last c).length
            · rw [rdc_long hn hs hcc h1 h2 h3 h5]
              exact ⟨V, p, hL0, hv, hb, hp⟩
            · have hL2 : ∀ cs, wlk l m b (C ++ [c] ++ cs) ps0 last0 [] [] = wlk l m b cs (aftP l m ps last c) c (V ++ [wd l m ps.length last]) (D ++ anyW l ps last c) := fun cs => by
                rw [List.append_assoc, hL, List.singleton_append, wlk_word hok (by omega)]
              rw [rdc_word hn hs hcc h1 h2 h3 h5]
              by_cases h4 : 3100 ≤ ct + (C.length + 1)
              · rw [if_pos h4]
                have := hL2 []
                rw [List.append_nil, wlk_nil] at this
                exact ⟨_, p + n, this, hvn, hnew, by omega⟩
              · rw [if_neg h4]
                exact rdc_cbits hbv f _ _ _ _ _ _ (hk.after hok) hL2 hvn hnew (by omega) (by rw [List.length_append, List.length_singleton]; omega) (by rw [List.length_append]; omega)

def sumJ : List Int → Int
  | [] => 0
  | x :: xs => x + sumJ xs

theorem sumJ_app : ∀ xs ys : List Int, sumJ (xs ++ ys) = sumJ xs + sumJ ys
  | [], ys => by simp [sumJ]
  | x :: xs, ys => by
    show x + sumJ (xs ++ ys) = x + sumJ xs + sumJ ys
    rw [sumJ_app xs ys]; omega

theorem sumJ_bd : ∀ xs : List Int, (∀ x, x ∈ xs → 1 ≤ x ∧ x ≤ 10) → 0 ≤ sumJ xs ∧ sumJ xs ≤ 10 * xs.length
  | [], _ => by simp [sumJ]
  | x :: xs, h => by
    have := sumJ_bd xs fun y hy => h y (List.mem_cons_of_mem _ hy)
    have := h x (by simp)
    simp only [sumJ, List.length_cons]
    omega

theorem cbits_sum {o : Int} : ∀ (cs W : List Int), W.length = cs.length → (∀ x, x ∈ W → 1 ≤ x ∧ x ≤ 10) → ((cbits o cs W).length : Int) = sumJ W
  | [], [], _, _ => by simp [cbits, sumJ]
  | [], _ :: _, h, _ => by simp at h
  | _ :: _, [], h, _ => by simp at h
  | c :: cs, x :: W, h, hw => by
    have h1 := cbits_sum (o := o) cs W (by simpa using h) (fun y hy => hw y (List.mem_cons_of_mem _ hy))
    have h2 := hw x (by simp)
    rw [cbits_cons, List.length_append, bitsL_len]
    simp only [sumJ]
    omega

/-- what is known of the codes of a stream -/
theorem unR_bits {o l m : Int} {b : Nat} {ps : List Pr} {last : Int} {s : ByteArray} (hk : kvb o l m ps (b : Int) last = true) :
    ∃ W q, wlk l m b (unR o l m b ps last s).C ps last [] [] = some (W, (unR o l m b ps last s).D) ∧ W.length = (unR o l m b ps last s).C.length ∧ (∀ x, x ∈ W → 1 ≤ x ∧ x ≤ 10) ∧ sumJ W = (q : Nat) ∧ q ≤ 8 * s.size ∧
      (padL (cbits o (unR o l m b ps last s).C W)).take q = (unpL o s.data.toList).take q ∧ q ≤ 8 * (bstr (pckL o (cbits o (unR o l m b ps last s).C W))).size ∧ BV (cbits o (unR o l m b ps last s).C W) := by
  have hkv := kvb_iff.1 hk
  obtain ⟨W, q, h1, h2, h3, h4⟩ := rdc_cbits (o := o) (l := l) (m := m) (b := b) (sz := 0) (ct := 0) (bits := unpL o s.data.toList) (unpL_bv o _) (ps0 := ps) (last0 := last) (8 * s.size + 1) ps last 0 [] [] [] hkv (fun cs => by simp) rfl rfl (Nat.zero_le _) (by simp) (by simp)
  obtain ⟨_, b2, _⟩ := wlk_bd _ ps last [] [] W _ hkv h1
  have hb2 : ∀ x, x ∈ W → 1 ≤ x ∧ x ≤ 10 := fun x hx => by
    rcases b2 x hx with h | h
    · simp at h
    · exact h
  rw [unpL_len, bytes_len] at h4
  have hlen : (cbits o (unR o l m b ps last s).C W).length = q := by
    show (cbits o (rdc o l m b 0 0 (unpL o s.data.toList) (8 * s.size + 1) ps last 0 [] []).C W).length = q
    rw [h3, List.length_take, unpL_len, bytes_len]; omega
  refine ⟨W, q, h1, h2, hb2, ?_, h4, ?_, ?_, cbits_bv _ _ _⟩
  · have := cbits_sum (o := o) _ W h2 hb2
    rw [← this]
    exact congrArg Int.ofNat hlen
  · unfold padL
    rw [List.take_append_of_le_length (by omega), List.take_of_length_le (by omega)]
    exact h3
  · rw [bstr_size, pckL_len]; omega

end Go.Proofs.Ytibfkfinghcpaaa
