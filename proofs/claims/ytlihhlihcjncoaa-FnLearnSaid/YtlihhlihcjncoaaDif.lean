/- The words that a text teaches are different from all earlier ones, in plain Lean. -/
import Derived.Test.YtlihhlihcjncoaaTmp
namespace Go.Proofs.Ytlihhlihcjncoaa
open Go.RowKit
set_option linter.unusedVariables false
set_option linter.unusedSimpArgs false

/-- the word to come is not known yet -/
def Fresh (l m : Int) (ps : List Pr) (last : Int) (d : List UInt8) : Prop :=
  grB l m ps.length last = true → d ≠ [] → ∀ c, hw l ps.length c = true → W l ps c ≠ W l ps last ++ d.take 1

theorem hd_one {x : List UInt8} (h : x ≠ []) : [UInt8.ofNat (hd x).toNat] = x.take 1 := by
  cases x with
  | nil => exact absurd rfl h
  | cons y x => simp [hd]

theorem kv_last {o l m base last : Int} {ps : List Pr} (h : KV o l m ps base last) (hg : grB l m ps.length last = true) : hw l ps.length last = true := by
  rcases h.last with ⟨rfl, _⟩ | h
  · exact absurd rfl (grB_iff.1 hg).1
  · exact h

theorem hw_lt {l : Int} {n : Nat} {c : Int} (h : hw l n c = true) : c < nw l n := by
  have := hw_iff.1 h
  unfold nw; omega

/-- the word of the pair that a code adds -/
theorem aft_new {o l m base last c : Int} {ps : List Pr} (h : KV o l m ps base last) (hc : Okc l m ps.length last c) (hg : grB l m ps.length last = true) :
    W l (aftP l m ps last c) (nw l ps.length) = W l ps last ++ [UInt8.ofNat (hd (anyW l ps last c)).toNat] := by
  have h2 := (h.after hc).ok
  have hl := kv_last h hg
  unfold aftP at h2 ⊢
  rw [if_pos hg] at h2 ⊢
  rw [W_pair h2 (List.getElem?_concat_length), W_app (hw_lt hl)]

theorem aft_old {l m last c c' : Int} {ps : List Pr} (h : hw l ps.length c' = true) : W l (aftP l m ps last c) c' = W l ps c' := by
  unfold aftP
  split
  · exact W_app (hw_lt h)
  · rfl

/-- the word of a code stays what it was -/
theorem aft_word {o l m base last c : Int} {ps : List Pr} (h : KV o l m ps base last) (hc : Okc l m ps.length last c) : W l (aftP l m ps last c) c = anyW l ps last c := by
  rcases hc with hc | ⟨hg, rfl⟩
  · rw [aft_old hc, any_hw hc]
  · have hl := kv_last h hg
    have hp := W_pos h.ok hl
    rw [aft_new h (.inr ⟨hg, rfl⟩) hg, any_nw]
    have e : W l ps last ≠ [] := by intro e; rw [e] at hp; simp at hp
    rw [hd_app hp, hd_one e]

theorem fresh_step {o l m base last : Int} {ps : List Pr} {d : List UInt8} {n : Nat} {c : Int} (h : KV o l m ps base last) (hn : IsLon l m ps last d n) (hc : IsFnd l m ps last (d.take n) c) :
    Fresh l m (aftP l m ps last c) c (d.drop n) := by
  intro _ hd2 c' hc' he
  have hok := fnd_ok hn hc
  have hw0 := fnd_word hn hc
  have hlt : n < d.length := by
    rcases Nat.lt_or_ge n d.length with h | h
    · exact h
    · exact absurd (List.drop_eq_nil_of_le h) hd2
  rw [aft_word h hok, hw0, ← List.take_add] at he
  obtain ⟨n1, n2, _, n4⟩ := hn
  by_cases hold : hw l ps.length c' = true
  · rw [aft_old hold, ← any_hw (last := last) hold] at he
    have := n4 c' (n + 1) (.inl hold) (by omega) he
    omega
  · have hg : grB l m ps.length last = true := by
      cases hg : grB l m ps.length last
      · have e : aftP l m ps last c = ps := by unfold aftP; rw [hg]; rfl
        rw [e] at hc'
        exact absurd hc' hold
      · rfl
    have hlen : (aftP l m ps last c).length = ps.length + 1 := by unfold aftP; rw [if_pos hg]; simp
    have e : c' = nw l ps.length := by
      have h1 := hw_iff.1 hc'
      have h2 : ¬ _ := fun q => hold (hw_iff.2 q)
      rw [hlen] at h1
      unfold nw; omega
    subst e
    rw [aft_new h hok hg, hw0] at he
    have hl := kv_last h hg
    have hp := W_pos h.ok hl
    have hdl : (d.take (n + 1)).length = n + 1 := by rw [List.length_take]; omega
    have hwl : (W l ps last).length = n := by
      have := congrArg List.length he
      rw [hdl, List.length_append] at this
      simp at this; omega
    have e1 : W l ps last = d.take n := by
      have := congrArg (List.take n) he
      rw [List.take_left' hwl, List.take_take, Nat.min_eq_left (by omega)] at this
      exact this
    have hne : d.take n ≠ [] := by
      intro q
      rw [e1, q] at hp
      simp at hp
    have := n4 (nw l ps.length) (n + 1) (.inr ⟨hg, rfl⟩) (by omega) (by
      rw [any_nw, ← he, e1, hd_one hne])
    omega

theorem aft_pre (l m : Int) (ps : List Pr) (last c : Int) : ∃ r, aftP l m ps last c = ps ++ r := by
  unfold aftP
  split
  · exact ⟨_, rfl⟩
  · exact ⟨[], by simp⟩

theorem lrn_ext {o l m base last : Int} {ps : List Pr} {d : List UInt8} (f : Nat) (hT : Tx o l m base ps last d) (hf : d.length ≤ f) : ∃ r, (lrn l m f ps last d).1 = ps ++ r :=
  (trim_main f ps last d 0 0 0 hT hf (Nat.zero_le _) (Int.le_refl _)).2.2.2.2.2

/-- each word that is learned is different from all earlier ones -/
theorem lrn_fresh {o l m base : Int} : ∀ (f : Nat) (ps : List Pr) (last : Int) (d : List UInt8), Tx o l m base ps last d → d.length ≤ f → Fresh l m ps last d →
    ∀ i n, ps.length ≤ i → i < (lrn l m f ps last d).1.length → n < i → W l (lrn l m f ps last d).1 (nw l n) ≠ W l (lrn l m f ps last d).1 (nw l i)
  | f, ps, last, [], hT, hf, hF, i, n, h1, h2, h3 => by rw [lrn_nil] at h2; exact absurd h2 (by simpa using h1)
  | 0, ps, last, x :: d, hT, hf, hF, i, n, h1, h2, h3 => by simp at hf
  | f + 1, ps, last, x :: d, hT, hf, hF, i, n, h1, h2, h3 => by
    obtain ⟨k, c, hn, hc, hT'⟩ := hT.step (by simp)
    have hok := fnd_ok hn hc
    have hk1 := hn.1
    have hf2 : ((x :: d).drop k).length ≤ f := by rw [List.length_drop]; omega
    rw [lrn_step (by simp) hn hc] at h2 ⊢
    by_cases hi : (aftP l m ps last c).length ≤ i
    · exact lrn_fresh f _ _ _ hT' hf2 (fresh_step hT.1 hn hc) i n hi h2 h3
    · have hg : grB l m ps.length last = true := by
        cases hg : grB l m ps.length last
        · have e : aftP l m ps last c = ps := by unfold aftP; rw [hg]; rfl
          rw [e] at hi; omega
        · rfl
      have hlen : (aftP l m ps last c).length = ps.length + 1 := by unfold aftP; rw [if_pos hg]; simp
      obtain rfl : i = ps.length := by omega
      obtain ⟨r, hr⟩ := lrn_ext f hT' hf2
      rw [hr, W_app (by rw [hlen]; unfold nw; omega), W_app (by rw [hlen]; unfold nw; omega), aft_new hT.1 hok hg, aft_old (hw_nw h3), fnd_word hn hc, hd_take hk1, hd_one (by simp)]
      exact hF hg (by simp) _ (hw_nw h3)

/-- the words of what is learned behind a clear code -/
theorem lrn_differ {o l m last : Int} {b : Nat} {ps : List Pr} {d : List UInt8} (h : KV o l m ps (b : Int) last) (hd : dfB o l m (bstr d) = true) {qs : List Pr} (f : Nat) (hf : d.length ≤ f) (hq : (lrn l m f (ps.take b) (-1) d).1 = qs) :
    (∃ r, qs = ps.take b ++ r) ∧ ∀ i n, b ≤ i → i < qs.length → n < i → W l qs (nw l n) ≠ W l qs (nw l i) := by
  have hT : Tx o l m (b : Int) (ps.take b) (-1) d := ⟨by simpa using h.cleared, hd⟩
  have hbl : (ps.take b).length = b := by have := h.b1; rw [List.length_take]; omega
  obtain ⟨r, hr⟩ := lrn_ext f hT hf
  refine ⟨⟨r, by rw [← hq, hr]⟩, fun i n h1 h2 h3 => ?_⟩
  subst hq
  exact lrn_fresh f _ _ _ hT hf (fun hg => absurd rfl (grB_iff.1 hg).1) i n (by omega) h2 h3

end Go.Proofs.Ytlihhlihcjncoaa
