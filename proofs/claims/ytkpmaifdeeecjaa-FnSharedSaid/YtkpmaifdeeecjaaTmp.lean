/- Learning the beginning of a text, in plain Lean. -/
import Derived.Test.YtkpmaifdeeecjaaLkn
namespace Go.Proofs.Ytkpmaifdeeecjaa
open Go.RowKit
set_option linter.unusedVariables false
set_option linter.unusedSimpArgs false

/-- something known, and a text that fits -/
def Tx (o l m base : Int) (ps : List Pr) (last : Int) (d : List UInt8) : Prop := KV o l m ps base last ∧ dfB o l m (bstr d) = true

theorem Tx.step {o l m base : Int} {ps : List Pr} {last : Int} {d : List UInt8} (h : Tx o l m base ps last d) (hz : d ≠ []) :
    ∃ (n : Nat) (c : Int), IsLon l m ps last d n ∧ IsFnd l m ps last (d.take n) c ∧ Tx o l m base (aftP l m ps last c) c (d.drop n) := by
  obtain ⟨hk, hd⟩ := h
  have hz0 : 0 < (bstr d).size := by
    rw [bstr_size]
    exact List.length_pos_iff.2 hz
  obtain ⟨n, hn⟩ := lon_ex hk hd hz0
  rw [bytes_bstr] at hn
  obtain ⟨c, hc⟩ := fnd_ex l m ps last (d.take n) (hk.lim.bds).2.2.2.2.1
  refine ⟨n, c, hn, hc, hk.after (fnd_ok hn hc), ?_⟩
  have := dfB_drop hd n
  have e : (bstr d).extract n (bstr d).size = bstr (d.drop n) := by
    rw [← bstr_bytes ((bstr d).extract n (bstr d).size), ext_drop, bytes_bstr]
  rwa [e] at this

theorem dfB_pre {o l m : Int} {d : List UInt8} (h : dfB o l m (bstr d) = true) (n : Nat) : dfB o l m (bstr (d.take n)) = true := by
  unfold dfB litB at *
  simp only [Bool.and_eq_true, decide_eq_true_eq, List.all_eq_true, bstr_size, bytes_bstr] at *
  exact ⟨h.1, by rw [List.length_take]; omega, fun y hy => h.2.2 y (List.mem_of_mem_take hy)⟩

theorem Tx.take {o l m base : Int} {ps : List Pr} {last : Int} {d : List UInt8} (h : Tx o l m base ps last d) (n : Nat) : Tx o l m base ps last (d.take n) := ⟨h.1, dfB_pre h.2 n⟩

theorem lrn_fuel {o l m base : Int} : ∀ (f f' : Nat) (ps : List Pr) (last : Int) (d : List UInt8), Tx o l m base ps last d → d.length ≤ f → d.length ≤ f' → lrn l m f ps last d = lrn l m f' ps last d
  | f, f', ps, last, [], _, _, _ => by rw [lrn_nil, lrn_nil]
  | 0, _, _, _, _ :: _, _, h, _ => by simp at h
  | _, 0, _, _, _ :: _, _, _, h => by simp at h
  | f + 1, f' + 1, ps, last, x :: d, hT, h1, h2 => by
    obtain ⟨n, c, hn, hc, hT'⟩ := hT.step (by simp)
    rw [lrn_step (by simp) hn hc, lrn_step (by simp) hn hc]
    have := hn.1
    exact lrn_fuel f f' _ _ _ hT' (by rw [List.length_drop]; omega) (by rw [List.length_drop]; omega)

/-- every beginning of a word is one -/
theorem pre_code {o l m base : Int} {ps : List Pr} {last : Int} (h : KV o l m ps base last) {c : Int} (hc : Okc l m ps.length last c) {j : Nat} (h1 : 1 ≤ j) (h2 : j ≤ (anyW l ps last c).length) :
    ∃ c', Okc l m ps.length last c' ∧ anyW l ps last c' = (anyW l ps last c).take j := by
  obtain ⟨l1, l2, m2, lm, t1, t2, t4, t3⟩ := h.lim.bds
  have hD := DI_all h.ok t1 t2 (Nat.le_refl ps.length)
  have key : ∀ c0, hw l ps.length c0 = true → ∀ j, 1 ≤ j → j ≤ (W l ps c0).length → ∃ c', hw l ps.length c' = true ∧ W l ps c' = (W l ps c0).take j := fun c0 h0 j hj1 hj2 => by
    obtain ⟨i, c1, hi, _⟩ := hD.cov c0 h0
    have hm : W l ps c0 ∈ (DD l ps ps.length).map (·.1) := List.mem_map.2 ⟨_, List.mem_of_getElem? hi, rfl⟩
    have := hD.pre h.ok (Nat.le_refl _) _ _ rfl hm j hj1 hj2
    obtain ⟨⟨w, c2⟩, hw1, hw2⟩ := List.mem_map.1 this
    obtain ⟨i2, hi2⟩ := List.getElem?_of_mem hw1
    obtain ⟨q1, q2, _⟩ := hD.code hi2
    exact ⟨c2, q1, q2.trans hw2⟩
  rcases hc with hc | ⟨hg, rfl⟩
  · rw [any_hw hc] at h2 ⊢
    obtain ⟨c', q1, q2⟩ := key c hc j h1 h2
    exact ⟨c', .inl q1, by rw [any_hw q1]; exact q2⟩
  · have hl : hw l ps.length last = true := by
      rcases h.last with ⟨rfl, _⟩ | h
      · exact absurd rfl (grB_iff.1 hg).1
      · exact h
    rw [any_nw] at h2 ⊢
    by_cases hj : j ≤ (W l ps last).length
    · obtain ⟨c', q1, q2⟩ := key last hl j h1 hj
      exact ⟨c', .inl q1, by rw [any_hw q1, List.take_append_of_le_length hj]; exact q2⟩
    · refine ⟨nw l ps.length, .inr ⟨hg, rfl⟩, ?_⟩
      have hp := W_pos h.ok hl
      rw [List.length_append, List.length_take] at h2
      rw [any_nw]
      exact (List.take_of_length_le (by rw [List.length_append, List.length_take]; omega)).symm

theorem lon_short {o l m base : Int} {ps : List Pr} {last : Int} {d : List UInt8} {n1 n : Nat} (hk : KV o l m ps base last) (h : IsLon l m ps last d n1) (h1 : 1 ≤ n) (h2 : n ≤ n1) : IsLon l m ps last (d.take n) n := by
  obtain ⟨a1, a2, ⟨c, a3, a4⟩, a5⟩ := h
  have hl : (anyW l ps last c).length = n1 := by rw [a4, List.length_take]; omega
  obtain ⟨c', q1, q2⟩ := pre_code hk a3 h1 (by omega : n ≤ _)
  have hdl : (d.take n).length = n := by rw [List.length_take]; omega
  refine ⟨h1, by omega, ⟨c', q1, ?_⟩, fun c2 j _ hj _ => by omega⟩
  rw [q2, a4, List.take_take, List.take_take]
  congr 1
  omega

theorem lon_fit {l m : Int} {ps : List Pr} {last : Int} {d : List UInt8} {n1 n : Nat} (h : IsLon l m ps last d n1) (h1 : n1 ≤ n) (h2 : n ≤ d.length) : IsLon l m ps last (d.take n) n1 := by
  obtain ⟨a1, a2, ⟨c, a3, a4⟩, a5⟩ := h
  have hdl : (d.take n).length = n := by rw [List.length_take]; omega
  refine ⟨a1, by omega, ⟨c, a3, ?_⟩, fun c2 j b1 b2 b3 => a5 c2 j b1 (by omega) ?_⟩
  · rw [a4, List.take_take]; congr 1; omega
  · rw [b3, List.take_take]; congr 1; omega

theorem hd_take {d : List UInt8} {n : Nat} (h : 1 ≤ n) : hd (d.take n) = hd d := by
  unfold hd
  cases d with
  | nil => simp
  | cons x d => cases n with
    | zero => omega
    | succ n => simp

theorem fnd_word {l m : Int} {ps : List Pr} {last : Int} {d : List UInt8} {n : Nat} {c : Int} (h : IsLon l m ps last d n) (hc : IsFnd l m ps last (d.take n) c) : anyW l ps last c = d.take n := by
  rcases hc with ⟨_, h2⟩ | ⟨_, h2, _⟩
  · obtain ⟨c', h3, h4⟩ := h.2.2.1
    exact absurd h4 (h2 c' h3)
  · exact h2

theorem aft_lon {l m : Int} {ps : List Pr} {last : Int} {d : List UInt8} {n : Nat} {c : Int} (h : IsLon l m ps last d n) (hc : IsFnd l m ps last (d.take n) c) :
    aftP l m ps last c = if grB l m ps.length last then ps ++ [⟨last, hd d⟩] else ps := by
  unfold aftP
  rw [fnd_word h hc, hd_take h.1]

theorem trim_main {o l m base : Int} : ∀ (f : Nat) (ps : List Pr) (last : Int) (d : List UInt8) (n : Nat) (k nd : Int), Tx o l m base ps last d → d.length ≤ f → n ≤ d.length → nd ≤ k →
    (∃ r, (lrn l m f ps last d).1 = (lrn l m f ps last (d.take n)).1 ++ r) ∧ ((lrn l m f ps last d).1.length = (lrn l m f ps last (d.take n)).1.length ↔ ned l m f ps last d k nd ≤ k + n) ∧
    ned l m f ps last d k nd ≤ k + d.length ∧ nd ≤ ned l m f ps last d k nd ∧ (((lrn l m f ps last d).1 = ps ∧ ned l m f ps last d k nd = nd) ∨ (ps.length < (lrn l m f ps last d).1.length ∧ k < ned l m f ps last d k nd)) ∧ ∃ r, (lrn l m f ps last d).1 = ps ++ r
  | f, ps, last, [], n, k, nd, hT, h1, h2, h3 => by
    have : n = 0 := by simpa using h2
    subst this
    simp [lrn_nil, ned_nil]
    omega
  | 0, ps, last, x :: d, n, k, nd, hT, h1, h2, h3 => by simp at h1
  | f + 1, ps, last, x :: d, n, k, nd, hT, h1, h2, h3 => by
    obtain ⟨n1, c, hn, hc, hT'⟩ := hT.step (by simp)
    have hn1 := hn.1
    have hn2 := hn.2.1
    have hal := aft_lon hn hc
    have hne : (x :: d) ≠ [] := by simp
    generalize x :: d = D at *
    have ih0 := fun n' => trim_main f _ _ (D.drop n1) n' (k + n1) (if grB l m ps.length last then k + 1 else nd) hT' (by rw [List.length_drop]; omega)
    rw [lrn_step hne hn hc, ned_step hne hn hc]
    generalize hps : aftP l m ps last c = ps2 at *
    have hnd2 : (if grB l m ps.length last then k + 1 else nd) ≤ k + n1 := by split <;> omega
    have hnd3 : nd ≤ (if grB l m ps.length last then k + 1 else nd) := by split <;> omega
    generalize hnd : (if grB l m ps.length last then k + 1 else nd) = nd2 at *
    have hdl : (D.drop n1).length = D.length - n1 := List.length_drop
    obtain ⟨_, _, g3, g4, g5, ⟨r, g6⟩⟩ := ih0 0 (by omega) hnd2
    generalize hA : (lrn l m f ps2 c (D.drop n1)).1 = A at *
    generalize hN : ned l m f ps2 c (D.drop n1) (k + n1) nd2 = N at *
    have hcase : (grB l m ps.length last = false ∧ ps2 = ps ∧ nd2 = nd) ∨ (grB l m ps.length last = true ∧ ps2.length = ps.length + 1 ∧ nd2 = k + 1 ∧ ∃ r, ps2 = ps ++ r) := by
      cases hg : grB l m ps.length last
      · rw [hg] at hal hnd
        exact .inl ⟨rfl, hal, hnd.symm⟩
      · rw [hg, if_pos rfl] at hal hnd
        exact .inr ⟨rfl, by rw [hal]; simp, hnd.symm, ⟨_, hal⟩⟩
    have hAps : ∃ r, A = ps ++ r := by
      rcases hcase with ⟨_, e, _⟩ | ⟨_, _, _, ⟨r', e⟩⟩
      · exact ⟨r, by rw [g6, e]⟩
      · exact ⟨r' ++ r, by rw [g6, e, List.append_assoc]⟩
    have hlast : (A = ps ∧ N = nd) ∨ (ps.length < A.length ∧ k < N) := by
      have hAl := congrArg List.length g6
      rw [List.length_append] at hAl
      rcases hcase with ⟨_, e1, e2⟩ | ⟨_, e1, e2, _⟩
      · rcases g5 with ⟨q1, q2⟩ | ⟨q1, q2⟩
        · exact .inl ⟨by rw [q1, e1], by omega⟩
        · exact .inr ⟨by rw [e1] at q1; exact q1, by omega⟩
      · exact .inr ⟨by omega, by omega⟩
    refine ⟨?_, ?_, by omega, by omega, hlast, hAps⟩
    · rcases Nat.eq_zero_or_pos n with rfl | hpos
      · rw [List.take_zero, lrn_nil]; exact hAps
      · by_cases hlt : n < n1
        · have hs := lon_short hT.1 hn hpos (by omega)
          obtain ⟨c', hc'⟩ := fnd_ex l m ps last ((D.take n).take n) (hT.1.lim.bds).2.2.2.2.1
          rw [lrn_step (by intro e; have := congrArg List.length e; rw [List.length_take, List.length_nil] at this; omega) hs hc', aft_lon hs hc', hd_take hpos, ← hal, List.drop_of_length_le (by rw [List.length_take]; omega), lrn_nil]
          exact ⟨r, g6⟩
        · have hs := lon_fit hn (by omega) h2
          have hc2 : IsFnd l m ps last ((D.take n).take n1) c := by rw [List.take_take, Nat.min_eq_left (by omega)]; exact hc
          rw [lrn_step (by intro e; have := congrArg List.length e; rw [List.length_take, List.length_nil] at this; omega) hs hc2, hps, List.drop_take]
          exact (ih0 (n - n1) (by omega) hnd2).1
    · rcases Nat.eq_zero_or_pos n with rfl | hpos
      · rw [List.take_zero, lrn_nil]
        rcases hlast with ⟨e1, e2⟩ | ⟨e1, e2⟩
        · rw [e1]; simp; omega
        · show A.length = ps.length ↔ _
          constructor <;> intro h <;> omega
      · by_cases hlt : n < n1
        · have hs := lon_short hT.1 hn hpos (by omega)
          obtain ⟨c', hc'⟩ := fnd_ex l m ps last ((D.take n).take n) (hT.1.lim.bds).2.2.2.2.1
          rw [lrn_step (by intro e; have := congrArg List.length e; rw [List.length_take, List.length_nil] at this; omega) hs hc', aft_lon hs hc', hd_take hpos, ← hal, List.drop_of_length_le (by rw [List.length_take]; omega), lrn_nil]
          have hk1 : nd2 ≤ k + n := by rcases hcase with ⟨_, _, e⟩ | ⟨_, _, e, _⟩ <;> omega
          rcases g5 with ⟨q1, q2⟩ | ⟨q1, q2⟩
          · rw [q1]; simp; omega
          · constructor <;> intro h
            · simp only at h; omega
            · omega
        · have hs := lon_fit hn (by omega) h2
          have hc2 : IsFnd l m ps last ((D.take n).take n1) c := by rw [List.take_take, Nat.min_eq_left (by omega)]; exact hc
          rw [lrn_step (by intro e; have := congrArg List.length e; rw [List.length_take, List.length_nil] at this; omega) hs hc2, hps, List.drop_take]
          have := (ih0 (n - n1) (by omega) hnd2).2.1
          rw [this]
          constructor <;> intro h <;> omega

end Go.Proofs.Ytkpmaifdeeecjaa
