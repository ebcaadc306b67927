/- The longest word with which data begins, and the least code of a word, in plain Lean. -/
import Derived.Test.YtbedikodiboofaaTre
namespace Go.Proofs.Ytbedikodiboofaa
open Go.RowKit
set_option linter.unusedVariables false
set_option linter.unusedSimpArgs false

/-- a code that can follow and has a word -/
def Okc (l m : Int) (n : Nat) (last c : Int) : Prop := hw l n c = true ∨ (grB l m n last = true ∧ c = nw l n)

/-- the longest word with which d begins has n bytes -/
def IsLon (l m : Int) (ps : List Pr) (last : Int) (d : List UInt8) (n : Nat) : Prop :=
  1 ≤ n ∧ n ≤ d.length ∧ (∃ c, Okc l m ps.length last c ∧ anyW l ps last c = d.take n) ∧ ∀ c j, Okc l m ps.length last c → j ≤ d.length → anyW l ps last c = d.take j → j ≤ n

/-- c is the least code with the word w, or -1 -/
def IsFnd (l m : Int) (ps : List Pr) (last : Int) (w : List UInt8) (c : Int) : Prop :=
  (c = -1 ∧ ∀ c', Okc l m ps.length last c' → anyW l ps last c' ≠ w) ∨ (Okc l m ps.length last c ∧ anyW l ps last c = w ∧ ∀ c', Okc l m ps.length last c' → anyW l ps last c' = w → c ≤ c')

theorem IsLon.eq {l m : Int} {ps : List Pr} {last : Int} {d : List UInt8} {n n' : Nat} (h : IsLon l m ps last d n) (h' : IsLon l m ps last d n') : n = n' := by
  obtain ⟨a1, a2, ⟨c, a3, a4⟩, a5⟩ := h
  obtain ⟨b1, b2, ⟨c', b3, b4⟩, b5⟩ := h'
  have := a5 c' n' b3 b2 b4
  have := b5 c n a3 a2 a4
  omega

theorem Okc.nonneg {l m : Int} {n : Nat} {last c : Int} (h : Okc l m n last c) (h0 : 2 ≤ two l) : 0 ≤ c := by
  rcases h with h | ⟨_, rfl⟩
  · have := hw_iff.1 h; omega
  · unfold nw; omega

theorem IsFnd.eq {l m : Int} {ps : List Pr} {last : Int} {w : List UInt8} {c c' : Int} (h : IsFnd l m ps last w c) (h' : IsFnd l m ps last w c') : c = c' := by
  rcases h with ⟨rfl, a⟩ | ⟨a1, a2, a3⟩ <;> rcases h' with ⟨rfl, b⟩ | ⟨b1, b2, b3⟩
  · rfl
  · exact absurd b2 (a _ b1)
  · exact absurd a2 (b _ a1)
  · have := a3 _ b1 b2
    have := b3 _ a1 a2
    omega

theorem least_int (P : Int → Prop) (h0 : ∀ c, P c → 0 ≤ c) (h : ∃ c, P c) : ∃ c, P c ∧ ∀ c', P c' → c ≤ c' := by
  obtain ⟨c, hc⟩ := h
  have key : ∀ n : Nat, ∀ c, P c → c.toNat = n → ∃ c, P c ∧ ∀ c', P c' → c ≤ c' := by
    intro n
    induction n using Nat.strongRecOn with
    | _ n ih =>
      intro c hc hn
      by_cases hex : ∃ c', P c' ∧ c' < c
      · obtain ⟨c', hc', hlt⟩ := hex
        have := h0 c hc
        have := h0 c' hc'
        exact ih c'.toNat (by omega) c' hc' rfl
      · exact ⟨c, hc, fun c' hc' => by
          rcases Int.lt_or_le c' c with h | h
          · exact absurd ⟨c', hc', h⟩ hex
          · exact h⟩
  exact key _ c hc rfl

theorem fnd_ex (l m : Int) (ps : List Pr) (last : Int) (w : List UInt8) (h0 : 2 ≤ two l) : ∃ c, IsFnd l m ps last w c := by
  by_cases h : ∃ c, Okc l m ps.length last c ∧ anyW l ps last c = w
  · obtain ⟨c, ⟨h1, h2⟩, h3⟩ := least_int (fun c => Okc l m ps.length last c ∧ anyW l ps last c = w) (fun c hc => hc.1.nonneg h0) h
    exact ⟨c, .inr ⟨h1, h2, fun c' a b => h3 c' ⟨a, b⟩⟩⟩
  · exact ⟨-1, .inl ⟨rfl, fun c' a b => h ⟨c', a, b⟩⟩⟩

theorem any_hw {l : Int} {ps : List Pr} {last c : Int} (h : hw l ps.length c = true) : anyW l ps last c = W l ps c := by
  have := hw_iff.1 h
  unfold anyW
  rw [if_neg (by unfold nw; omega)]

theorem any_nw {l : Int} {ps : List Pr} {last : Int} : anyW l ps last (nw l ps.length) = W l ps last ++ (W l ps last).take 1 := by
  unfold anyW; rw [if_pos rfl]

/-- a word's beginnings are words -/
theorem DI.pre {l : Int} {ps : List Pr} {D : List (List UInt8 × Int)} {n : Nat} (h : DI l ps D n) (hok : OKs l ps) (hn : n ≤ ps.length) : ∀ (k : Nat) (w : List UInt8), w.length = k → w ∈ D.map (·.1) → ∀ j, 1 ≤ j → j ≤ w.length → w.take j ∈ D.map (·.1) := by
  intro k
  induction k with
  | zero => intro w hw _ j h1 h2; omega
  | succ k ih =>
    intro w hwl hm j h1 h2
    by_cases hj : j = w.length
    · subst hj; rw [List.take_length]; exact hm
    · obtain ⟨⟨w', c⟩, hm', rfl⟩ := List.mem_map.1 hm
      obtain ⟨i, hi⟩ := List.getElem?_of_mem hm'
      by_cases hl : two l ≤ (i : Int)
      · obtain ⟨⟨c1, c2⟩, hW, hlen⟩ := h.non i w' c hi hl
        obtain ⟨q, hq, rfl⟩ : ∃ q : Nat, q < n ∧ c = nw l q := ⟨(c - nw l 0).toNat, by unfold nw at *; omega, by unfold nw at *; omega⟩
        have hp : ps[q]? = some ps[q] := List.getElem?_eq_getElem (by omega)
        rw [W_pair hok hp] at hW
        have hpw := hw_iff.1 (hok q _ hp).1
        obtain ⟨i2, c', hi2, _⟩ := h.cov (ps[q]).p (hw_iff.2 (by omega))
        have hlen2 : (W l ps (ps[q]).p).length = k := by
          have := congrArg List.length hW
          simp at this
          simp only at hwl
          omega
        have := ih (W l ps (ps[q]).p) hlen2 (List.mem_map.2 ⟨_, List.mem_of_getElem? hi2, rfl⟩) j h1 (by simp only at h2 hj hwl; omega)
        show w'.take j ∈ _
        rw [← hW, List.take_append_of_le_length (by simp only at h2 hj hwl; omega)]
        exact this
      · have := h.lit i (by omega)
        rw [hi] at this
        simp only [Option.some.injEq, Prod.mk.injEq] at this
        simp only [this.1, List.length_cons, List.length_nil] at hwl h2 hj
        omega

/-- down the tree along d: at a node with size bytes -/
structure Down (l : Int) (ps : List Pr) (D : List (List UInt8 × Int)) (d : List UInt8) (i size : Nat) (c : Int) : Prop where
  at' : D[i]? = some (d.take size, c)
  s1 : 1 ≤ size
  s2 : size ≤ d.length

theorem take_one_snoc {d : List UInt8} {size : Nat} (h : size < d.length) : d.take (size + 1) = d.take size ++ [d[size]] := by
  rw [List.take_succ_eq_append_getElem h]

section
variable {l m : Int} {ps : List Pr} {last : Int} {D : List (List UInt8 × Int)} {d : List UInt8} {i size : Nat} {c : Int}

theorem Down.ge (h : Down l ps D d i size c) (hD : DI l ps D ps.length) (hok : OKs l ps) (hend : size = d.length ∨ d.take (size + 1) ∉ D.map (·.1)) {c' : Int} {j : Nat} (hc : hw l ps.length c' = true) (hj : j ≤ d.length) (he : W l ps c' = d.take j) : j ≤ size := by
  rcases hend with rfl | hno
  · exact hj
  · rcases Nat.lt_or_ge size j with hlt | hge
    · exfalso
      obtain ⟨i2, c2, hi2, _⟩ := hD.cov c' hc
      have hm : d.take j ∈ D.map (·.1) := by rw [← he]; exact List.mem_map.2 ⟨_, List.mem_of_getElem? hi2, rfl⟩
      have := hD.pre hok (Nat.le_refl _) _ _ rfl hm (size + 1) (by omega) (by rw [List.length_take]; omega)
      rw [List.take_take, Nat.min_eq_left (by omega)] at this
      exact hno this
    · exact hge

/-- the word to come is the longest -/
theorem Down.next (h : Down l ps D d i size c) (hD : DI l ps D ps.length) (hok : OKs l ps) (hlt : size < d.length) (hno : d.take (size + 1) ∉ D.map (·.1)) (hg : grB l m ps.length last = true)
    (hi : ix D (W l ps last) = i) (hlast : hw l ps.length last = true) (hf : d[size]? = d[0]?) : IsLon l m ps last d (size + 1) ∧ IsFnd l m ps last (d.take (size + 1)) (nw l ps.length) := by
  have hW : W l ps last = d.take size := by
    obtain ⟨i2, c2, hi2, _⟩ := hD.cov last hlast
    have := hD.ix hi2
    have e : i2 = i := by omega
    subst e
    rw [h.at'] at hi2
    simp only [Option.some.injEq, Prod.mk.injEq] at hi2
    exact hi2.1.symm
  have hany : anyW l ps last (nw l ps.length) = d.take (size + 1) := by
    rw [any_nw, hW, take_one_snoc hlt]
    congr 1
    have h1 := h.s1
    rw [List.getElem?_eq_getElem hlt] at hf
    cases d with
    | nil => simp at hlt
    | cons x xs =>
      simp at hf
      rw [List.take_take, Nat.min_eq_left h1]
      simp [hf]
  refine ⟨⟨by omega, by omega, ⟨_, .inr ⟨hg, rfl⟩, hany⟩, fun c' j hc' hj he => ?_⟩, .inr ⟨.inr ⟨hg, rfl⟩, hany, fun c' hc' he => ?_⟩⟩
  · rcases hc' with hc' | ⟨_, rfl⟩
    · rw [any_hw hc'] at he
      have := h.ge hD hok (.inr hno) hc' hj he
      omega
    · rw [hany] at he
      have := congrArg List.length he
      rw [List.length_take, List.length_take] at this
      omega
  · rcases hc' with hc' | ⟨_, rfl⟩
    · rw [any_hw hc'] at he
      have := h.ge hD hok (.inr hno) hc' (by omega) he
      omega
    · exact Int.le_refl _

/-- the node's word is the longest -/
theorem Down.here (h : Down l ps D d i size c) (hD : DI l ps D ps.length) (hok : OKs l ps) (hend : size = d.length ∨ d.take (size + 1) ∉ D.map (·.1)) (hlast : last = -1 ∨ hw l ps.length last = true)
    (hno : size < d.length → grB l m ps.length last = true → ix D (W l ps last) = i → d[size]? ≠ d[0]?) : IsLon l m ps last d size ∧ IsFnd l m ps last (d.take size) c := by
  obtain ⟨hc1, hc2, hc3⟩ := hD.code h.at'
  have key : ∀ j, grB l m ps.length last = true → j ≤ d.length → anyW l ps last (nw l ps.length) = d.take j → j ≤ size := fun j hg hj he => by
    rcases Nat.lt_or_ge size j with hlt | hge
    · exfalso
      have hl : hw l ps.length last = true := by
        rcases hlast with rfl | h
        · exact absurd rfl (grB_iff.1 hg).1
        · exact h
      rw [any_nw] at he
      have hpos := W_pos hok hl
      have hlen := congrArg List.length he
      simp only [List.length_append, List.length_take] at hlen
      have hj1 : (W l ps last).length = j - 1 := by omega
      have hW : W l ps last = d.take (j - 1) := by
        have := congrArg (List.take (j - 1)) he
        rw [List.take_append_of_le_length (by omega), List.take_of_length_le (by omega), List.take_take, Nat.min_eq_left (by omega)] at this
        exact this
      have hle := h.ge hD hok hend hl (by omega) hW
      have hjs : j = size + 1 := by omega
      subst hjs
      have hWs : W l ps last = d.take size := by rw [hW]; rfl
      have hi := hD.ix h.at'
      rw [← hWs] at hi
      refine hno (by omega) hg hi ?_
      have h1 := h.s1
      have e1 : d[size]? = (d.take (size + 1))[size]? := by rw [List.getElem?_take, if_pos (by omega)]
      rw [e1, ← he, hWs, List.getElem?_append_right (by rw [List.length_take]; omega), List.length_take, Nat.min_eq_left (by omega), Nat.sub_self, List.take_take, Nat.min_eq_left h1, List.getElem?_take, if_pos (by omega)]
    · exact hge
  refine ⟨⟨h.s1, h.s2, ⟨c, .inl hc1, by rw [any_hw hc1]; exact hc2⟩, fun c' j hc' hj he => ?_⟩, .inr ⟨.inl hc1, by rw [any_hw hc1]; exact hc2, fun c' hc' he => ?_⟩⟩
  · rcases hc' with hc' | ⟨hg, rfl⟩
    · rw [any_hw hc'] at he
      exact h.ge hD hok hend hc' hj he
    · exact key j hg hj he
  · rcases hc' with hc' | ⟨hg, rfl⟩
    · rw [any_hw hc'] at he
      exact hc3 c' hc' he
    · have := hw_iff.1 hc1
      unfold nw; omega

theorem Down.start (hD : DI l ps D ps.length) (hd : 0 < d.length) (hlit : ((d[0]).toNat : Int) < two l) : Down l ps D d (d[0]).toNat 1 ((d[0]).toNat : Int) := by
  refine ⟨?_, by omega, by omega⟩
  rw [hD.lit _ hlit]
  congr 1
  rw [take_one_snoc (size := 0) hd]
  simp

theorem Down.step (h : Down l ps D d i size c) (hlt : size < d.length) {r : Nat} {c' : Int} (hr : D[r]? = some (d.take size ++ [d[size]], c')) : Down l ps D d r (size + 1) c' :=
  ⟨by rw [take_one_snoc hlt]; exact hr, by omega, by omega⟩

/-- every byte of a word is a literal -/
theorem W_lits (hok : OKs l ps) (h0 : 2 ≤ two l) (h1 : two l ≤ 256) : ∀ (k : Nat) (c : Int), hw l ps.length c = true → (W l ps c).length = k → ∀ x ∈ W l ps c, (x.toNat : Int) < two l := by
  intro k
  induction k with
  | zero => intro c hc hl x hx; rw [List.eq_nil_of_length_eq_zero hl] at hx; simp at hx
  | succ k ih =>
    intro c hc hl x hx
    by_cases h2 : two l + 1 < c
    · obtain ⟨q, hq, rfl⟩ := hw_pair hc h2
      have hp : ps[q]? = some ps[q] := List.getElem?_eq_getElem (by omega)
      have hpo := hok q _ hp
      rw [W_pair hok hp] at hl hx
      have hpw := hw_iff.1 hpo.1
      rcases List.mem_append.1 hx with hx | hx
      · exact ih _ (hw_iff.2 (by omega)) (by simpa using hl) x hx
      · simp at hx
        subst hx
        have := hpo.2
        rw [UInt8.toNat_ofNat']
        omega
    · have := hw_iff.1 hc
      rw [W_lit h2] at hx
      simp at hx
      subst hx
      rw [UInt8.toNat_ofNat']
      omega

end

/-- no code has the empty word, nor one that begins with no literal -/
theorem fnd_none {l m : Int} {ps : List Pr} {last : Int} {w : List UInt8} (hok : OKs l ps) (h0 : 2 ≤ two l) (h1 : two l ≤ 256) (hlast : last = -1 ∨ hw l ps.length last = true) (hw' : ∀ x, w.head? = some x → ¬ (x.toNat : Int) < two l) : IsFnd l m ps last w (-1) := by
  refine .inl ⟨rfl, fun c hc he => ?_⟩
  have hbase : ∀ c, hw l ps.length c = true → ∃ x, (W l ps c).head? = some x ∧ (x.toNat : Int) < two l := fun c hc => by
    have hpos := W_pos hok hc
    cases hq : W l ps c with
    | nil => rw [hq] at hpos; simp at hpos
    | cons x xs => exact ⟨x, rfl, W_lits hok h0 h1 _ c hc rfl x (by rw [hq]; simp)⟩
  rcases hc with hc | ⟨hg, rfl⟩
  · rw [any_hw hc] at he
    obtain ⟨x, hx, hx2⟩ := hbase c hc
    rw [he] at hx
    exact hw' x hx hx2
  · have hl : hw l ps.length last = true := by
      rcases hlast with rfl | h
      · exact absurd rfl (grB_iff.1 hg).1
      · exact h
    obtain ⟨x, hx, hx2⟩ := hbase last hl
    rw [any_nw] at he
    rw [← he] at hw'
    exact hw' x (by rw [List.head?_append]; simp [hx]) hx2

theorem fnd_longer {l m : Int} {ps : List Pr} {last : Int} {w : List UInt8} {n : Nat} (h : IsLon l m ps last w n) (hn : n < w.length) : IsFnd l m ps last w (-1) :=
  .inl ⟨rfl, fun c hc he => by
    have := h.2.2.2 c w.length hc (Nat.le_refl _) (by rw [he, List.take_length])
    omega⟩

end Go.Proofs.Ytbedikodiboofaa
