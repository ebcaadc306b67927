/- Lemmas and walks, part Gc. -/
import Derived.Test.YtmddcbebaijjkaaDoorGb
import Derived.StillTail
import Derived.Test.YtmddcbebaijjkaaDoorShelf
import Derived.Maps.AppendAt
import Derived.Test.YtmddcbebaijjkaaDoorGa

/- The tree of known words, in plain Lean: words and their least codes, nodes and their children. -/
namespace Go.Proofs.YtmddcbebaijjkaaDoor
open Go.RowKit
set_option linter.unusedVariables false
set_option linter.unusedSimpArgs false

/-- the word of a code that has one, as bytes -/
def W (l : Int) (ps : List Pr) (c : Int) : List UInt8 := wb l (wordsL l ps) c

def OKs (l : Int) (ps : List Pr) : Prop := ∀ j p, ps[j]? = some p → okP l j p

theorem W_lit {l : Int} {ps : List Pr} {c : Int} (h : ¬ two l + 1 < c) : W l ps c = [UInt8.ofNat c.toNat] := wb_lit h

theorem W_pair {l : Int} {ps : List Pr} {k : Nat} {p : Pr} (hok : OKs l ps) (hp : ps[k]? = some p) : W l ps (nw l k) = W l ps p.p ++ [UInt8.ofNat p.b.toNat] := by
  have h1 := hw_iff.1 (hok k p hp).1
  have e : (nw l k - (two l + 1)).toNat - 1 = k := by unfold nw; omega
  refine wb_pair (p := p) (by unfold nw; omega) (by rw [e]; exact hp) (fun h2 => ?_)
  rw [e]
  omega

theorem W_take {l : Int} {ps : List Pr} {k : Nat} {c : Int} (h : c < nw l k) : W l (ps.take k) c = W l ps c := by
  unfold W wb lkw
  split
  · rename_i h2
    rw [wordsL_take (by unfold nw at h; omega)]
  · rfl

theorem W_app {l : Int} {ps qs : List Pr} {c : Int} (h : c < nw l ps.length) : W l (ps ++ qs) c = W l ps c := by
  have := W_take (ps := ps ++ qs) h
  rwa [List.take_left' rfl, eq_comm] at this

theorem hw_pair {l : Int} {n c : Int} (h : hw l n c = true) (h2 : two l + 1 < c) : ∃ k : Nat, (k : Int) < n ∧ c = nw l k := by
  have := hw_iff.1 h
  exact ⟨(c - (two l + 1 + 1)).toNat, by omega, by unfold nw; omega⟩

theorem hw_nw {l : Int} {n k : Nat} (h : k < n) : hw l n (nw l k) = true := hw_iff.2 (by unfold nw; omega)

theorem W_pos {l : Int} {ps : List Pr} {c : Int} (hok : OKs l ps) (h : hw l ps.length c = true) : 1 ≤ (W l ps c).length := by
  by_cases h2 : two l + 1 < c
  · obtain ⟨k, hk, rfl⟩ := hw_pair h h2
    have hp : ps[k]? = some ps[k] := List.getElem?_eq_getElem (by omega)
    rw [W_pair hok hp]
    simp
  · rw [W_lit h2]; simp

/-- the word of a code that can follow -/
def anyW (l : Int) (ps : List Pr) (last c : Int) : List UInt8 := if c = nw l ps.length then W l ps last ++ (W l ps last).take 1 else W l ps c

def lits (l : Int) : List (List UInt8 × Int) := (List.range (two l).toNat).map fun i => ([UInt8.ofNat i], (i : Int))

def dadd (D : List (List UInt8 × Int)) (w : List UInt8) (c : Int) : List (List UInt8 × Int) := if w ∈ D.map (·.1) then D else D ++ [(w, c)]

/-- the different words of the literals and the first n pairs, with their least codes -/
def DD (l : Int) (ps : List Pr) : Nat → List (List UInt8 × Int)
  | 0 => lits l
  | n + 1 => dadd (DD l ps n) (W l ps (nw l n)) (nw l n)

theorem DD_take {l : Int} {ps : List Pr} {k : Nat} : ∀ {n : Nat}, n ≤ k → DD l (ps.take k) n = DD l ps n
  | 0, _ => rfl
  | n + 1, h => by
    show dadd _ _ _ = dadd _ _ _
    rw [DD_take (by omega), W_take (by unfold nw; omega)]

theorem DD_app {l : Int} {ps qs : List Pr} {n : Nat} (h : n ≤ ps.length) : DD l (ps ++ qs) n = DD l ps n := by
  have := DD_take (l := l) (ps := ps ++ qs) h
  rwa [List.take_left' rfl, eq_comm] at this

/-- what holds of the words and codes -/
structure DI (l : Int) (ps : List Pr) (D : List (List UInt8 × Int)) (n : Nat) : Prop where
  nodup : (D.map (·.1)).Nodup
  lit : ∀ i : Nat, (i : Int) < two l → D[i]? = some ([UInt8.ofNat i], (i : Int))
  len : two l ≤ D.length
  len2 : (D.length : Int) ≤ two l + n
  non : ∀ (i : Nat) w c, D[i]? = some (w, c) → two l ≤ (i : Int) → (nw l 0 ≤ c ∧ c < nw l n) ∧ W l ps c = w ∧ 2 ≤ w.length
  cov : ∀ c, hw l n c = true → ∃ (i : Nat) (c' : Int), D[i]? = some (W l ps c, c') ∧ c' ≤ c

theorem lits_len (l : Int) : (lits l).length = (two l).toNat := by simp [lits]

theorem lits_get {l : Int} {i : Nat} (h : (i : Int) < two l) : (lits l)[i]? = some ([UInt8.ofNat i], (i : Int)) := by
  simp [lits, show i < (two l).toNat by omega]

theorem ofNat_inj {a b : Nat} (ha : a < 256) (hb : b < 256) (h : UInt8.ofNat a = UInt8.ofNat b) : a = b := by
  have := congrArg UInt8.toNat h
  simp only [UInt8.toNat_ofNat'] at this
  omega

theorem DI.zero {l : Int} {ps : List Pr} (h0 : 2 ≤ two l) (h1 : two l ≤ 256) : DI l ps (lits l) 0 where
  nodup := by
    rw [show (lits l).map (·.1) = (List.range (two l).toNat).map fun i => [UInt8.ofNat i] by simp [lits]]
    rw [List.nodup_iff_pairwise_ne, List.pairwise_map]
    refine List.Pairwise.imp_of_mem ?_ (List.nodup_iff_pairwise_ne.1 List.nodup_range)
    intro a b ha hb hne he
    rw [List.mem_range] at ha hb
    exact hne (ofNat_inj (by omega) (by omega) (by simpa using he))
  lit := fun i h => lits_get h
  len := by rw [lits_len]; omega
  len2 := by rw [lits_len]; omega
  non := fun i w c h hi => by
    have := (List.getElem?_eq_some_iff.1 h).1
    rw [lits_len] at this
    omega
  cov := fun c h => by
    have := hw_iff.1 h
    refine ⟨c.toNat, c, ?_, Int.le_refl _⟩
    rw [lits_get (by omega), W_lit (by omega)]
    simp; omega

theorem DI.succ {l : Int} {ps : List Pr} {D : List (List UInt8 × Int)} {n : Nat} (h : DI l ps D n) (hok : OKs l ps) (hn : n < ps.length) (h0 : 2 ≤ two l) (h1 : two l ≤ 256) :
    DI l ps (dadd D (W l ps (nw l n)) (nw l n)) (n + 1) := by
  have hp : ps[n]? = some ps[n] := List.getElem?_eq_getElem hn
  have hpok := hok n _ hp
  have hsub : ∀ c, hw l (n + 1 : Nat) c = true → hw l n c = true ∨ c = nw l n := fun c hc => by
    have := hw_iff.1 hc
    by_cases e : c = nw l n
    · exact .inr e
    · exact .inl (hw_iff.2 (by unfold nw at e; omega))
  unfold dadd
  split
  · rename_i hmem
    refine ⟨h.nodup, h.lit, h.len, by have := h.len2; omega, fun i w c hi hl => ?_, fun c hc => ?_⟩
    · obtain ⟨⟨a1, a2⟩, a3⟩ := h.non i w c hi hl
      exact ⟨⟨a1, by unfold nw at *; omega⟩, a3⟩
    · rcases hsub c hc with h2 | rfl
      · exact h.cov c h2
      · rw [List.mem_map] at hmem
        obtain ⟨⟨w, c'⟩, hm, he⟩ := hmem
        simp only at he
        subst he
        obtain ⟨i, hi⟩ := List.getElem?_of_mem hm
        refine ⟨i, c', hi, ?_⟩
        by_cases hl : two l ≤ (i : Int)
        · have := (h.non i _ _ hi hl).1; omega
        · have := h.lit i (by omega)
          rw [this] at hi
          simp only [Option.some.injEq, Prod.mk.injEq] at hi
          unfold nw; omega
  · rename_i hmem
    refine ⟨?_, fun i hi => ?_, by have := h.len; simp; omega, by have := h.len2; simp; omega, fun i w c hi hl => ?_, fun c hc => ?_⟩
    · rw [List.map_append, List.map_cons, List.map_nil]
      exact List.nodup_append.2 ⟨h.nodup, by simp, fun a ha b hb e => by simp at hb; subst hb; exact hmem (e ▸ ha)⟩
    · have := h.len
      rw [List.getElem?_append_left (by omega)]; exact h.lit i hi
    · by_cases hlt : i < D.length
      · rw [List.getElem?_append_left hlt] at hi
        obtain ⟨⟨a1, a2⟩, a3⟩ := h.non i w c hi hl
        exact ⟨⟨a1, by unfold nw at *; omega⟩, a3⟩
      · rw [List.getElem?_append_right (by omega)] at hi
        have : i - D.length = 0 := by
          have := (List.getElem?_eq_some_iff.1 hi).1
          simp at this; omega
        rw [this] at hi
        simp at hi
        obtain ⟨rfl, rfl⟩ := hi
        refine ⟨⟨by unfold nw; omega, by unfold nw; omega⟩, rfl, ?_⟩
        rw [W_pair hok hp]
        have hq := hw_iff.1 hpok.1
        have := W_pos (l := l) (ps := ps) (c := ps[n].p) hok (hw_iff.2 (by omega))
        simp; omega
    · rcases hsub c hc with h2 | rfl
      · obtain ⟨i, c', hi, hc'⟩ := h.cov c h2
        have := (List.getElem?_eq_some_iff.1 hi).1
        exact ⟨i, c', by rw [List.getElem?_append_left this]; exact hi, hc'⟩
      · exact ⟨D.length, nw l n, by simp, Int.le_refl _⟩

theorem DI_all {l : Int} {ps : List Pr} (hok : OKs l ps) (h0 : 2 ≤ two l) (h1 : two l ≤ 256) : ∀ {n : Nat}, n ≤ ps.length → DI l ps (DD l ps n) n
  | 0, _ => DI.zero h0 h1
  | n + 1, h => (DI_all hok h0 h1 (by omega)).succ hok (by omega) h0 h1

theorem DI.same {l : Int} {ps : List Pr} {D : List (List UInt8 × Int)} {n : Nat} (h : DI l ps D n) {i j : Nat} {w : List UInt8} {c c' : Int} (hi : D[i]? = some (w, c)) (hj : D[j]? = some (w, c')) : i = j ∧ c = c' := by
  have hij : i = j := by
    have h1 : (D.map (·.1))[i]? = some w := by rw [List.getElem?_map, hi]; rfl
    have h2 : (D.map (·.1))[j]? = some w := by rw [List.getElem?_map, hj]; rfl
    exact (List.getElem?_inj (by simpa using (List.getElem?_eq_some_iff.1 hi).1) h.nodup).1 (by rw [h1, h2])
  subst hij
  rw [hi] at hj
  cases hj
  exact ⟨rfl, rfl⟩

/-- an entry's code is that of a word, and the least one -/
theorem DI.code {l : Int} {ps : List Pr} {D : List (List UInt8 × Int)} {n : Nat} (h : DI l ps D n) {i : Nat} {w : List UInt8} {c : Int} (hi : D[i]? = some (w, c)) :
    hw l n c = true ∧ W l ps c = w ∧ ∀ c', hw l n c' = true → W l ps c' = w → c ≤ c' := by
  refine ⟨?_, ?_, fun c' hc' he => ?_⟩
  · by_cases hl : two l ≤ (i : Int)
    · have := (h.non i w c hi hl).1
      exact hw_iff.2 (by unfold nw at this; omega)
    · rw [h.lit i (by omega)] at hi
      cases hi
      exact hw_iff.2 (by omega)
  · by_cases hl : two l ≤ (i : Int)
    · exact (h.non i w c hi hl).2.1
    · rw [h.lit i (by omega)] at hi
      cases hi
      rw [W_lit (by omega)]
      simp
  · obtain ⟨j, c'', hj, hle⟩ := h.cov c' hc'
    rw [he] at hj
    obtain ⟨_, rfl⟩ := h.same hi hj
    exact hle

theorem DI.pos {l : Int} {ps : List Pr} {D : List (List UInt8 × Int)} {n : Nat} (h : DI l ps D n) {i : Nat} {w : List UInt8} {c : Int} (hi : D[i]? = some (w, c)) : 1 ≤ w.length := by
  by_cases hl : two l ≤ (i : Int)
  · have := (h.non i w c hi hl).2.2; omega
  · rw [h.lit i (by omega)] at hi
    cases hi
    simp

/-! ### Nodes -/

structure Nd where
  parent : Int
  child : Int
  next : Int
  last : Int
  first : Int
  code : Int

/-- the last one below n of those whose parent is p, or -1 -/
def lastKid (f : Nat → Option Int) (p : Int) : Nat → Int
  | 0 => -1
  | n + 1 => if f n = some p then (n : Int) else lastKid f p n

theorem lastKid_congr {f g : Nat → Option Int} {p : Int} : ∀ {n : Nat}, (∀ j, j < n → f j = g j) → lastKid f p n = lastKid g p n
  | 0, _ => rfl
  | n + 1, h => by
    unfold lastKid
    rw [h n (by omega), lastKid_congr (n := n) fun j hj => h j (by omega)]

theorem lastKid_spec (f : Nat → Option Int) (p : Int) : ∀ n : Nat, (lastKid f p n = -1 ∧ ∀ j, j < n → f j ≠ some p) ∨ (∃ k : Nat, lastKid f p n = k ∧ k < n ∧ f k = some p ∧ ∀ j, k < j → j < n → f j ≠ some p)
  | 0 => .inl ⟨rfl, fun j h => by omega⟩
  | n + 1 => by
    unfold lastKid
    by_cases h : f n = some p
    · rw [if_pos h]
      exact .inr ⟨n, rfl, by omega, h, fun j h1 h2 => by omega⟩
    · rw [if_neg h]
      rcases lastKid_spec f p n with ⟨h1, h2⟩ | ⟨k, h1, h2, h3, h4⟩
      · exact .inl ⟨h1, fun j hj => by
          by_cases e : j = n
          · subst e; exact h
          · exact h2 j (by omega)⟩
      · exact .inr ⟨k, h1, by omega, h3, fun j q1 q2 => by
          by_cases e : j = n
          · subst e; exact h
          · exact h4 j q1 (by omega)⟩

def par (N : List Nd) (j : Nat) : Option Int := (N[j]?).map (·.parent)

def hd (w : List UInt8) : Int := ((w.head?).getD 0).toNat

theorem hd_bd (w : List UInt8) : 0 ≤ hd w ∧ hd w ≤ 255 := by
  unfold hd
  have := ((w.head?).getD 0).toNat_lt
  omega

/-- the nodes N are the tree of the words D -/
structure TN (l : Int) (D : List (List UInt8 × Int)) (N : List Nd) : Prop where
  len : N.length = D.length
  nd : ∀ (i : Nat) (d : Nd), N[i]? = some d → ∃ w c, D[i]? = some (w, c) ∧ d.code = c ∧ d.first = hd w ∧ d.child = lastKid (par N) i N.length ∧ (0 ≤ d.last ∧ d.last ≤ 255) ∧
    (((i : Int) < two l ∧ d.parent = -1 ∧ d.next = -1) ∨
      (two l ≤ (i : Int) ∧ 0 ≤ d.parent ∧ d.parent < i ∧ (∃ wp cp, D[d.parent.toNat]? = some (wp, cp) ∧ w = wp ++ [UInt8.ofNat d.last.toNat]) ∧ d.next = lastKid (par N) d.parent i))

theorem par_some {N : List Nd} {j : Nat} {d : Nd} (h : N[j]? = some d) : par N j = some d.parent := by simp [par, h]

theorem par_inv {N : List Nd} {j : Nat} {p : Int} (h : par N j = some p) : ∃ d, N[j]? = some d ∧ d.parent = p := by
  unfold par at h
  cases hn : N[j]? with
  | none => rw [hn] at h; cases h
  | some d => rw [hn] at h; exact ⟨d, rfl, by simpa using h⟩

/-- on the way along the children of p, looking for the byte b: at n -/
def Seek (N : List Nd) (p b n : Int) : Prop := ∃ k : Nat, k ≤ N.length ∧ n = lastKid (par N) p k ∧ ∀ (j : Nat) d, k ≤ j → N[j]? = some d → d.parent = p → d.last ≠ b

/-- the child of p with the byte b, or -1 -/
def Kid (N : List Nd) (p b r : Int) : Prop := (r = -1 ∧ ∀ (j : Nat) d, N[j]? = some d → d.parent = p → d.last ≠ b) ∨ (0 ≤ r ∧ ∃ d, N[r.toNat]? = some d ∧ d.parent = p ∧ d.last = b)

theorem Seek.start {l : Int} {D : List (List UInt8 × Int)} {N : List Nd} (h : TN l D N) {i : Nat} {d : Nd} (hd : N[i]? = some d) (b : Int) : Seek N i b d.child := by
  obtain ⟨w, c, _, _, _, h4, _⟩ := h.nd i d hd
  exact ⟨N.length, Nat.le_refl _, h4, fun j d' hj hj' => by
    have := (List.getElem?_eq_some_iff.1 hj').1
    omega⟩

theorem Seek.none {N : List Nd} {p b n : Int} (h : Seek N p b n) (hn : n < 0) : Kid N p b (-1) ∧ n = -1 := by
  obtain ⟨k, hk, rfl, h2⟩ := h
  rcases lastKid_spec (par N) p k with ⟨h1, h3⟩ | ⟨j, h1, _⟩
  · refine ⟨.inl ⟨rfl, fun j d hj hp => ?_⟩, h1⟩
    rcases Nat.lt_or_ge j k with h | h
    · exact absurd (by rw [par_some hj, hp]) (h3 j h)
    · exact h2 j d h hj hp
  · omega

theorem Seek.at {N : List Nd} {p b n : Int} (h : Seek N p b n) (hn : 0 ≤ n) : ∃ d, N[n.toNat]? = some d ∧ d.parent = p := by
  obtain ⟨k, hk, rfl, h2⟩ := h
  rcases lastKid_spec (par N) p k with ⟨h1, h3⟩ | ⟨j, h1, h3, h4, h5⟩
  · omega
  · obtain ⟨d, hd, hp⟩ := par_inv h4
    exact ⟨d, by rw [h1]; simpa using hd, hp⟩

theorem Seek.found {N : List Nd} {p b n : Int} (h : Seek N p b n) (hn : 0 ≤ n) {d : Nd} (hd : N[n.toNat]? = some d) (hb : d.last = b) : Kid N p b n := by
  obtain ⟨d', hd', hp⟩ := h.at hn
  rw [hd] at hd'
  cases hd'
  exact .inr ⟨hn, d, hd, hp, hb⟩

theorem Seek.next {l : Int} {D : List (List UInt8 × Int)} {N : List Nd} (ht : TN l D N) {p b n : Int} (h : Seek N p b n) (hp0 : 0 ≤ p) (hn : 0 ≤ n) {d : Nd} (hd : N[n.toNat]? = some d) (hb : d.last ≠ b) :
    Seek N p b d.next ∧ d.next < n := by
  obtain ⟨d', hd', hp⟩ := h.at hn
  rw [hd] at hd'
  cases hd'
  obtain ⟨k, hk, hnk, h2⟩ := h
  obtain ⟨w, c, _, _, _, _, _, h6⟩ := ht.nd _ _ hd
  have hnext : d.next = lastKid (par N) p n.toNat := by
    rcases h6 with ⟨_, h6, _⟩ | ⟨_, _, _, _, h6⟩
    · omega
    · rw [h6, hp]
  have hlt : d.next < n := by
    rw [hnext]
    rcases lastKid_spec (par N) p n.toNat with ⟨h1, _⟩ | ⟨j, h1, h3, _⟩ <;> omega
  refine ⟨⟨n.toNat, by have := (List.getElem?_eq_some_iff.1 hd).1; omega, hnext, fun j d2 hj hj2 hp2 => ?_⟩, hlt⟩
  rcases lastKid_spec (par N) p k with ⟨h1, h3⟩ | ⟨j0, h1, h3, h4, h5⟩
  · omega
  · have e : n.toNat = j0 := by omega
    by_cases e2 : j = n.toNat
    · subst e2
      rw [hd] at hj2
      cases hj2
      exact hb
    · rcases Nat.lt_or_ge j k with h | h
      · exact absurd (by rw [par_some hj2, hp2]) (h5 j (by omega) h)
      · exact h2 j d2 h hj2 hp2

/-- the child's word -/
theorem Kid.word {l : Int} {ps : List Pr} {D : List (List UInt8 × Int)} {n : Nat} {N : List Nd} (hD : DI l ps D n) (ht : TN l D N) {p b r : Int} (h : Kid N p b r) (hp0 : 0 ≤ p) (hb0 : 0 ≤ b) (hb1 : b ≤ 255)
    {wp : List UInt8} {cp : Int} (hp : D[p.toNat]? = some (wp, cp)) :
    (r = -1 ∧ wp ++ [UInt8.ofNat b.toNat] ∉ D.map (·.1)) ∨ (0 ≤ r ∧ ∃ c, D[r.toNat]? = some (wp ++ [UInt8.ofNat b.toNat], c)) := by
  rcases h with ⟨rfl, h⟩ | ⟨hr, d, hd, h1, h2⟩
  · refine .inl ⟨rfl, fun hm => ?_⟩
    rw [List.mem_map] at hm
    obtain ⟨⟨w, c⟩, hm, he⟩ := hm
    simp only at he
    obtain ⟨j, hj⟩ := List.getElem?_of_mem hm
    have hjl : j < N.length := by rw [ht.len]; exact (List.getElem?_eq_some_iff.1 hj).1
    have hnj : N[j]? = some N[j] := List.getElem?_eq_getElem hjl
    obtain ⟨w', c', h1, _, _, _, ⟨hl0, hl1⟩, h3⟩ := ht.nd j _ hnj
    rw [hj] at h1
    simp only [Option.some.injEq, Prod.mk.injEq] at h1
    obtain ⟨rfl, rfl⟩ := h1
    rcases h3 with ⟨h4, _⟩ | ⟨_, h4, _, ⟨wp', cp', h5, h6⟩, _⟩
    · have h5 := hD.lit j h4
      rw [hj] at h5
      simp only [Option.some.injEq, Prod.mk.injEq] at h5
      have hpos := hD.pos hp
      have := congrArg List.length (he.symm.trans h5.1)
      simp at this
      subst this
      simp at hpos
    · rw [he] at h6
      have h7 := List.append_inj' h6 rfl
      obtain ⟨h8, h9⟩ := h7
      subst h8
      obtain ⟨h10, _⟩ := hD.same hp h5
      simp only [List.cons.injEq, and_true] at h9
      have := ofNat_inj (by omega) (by omega) h9
      exact h j _ hnj (by omega) (by omega)
  · obtain ⟨w', c', e1, _, _, _, _, e3⟩ := ht.nd _ _ hd
    rcases e3 with ⟨_, e4, _⟩ | ⟨_, _, _, ⟨wp', cp', e5, e6⟩, _⟩
    · omega
    · rw [h1, hp] at e5
      cases e5
      rw [h2] at e6
      subst e6
      exact .inr ⟨hr, c', e1⟩

/-- a node more below p -/
def pushN (N : List Nd) (p b c : Int) (up : Nd) : List Nd := (N ++ [(Nd.mk p (-1) up.child b up.first c)]).set p.toNat { up with child := N.length }

theorem push_get {N : List Nd} {p b c : Int} {up : Nd} (hp0 : 0 ≤ p) (hup : N[p.toNat]? = some up) (j : Nat) :
    (pushN N p b c up)[j]? = if j = p.toNat then some { up with child := N.length } else if j = N.length then some (Nd.mk p (-1) up.child b up.first c) else N[j]? := by
  have hlt := (List.getElem?_eq_some_iff.1 hup).1
  unfold pushN
  rw [List.getElem?_set]
  by_cases h1 : p.toNat = j
  · subst h1
    rw [if_pos rfl, if_pos (by simp; omega), if_pos rfl]
  · rw [if_neg h1, if_neg (fun e => h1 e.symm)]
    by_cases h2 : j = N.length
    · subst h2; simp
    · rw [if_neg h2]
      by_cases h3 : j < N.length
      · rw [List.getElem?_append_left h3]
      · rw [List.getElem?_eq_none (by simp; omega), List.getElem?_eq_none (by omega)]

theorem push_par {N : List Nd} {p b c : Int} {up : Nd} (hp0 : 0 ≤ p) (hup : N[p.toNat]? = some up) (j : Nat) : par (pushN N p b c up) j = if j = N.length then some p else par N j := by
  have hlt := (List.getElem?_eq_some_iff.1 hup).1
  unfold par
  rw [push_get hp0 hup]
  by_cases h1 : j = p.toNat
  · subst h1
    rw [if_pos rfl, if_neg (by omega), hup]; rfl
  · rw [if_neg h1]
    by_cases h2 : j = N.length
    · rw [if_pos h2, if_pos h2]; rfl
    · rw [if_neg h2, if_neg h2]

theorem tn_push {l : Int} {ps : List Pr} {D : List (List UInt8 × Int)} {n : Nat} {N : List Nd} (hD : DI l ps D n) (ht : TN l D N) {p b c : Int} {up : Nd} (hp0 : 0 ≤ p) (hup : N[p.toNat]? = some up) (hb0 : 0 ≤ b) (hb1 : b ≤ 255)
    {wp : List UInt8} {cp : Int} (hp : D[p.toNat]? = some (wp, cp)) : TN l (D ++ [(wp ++ [UInt8.ofNat b.toNat], c)]) (pushN N p b c up) := by
  have hlt := (List.getElem?_eq_some_iff.1 hup).1
  have hlen : (pushN N p b c up).length = N.length + 1 := by simp [pushN]
  have hk : ∀ (q : Int) (j : Nat), j ≤ N.length → lastKid (par (pushN N p b c up)) q j = lastKid (par N) q j := fun q j hj =>
    lastKid_congr fun i hi => by rw [push_par hp0 hup, if_neg (by omega)]
  have hk1 : ∀ q : Int, lastKid (par (pushN N p b c up)) q (N.length + 1) = if q = p then (N.length : Int) else lastKid (par N) q N.length := fun q => by
    conv => lhs; unfold lastKid
    rw [push_par hp0 hup, if_pos rfl, hk q _ (Nat.le_refl _)]
    by_cases e : q = p
    · rw [if_pos (by rw [e]), if_pos e]
    · rw [if_neg (by simpa using fun h => e h.symm), if_neg e]
  have hDl : ∀ {i : Nat} {x : List UInt8 × Int}, D[i]? = some x → (D ++ [(wp ++ [UInt8.ofNat b.toNat], c)])[i]? = some x := fun {i x} hi => by
    rw [List.getElem?_append_left (List.getElem?_eq_some_iff.1 hi).1]; exact hi
  refine ⟨by rw [hlen, ht.len]; simp, fun i d hi => ?_⟩
  rw [push_get hp0 hup] at hi
  rw [hlen]
  by_cases h1 : i = p.toNat
  · subst h1
    rw [if_pos rfl] at hi
    cases hi
    obtain ⟨w, c', e1, e2, e3, e4, e5, e6⟩ := ht.nd _ _ hup
    refine ⟨w, c', hDl e1, e2, e3, ?_, e5, ?_⟩
    · rw [hk1, if_pos (by omega)]
    · rcases e6 with e6 | ⟨q1, q2, q3, ⟨wq, cq, q4, q5⟩, q6⟩
      · exact .inl e6
      · exact .inr ⟨q1, q2, q3, ⟨wq, cq, hDl q4, q5⟩, by rw [hk _ _ (by omega)]; exact q6⟩
  · rw [if_neg h1] at hi
    by_cases h2 : i = N.length
    · subst h2
      rw [if_pos rfl] at hi
      cases hi
      obtain ⟨w, c', e1, e2, e3, e4, e5, e6⟩ := ht.nd _ _ hup
      rw [hp] at e1
      cases e1
      refine ⟨_, c, by rw [ht.len]; simp, rfl, ?_, ?_, ⟨hb0, hb1⟩, .inr ⟨?_, hp0, by show p < _; omega, ⟨wp, cp, hDl hp, rfl⟩, ?_⟩⟩
      · rw [e3]
        unfold hd
        have hpos := hD.pos hp
        cases wp with
        | nil => simp at hpos
        | cons x xs => rfl
      · rw [hk1, if_neg (by omega)]
        rcases lastKid_spec (par N) (N.length : Int) N.length with ⟨h, _⟩ | ⟨k, _, h2, h3, _⟩
        · exact h.symm
        · exfalso
          obtain ⟨d, hd, hdp⟩ := par_inv h3
          obtain ⟨_, _, _, _, _, _, _, e7⟩ := ht.nd _ _ hd
          rcases e7 with ⟨_, e7, _⟩ | ⟨_, _, e7, _⟩ <;> omega
      · have := hD.len; rw [ht.len]; exact this
      · rw [hk _ _ (Nat.le_refl _), e4]
        rw [show ((p.toNat : Nat) : Int) = p by omega]
    · rw [if_neg h2] at hi
      have hil := (List.getElem?_eq_some_iff.1 hi).1
      obtain ⟨w, c', e1, e2, e3, e4, e5, e6⟩ := ht.nd _ _ hi
      refine ⟨w, c', hDl e1, e2, e3, ?_, e5, ?_⟩
      · rw [hk1, if_neg (by omega)]; exact e4
      · rcases e6 with e6 | ⟨q1, q2, q3, ⟨wq, cq, q4, q5⟩, q6⟩
        · exact .inl e6
        · exact .inr ⟨q1, q2, q3, ⟨wq, cq, hDl q4, q5⟩, by rw [hk _ _ (by omega)]; exact q6⟩

/-- the nodes of the pairs -/
def PN (l : Int) (ps : List Pr) (D : List (List UInt8 × Int)) (pn : List Int) : Prop := ∀ (j : Nat) (i : Int), pn[j]? = some i → 0 ≤ i ∧ ∃ c, D[i.toNat]? = some (W l ps (nw l j), c)

/-- nodes N and pairs' nodes pn are the tree of the pairs ps -/
structure TI (l : Int) (ps : List Pr) (N : List Nd) (pn : List Int) : Prop where
  tn : TN l (DD l ps ps.length) N
  len : pn.length = ps.length
  pn : PN l ps (DD l ps ps.length) pn

/-- the node of a code -/
theorem TI.node {l : Int} {ps : List Pr} {N : List Nd} {pn : List Int} (h : TI l ps N pn) (hD : DI l ps (DD l ps ps.length) ps.length) {c : Int} (hc : hw l ps.length c = true) :
    (¬ two l + 1 < c ∧ 0 ≤ c ∧ ∃ c', (DD l ps ps.length)[c.toNat]? = some (W l ps c, c')) ∨
    (two l + 1 < c ∧ ∃ i, pn[(c - (two l + 1)).toNat - 1]? = some i ∧ 0 ≤ i ∧ ∃ c', (DD l ps ps.length)[i.toNat]? = some (W l ps c, c')) := by
  have h1 := hw_iff.1 hc
  by_cases h2 : two l + 1 < c
  · obtain ⟨k, hk, rfl⟩ := hw_pair hc h2
    have e : (nw l k - (two l + 1)).toNat - 1 = k := by unfold nw; omega
    rw [e]
    have hkl : k < pn.length := by rw [h.len]; omega
    have hp : pn[k]? = some (pn[k]'hkl) := List.getElem?_eq_getElem hkl
    exact .inr ⟨h2, _, hp, h.pn k _ hp⟩
  · refine .inl ⟨h2, by omega, c, ?_⟩
    rw [hD.lit c.toNat (by omega), W_lit h2]
    simp; omega

theorem OKs.snoc {l : Int} {ps : List Pr} {p : Pr} (h : OKs l ps) (hp : okP l ps.length p) : OKs l (ps ++ [p]) := fun j q hj => by
  by_cases h1 : j < ps.length
  · rw [List.getElem?_append_left h1] at hj; exact h j q hj
  · rw [List.getElem?_append_right (by omega)] at hj
    have : j - ps.length = 0 := by
      have := (List.getElem?_eq_some_iff.1 hj).1
      simp at this; omega
    rw [this] at hj
    simp at hj
    subst hj
    rw [show j = ps.length by omega]; exact hp

theorem OKs.take {l : Int} {ps : List Pr} (h : OKs l ps) (k : Nat) : OKs l (ps.take k) := fun j q hj => by
  rw [List.getElem?_take] at hj
  split at hj
  · exact h j q hj
  · cases hj

theorem DD_snoc {l : Int} {ps : List Pr} {p : Pr} (hok : OKs l (ps ++ [p])) : DD l (ps ++ [p]) (ps ++ [p]).length = dadd (DD l ps ps.length) (W l ps p.p ++ [UInt8.ofNat p.b.toNat]) (nw l ps.length) := by
  have hp : (ps ++ [p])[ps.length]? = some p := by simp
  have h1 := hw_iff.1 (hok _ _ hp).1
  rw [show (ps ++ [p]).length = ps.length + 1 by simp]
  show dadd _ _ _ = _
  rw [DD_app (Nat.le_refl _), W_pair hok hp, W_app (by unfold nw; omega)]

theorem PN.mono {l : Int} {ps : List Pr} {D : List (List UInt8 × Int)} {pn : List Int} (h : PN l ps D pn) (hlen : pn.length = ps.length) {p : Pr} {D' : List (List UInt8 × Int)} (hD : ∀ (i : Nat) x, D[i]? = some x → D'[i]? = some x) {r : Int} (hr : 0 ≤ r)
    (hr2 : ∃ c, D'[r.toNat]? = some (W l (ps ++ [p]) (nw l ps.length), c)) : PN l (ps ++ [p]) D' (pn ++ [r]) := fun j i hj => by
  by_cases h1 : j < pn.length
  · rw [List.getElem?_append_left h1] at hj
    obtain ⟨q1, c, q2⟩ := h j i hj
    exact ⟨q1, c, by rw [W_app (by unfold nw; omega)]; exact hD _ _ q2⟩
  · rw [List.getElem?_append_right (by omega)] at hj
    have : j - pn.length = 0 := by
      have := (List.getElem?_eq_some_iff.1 hj).1
      simp at this; omega
    rw [this] at hj
    simp at hj
    subst hj
    rw [show j = ps.length by omega]
    exact ⟨hr, hr2⟩

/-- a pair learned whose word is there already -/
theorem TI.old {l : Int} {ps : List Pr} {N : List Nd} {pn : List Int} {p : Pr} (h : TI l ps N pn) (hok : OKs l (ps ++ [p])) {r c : Int} (hr : 0 ≤ r) (hr2 : (DD l ps ps.length)[r.toNat]? = some (W l ps p.p ++ [UInt8.ofNat p.b.toNat], c)) :
    TI l (ps ++ [p]) N (pn ++ [r]) := by
  have hp : (ps ++ [p])[ps.length]? = some p := by simp
  have h1 := hw_iff.1 (hok _ _ hp).1
  have hm : W l ps p.p ++ [UInt8.ofNat p.b.toNat] ∈ (DD l ps ps.length).map (·.1) := List.mem_map.2 ⟨_, List.mem_of_getElem? hr2, rfl⟩
  have hD : DD l (ps ++ [p]) (ps ++ [p]).length = DD l ps ps.length := by rw [DD_snoc hok]; unfold dadd; rw [if_pos hm]
  refine ⟨by rw [hD]; exact h.tn, by simp [h.len], ?_⟩
  rw [hD]
  exact h.pn.mono h.len (fun i x hx => hx) hr ⟨c, by rw [W_pair hok hp, W_app (by unfold nw; omega)]; exact hr2⟩

/-- a pair learned whose word is new -/
theorem TI.new {l : Int} {ps : List Pr} {N : List Nd} {pn : List Int} {p : Pr} (h : TI l ps N pn) (hok : OKs l (ps ++ [p])) (hD : DI l ps (DD l ps ps.length) ps.length) (h256 : two l ≤ 256) {q cq : Int} {up : Nd} (hq : 0 ≤ q) (hup : N[q.toNat]? = some up)
    (hqw : (DD l ps ps.length)[q.toNat]? = some (W l ps p.p, cq)) (hno : W l ps p.p ++ [UInt8.ofNat p.b.toNat] ∉ (DD l ps ps.length).map (·.1)) :
    TI l (ps ++ [p]) (pushN N q p.b (nw l ps.length) up) (pn ++ [(N.length : Int)]) := by
  have hp : (ps ++ [p])[ps.length]? = some p := by simp
  have hpo := hok _ _ hp
  have h1 := hw_iff.1 hpo.1
  have hb1 : p.b ≤ 255 := by have := hpo.2.2; omega
  have hDe : DD l (ps ++ [p]) (ps ++ [p]).length = DD l ps ps.length ++ [(W l ps p.p ++ [UInt8.ofNat p.b.toNat], nw l ps.length)] := by rw [DD_snoc hok]; unfold dadd; rw [if_neg hno]
  refine ⟨?_, by simp [h.len], ?_⟩
  · rw [hDe]
    exact tn_push hD h.tn hq hup hpo.2.1 hb1 hqw
  · rw [hDe]
    refine h.pn.mono h.len (fun i x hx => by rw [List.getElem?_append_left (List.getElem?_eq_some_iff.1 hx).1]; exact hx) (by omega) ⟨nw l ps.length, ?_⟩
    rw [W_pair hok hp, W_app (by unfold nw; omega), h.tn.len]
    simp

end Go.Proofs.YtmddcbebaijjkaaDoor

/- Regions that draw their order, by a plan in two phases: the world's class is asked for in the first phase alone; the second waits for all of the first. -/
namespace Go.Proofs.YtmddcbebaijjkaaDoor
open Go.RowKit
set_option linter.unusedVariables false
set_option linter.unusedSimpArgs false

section
variable {P : Program} {ops : Array Oper} {md : Region.Mode} {S : World → Prop} {Q : Exit → Act → World → Prop} {n0 : Nat}

/-- whatever order is picked; the class holds behind each operation of the first phase -/
def wpAnyT (P : Program) (md : Region.Mode) (ops : Array Oper) (Q : Exit → Act → World → Prop) (S : World → Prop) (n0 : Nat) : Nat → Array Bool → Act → World → Prop
  | 0, listed, a, w => Region.ready md ops listed = [] ∧ Q .normal a w
  | f + 1, listed, a, w => (Region.ready md ops listed = [] → Q .normal a w) ∧
    ∀ i ∈ Region.ready md ops listed, wpOp P ops Q i (fun a' w' => (i < n0 → S w') ∧ wpAnyT P md ops Q S n0 f (listed.setIfInBounds i true) a' w') a w

theorem wpAny_of_T : ∀ (f : Nat) (listed : Array Bool) (a : Act) (w : World), wpAnyT P md ops Q S n0 f listed a w → wpAny P md ops Q f listed a w
  | 0, _, _, _, h => h
  | f + 1, _, _, _, h => ⟨h.1, fun i hi => wpOp_mono (fun a' w' h' => wpAny_of_T f _ a' w' h'.2) (h.2 i hi)⟩

/-- each operation from n0 on waits for each below -/
def lateB (md : Region.Mode) (ops : Array Oper) (n0 : Nat) : Bool :=
  (List.range ops.size).all fun j => decide (j < n0) || (List.range n0).all fun i => match ops[j]? with
    | some o => o.after.any fun e => Region.binds md e && e.on == i
    | none => true

theorem late_waits (h : lateB md ops n0 = true) {i j : Nat} (hi : i < n0) (hj : n0 ≤ j) {listed : Array Bool} (hr : j ∈ Region.ready md ops listed) : listed.getD i false = true := by
  obtain ⟨_, o, ho, hall⟩ := mem_ready.1 hr
  have hs : j < ops.size := (Array.getElem?_eq_some_iff.1 ho).1
  simp only [lateB, List.all_eq_true, List.mem_range, Bool.or_eq_true, decide_eq_true_eq] at h
  rcases h j hs with h1 | h1
  · omega
  · have h2 := h1 i hi
    simp only [ho] at h2
    obtain ⟨e, he, hb⟩ := Array.any_eq_true'.1 h2
    simp only [Bool.and_eq_true, beq_iff_eq] at hb
    have := hall e he hb.1
    rwa [hb.2] at this

/-- a quiet operation of the first phase may be taken first -/
theorem wpAnyT_first {i : Nat} {oi : Oper} {v : Value} (hi : ops[i]? = some oi) (hin : i < n0) (hl : lateB md ops n0 = true) (hs : Region.noSelect ops = true) (hQ : ∀ c a w, Q (.panic c) (a.put oi.dst v) w → Q (.panic c) a w) :
    ∀ (f : Nat) (listed : Array Bool) (a : Act) (w : World), Region.free md ops listed i = true → i ∈ Region.ready md ops listed → YieldsIf P ops S oi v a → S w →
      wpAnyT P md ops Q S n0 f (listed.setIfInBounds i true) (a.put oi.dst v) w → wpAnyT P md ops Q S n0 (f + 1) listed a w := by
  have key : ∀ (f : Nat) (listed : Array Bool) (a : Act) (w : World),
      (∀ j oj, ops[j]? = some oj → j ≠ i → listed.getD j true = false → (∀ e ∈ oj.after, Region.binds md e = true → e.on ≠ i) → oi.apart ops oj = true) →
      i ∈ Region.ready md ops listed → YieldsIf P ops S oi v a → S w →
      wpAnyT P md ops Q S n0 f (listed.setIfInBounds i true) (a.put oi.dst v) w → wpAnyT P md ops Q S n0 (f + 1) listed a w := by
    intro f
    induction f with
    | zero =>
      intro listed a w _ hr hy hS H
      refine ⟨fun h => (by rw [h] at hr; cases hr), fun j hj => ?_⟩
      by_cases hji : j = i
      · subst hji; exact hy.wpOp hi hS ⟨fun _ => hS, H⟩
      · have := ready_mono hj hji
        rw [H.1] at this
        cases this
    | succ f ih =>
      intro listed a w hfree hr hy hS H
      refine ⟨fun h => (by rw [h] at hr; cases hr), fun j hj => ?_⟩
      by_cases hji : j = i
      · subst hji; exact hy.wpOp hi hS ⟨fun _ => hS, H⟩
      · have hun := (mem_ready.1 hr).1
        have hi2 : listed.getD i false = false := by
          rcases Nat.lt_or_ge i listed.size with h' | h'
          · simp [h'] at hun ⊢; exact hun
          · simp [Array.getElem?_eq_none h'] at hun
        have hjn : j < n0 := by
          rcases Nat.lt_or_ge j n0 with h | h
          · exact h
          · rw [late_waits hl hin h hj] at hi2; cases hi2
        obtain ⟨hjun, oj, hoj, hall⟩ := mem_ready.1 hj
        have hnot : ∀ e ∈ oj.after, Region.binds md e = true → e.on ≠ i := fun e he hb heq => by
          have := hall e he hb
          rw [heq, hi2] at this
          cases this
        refine wpOp_mono (fun a' w' h3 => ⟨fun _ => h3.2.1 hjn, ih (listed.setIfInBounds j true) a' w' (fun k ok hk hki hunk hno => hfree k ok hk hki ?_ hno) (ready_mono hr (Ne.symm hji)) h3.1 (h3.2.1 hjn) ?_⟩)
          (wpOp_putIf hoj (hfree j oj hoj hji hjun hnot) (fun cs b => Region.noSelect_spec hs i oi cs b hi) (fun cs b => Region.noSelect_spec hs j oj cs b hoj) hQ hy (H.2 j (ready_mono hj hji)))
        · by_cases hjk : j = k
          · subst hjk; exact hjun
          · rw [getD_set_ne true hjk] at hunk; exact hunk
        · rw [Array.setIfInBounds_comm _ _ hji]
          exact h3.2.2
  exact fun f listed a w hf hr hy hS H => key f listed a w (Region.free_spec hi hf) hr hy hS H

def wpPt (P : Program) (ops : Array Oper) (S : World → Prop) (n0 : Nat) (Q : Exit → Act → World → Prop) : Plan → Act → World → Prop
  | .done, a, w => Q .normal a w
  | .quiet k p, a, w => ∃ o v, ops[k]? = some o ∧ YieldsIf P ops S o v a ∧ wpPt P ops S n0 Q p (a.put o.dst v) w
  | .one k p, a, w => wpOp P ops Q k (fun a' w' => (k < n0 → S w') ∧ wpPt P ops S n0 Q p a' w') a w
  | .two k1 p1 k2 p2, a, w => wpOp P ops Q k1 (fun a' w' => (k1 < n0 → S w') ∧ wpPt P ops S n0 Q p1 a' w') a w ∧ wpOp P ops Q k2 (fun a' w' => (k2 < n0 → S w') ∧ wpPt P ops S n0 Q p2 a' w') a w

/-- 'ph': the first phase is not yet over -/
def ptB (md : Region.Mode) (ops : Array Oper) (n0 : Nat) : Plan → Array Bool → Bool
  | .done, listed => (Region.ready md ops listed).isEmpty
  | .quiet k p, listed => decide (k < n0) && (Region.ready md ops listed).contains k && Region.free md ops listed k && ptB md ops n0 p (listed.setIfInBounds k true)
  | .one k p, listed => decide (Region.ready md ops listed = [k]) && ptB md ops n0 p (listed.setIfInBounds k true)
  | .two k1 p1 k2 p2, listed => decide (Region.ready md ops listed = [k1, k2]) && decide (p1.len = p2.len) && ptB md ops n0 p1 (listed.setIfInBounds k1 true) && ptB md ops n0 p2 (listed.setIfInBounds k2 true)

/-- the class holds, or the first phase is over -/
def Still (md : Region.Mode) (ops : Array Oper) (S : World → Prop) (n0 : Nat) (listed : Array Bool) (w : World) : Prop := S w ∨ ∀ i, i < n0 → listed.getD i false = true

theorem wpAnyT_plan (hs : Region.noSelect ops = true) (hl : lateB md ops n0 = true) (hQ : ∀ c (a : Act) d v w, Q (.panic c) (a.put d v) w → Q (.panic c) a w) :
    ∀ (p : Plan) (listed : Array Bool) (a : Act) (w : World), ptB md ops n0 p listed = true → Still md ops S n0 listed w → wpPt P ops S n0 Q p a w → wpAnyT P md ops Q S n0 p.len listed a w
  | .done, _, _, _, hB, _, h => ⟨by simpa [ptB] using hB, h⟩
  | .quiet k p, listed, a, w, hB, hS, h => by
    simp only [ptB, Bool.and_eq_true, decide_eq_true_eq] at hB
    obtain ⟨⟨⟨hk, hr⟩, hf⟩, hB'⟩ := hB
    obtain ⟨o, v, h0, hy, hK⟩ := h
    have hr' : k ∈ Region.ready md ops listed := by simpa using hr
    have hSw : S w := by
      rcases hS with h | h
      · exact h
      · have hun := (mem_ready.1 hr').1
        have h1 := h k hk
        rcases Nat.lt_or_ge k listed.size with h' | h'
        · simp [h'] at hun h1; rw [hun] at h1; cases h1
        · simp [Array.getElem?_eq_none h'] at hun
    exact wpAnyT_first h0 hk hl hs (fun c a w => hQ c a _ _ w) _ _ _ _ hf hr' hy hSw (wpAnyT_plan hs hl hQ p _ _ w hB' (.inl hSw) hK)
  | .one k p, listed, a, w, hB, hS, h => by
    simp only [ptB, Bool.and_eq_true, decide_eq_true_eq] at hB
    obtain ⟨hr, hB'⟩ := hB
    refine ⟨fun h0 => (by rw [hr] at h0; cases h0), fun i hi => ?_⟩
    obtain rfl : i = k := by rw [hr] at hi; simpa using hi
    have hst : ∀ w', (i < n0 → S w') → Still md ops S n0 (listed.setIfInBounds i true) w' := fun w' h' => by
      rcases Nat.lt_or_ge i n0 with hin | hin
      · exact .inl (h' hin)
      · exact .inr fun j hj => getD_set_true (late_waits hl hj hin hi)
    exact wpOp_mono (fun a' w' h' => ⟨h'.1, wpAnyT_plan hs hl hQ p _ _ w' hB' (hst w' h'.1) h'.2⟩) h
  | .two k1 p1 k2 p2, listed, a, w, hB, hS, h => by
    simp only [ptB, Bool.and_eq_true, decide_eq_true_eq] at hB
    obtain ⟨⟨⟨hr, hlen⟩, hB1⟩, hB2⟩ := hB
    refine ⟨fun h0 => (by rw [hr] at h0; cases h0), fun i hi => ?_⟩
    have hst : ∀ w', (i < n0 → S w') → Still md ops S n0 (listed.setIfInBounds i true) w' := fun w' h' => by
      rcases Nat.lt_or_ge i n0 with hin | hin
      · exact .inl (h' hin)
      · exact .inr fun j hj => getD_set_true (late_waits hl hj hin hi)
    have hi' : i = k1 ∨ i = k2 := by rw [hr] at hi; simpa using hi
    rcases hi' with rfl | rfl
    · exact wpOp_mono (fun a' w' h' => ⟨h'.1, wpAnyT_plan hs hl hQ p1 _ _ w' hB1 (hst w' h'.1) h'.2⟩) h.1
    · exact wpOp_mono (fun a' w' h' => ⟨h'.1, by show wpAnyT P md ops Q S n0 p1.len _ _ _; rw [hlen]; exact wpAnyT_plan hs hl hQ p2 _ _ w' hB2 (hst w' h'.1) h'.2⟩) h.2

theorem wp_region_pt {id : Nat} {a : Act} {w : World} {l : List Oper} (n0 : Nat) (S : World → Prop) (p : Plan) (hm : P.follows .mixedOrders = true)
    (hB : (Region.noSelect l.toArray && decide (p.len = l.length) && lateB .any l.toArray n0 && ptB .any l.toArray n0 p (Array.replicate l.length false)) = true) (hS : S w.drew)
    (h : wpPt P l.toArray S n0 (NoPanic Q) p a w.drew) : (Code.region id l.toArray true).wp P Q a w := by
  simp only [Bool.and_eq_true, decide_eq_true_eq] at hB
  obtain ⟨⟨⟨h1, h2⟩, h3⟩, h4⟩ := hB
  refine wp_region_noPanic (wp_region_any hm (wpAny_of_T (S := S) (n0 := n0) _ _ _ _ ?_))
  have := wpAnyT_plan (md := .any) (S := S) (Q := NoPanic Q) h1 h3 (fun c a d v w h => h) p (Array.replicate l.length false) a w.drew h4 (.inl hS) h
  rw [h2] at this
  simpa using this

theorem wpPt_quiet {p : Plan} {k : Nat} {o : Oper} {a : Act} {w : World} (v : Value) (ho : ops[k]? = some o) (hg : o.guard = none) (hr : ∀ w', S w' → (execOp a.eval o).run P w' = .ok (.value v) w')
    (h : wpPt P ops S n0 Q p (a.put o.dst v) w) : wpPt P ops S n0 Q (.quiet k p) a w :=
  ⟨o, v, ho, .inl ⟨by unfold Region.wanted; rw [hg], hr⟩, h⟩

theorem wpPt_val {p : Plan} {k : Nat} {o : Oper} {a : Act} {w : World} (ho : ops[k]? = some o) (hg : o.guard = none)
    (h : ∃ v, (∀ w', S w' → (execOp a.eval o).run P w' = .ok (.value v) w') ∧ wpPt P ops S n0 Q p (a.put o.dst v) w) : wpPt P ops S n0 Q (.quiet k p) a w :=
  let ⟨v, h1, h2⟩ := h
  wpPt_quiet v ho hg h1 h2

theorem wpPt_one {p : Plan} {k : Nat} {o : Oper} {a : Act} {w : World} (hi : ops[k]? = some o) (hg : o.guard = none)
    (h : ∀ K : Act → World → Prop, (∀ a' w', (k < n0 → S w') → wpPt P ops S n0 Q p a' w' → K a' w') → o.wp P a w K Q) : wpPt P ops S n0 Q (.one k p) a w :=
  wpOp_of_one hi hg fun K hK => h K fun a' w' h1 h2 => hK a' w' ⟨h1, h2⟩

end
end Go.Proofs.YtmddcbebaijjkaaDoor

/- Regions that draw their order, by a plan: the second phase is what waits, through others, for all of the first. -/
namespace Go.Proofs.YtmddcbebaijjkaaDoor
open Go.RowKit
set_option linter.unusedVariables false
set_option linter.unusedSimpArgs false

section
variable {P : Program} {ops : Array Oper} {md : Region.Mode} {S : World → Prop} {Q : Exit → Act → World → Prop} {n0 : Nat}

end
end Go.Proofs.YtmddcbebaijjkaaDoor

/- Walks: the greatest code, the number of digits, the width of the next code. -/
namespace Go.Proofs.YtmddcbebaijjkaaDoor
open Go.RowKit
set_option linter.unusedVariables false
set_option linter.unusedSimpArgs false

end Go.Proofs.YtmddcbebaijjkaaDoor

/- append onto an own slice: the new one lies where the old one lay, or in a new block. -/
namespace Go.Proofs.YtmddcbebaijjkaaDoor
open Go.RowKit
set_option linter.unusedVariables false
set_option linter.unusedSimpArgs false

/-- block k is not that of a -/
def Off (a : Option Addr) (k : Nat) : Prop := ∀ A, a = some A → A.block ≠ k

/-- A' lies where A lay, or in block n -/
def Nxt (A A' : Option Addr) (n : Nat) : Prop := ∀ X, A' = some X → (∃ Y, A = some Y ∧ Y.block = X.block) ∨ X.block = n

theorem Nxt.off {A A' : Option Addr} {n k : Nat} (h : Nxt A A' n) (h1 : Off A k) (h2 : k ≠ n) : Off A' k := fun X hX e => by
  rcases h X hX with ⟨Y, hY, he⟩ | he
  · exact h1 Y hY (by omega)
  · omega

theorem new_cells {α : Type} (E : Enc α) (y : α) {e : TypeId} (W : World) (b : Nat) (hb : b = W.heap.size) : ∀ (j : Nat) (u : Value), (flat E [y])[j]? = some u → (W.alloc (.cells (E.enc y).toArray e)).cell? ⟨b, 0 + j, none⟩ = some u := by
  intro j u hj
  subst hb
  have e1 : flat E [y] = E.enc y := by simp [flat]
  rw [e1] at hj
  rw [alloc_cell, if_neg (by omega), if_pos rfl, Nat.zero_add]
  simpa using hj

theorem own_nxt {α : Type} {E : Enc α} {e : TypeId} {w : World} {v : Value} {A' : Option Addr} {c' n k : Nat} {A : Option Addr} {len cap : Nat} {xs : List α} {lo : Nat} (h : (Value.slice A' k c').ownBlock = (Value.slice A len cap).ownBlock ∨ (Value.slice A' k c').ownBlock = some n) : Nxt A A' n := by
  intro X hX
  subst hX
  rcases h with h | h
  · cases A with
    | none => simp [Value.ownBlock] at h
    | some d => simp [Value.ownBlock] at h; exact .inl ⟨d, rfl, h.symm⟩
  · simp [Value.ownBlock] at h
    exact .inr h

/-- append of elements that lie in memory onto an own slice: one operation -/
theorem oper_append_at {P : Program} {o : Oper} {a : Act} {w : World} {K : Act → World → Prop} {Q : Exit → Act → World → Prop} {α : Type} (E : Enc α) (s x : Operand) (t e : TypeId) (i : TypeInfo) (z : Value) (bytes : Nat)
    (ho : o.op = .call { callee := .builtin .append, args := #[s, x], argTypes := #[t, t] }) (ht : P.underlying t = some (.slice e)) (hi : P.info? e = some i) (hz : i.zero = some z) (hsz : i.size = E.sz) (hby : i.bytes = bytes)
    (hzs : z.cells.size = E.sz) (hpos : 0 < E.sz) (xs : List α) (A : Option Addr) (cap : Nat) (lo : Nat) (hown : Own E e w A cap xs lo) (hs : a.eval s = .slice A xs.length cap)
    (ys : List α) (b off c : Nat) (hr : ∀ j u, (flat E ys)[j]? = some u → w.cell? ⟨b, off + j, none⟩ = some u) (hx : a.eval x = .slice (some ⟨b, off, none⟩) ys.length c)
    (h63 : xs.length + ys.length ≤ 140737488355328) (hbd : (xs.length + ys.length) * bytes ≤ 140737488355328) (hlo : lo ≤ w.heap.size)
    (h : ∀ (A' : Option Addr) (c' : Nat) (w' : World), Own E e w' A' c' (xs ++ ys) lo → Grew A w w' → Nxt A A' w.heap.size → K (a.put o.dst (.slice A' (xs ++ ys).length c')) w') :
    o.wp P a w K Q := by
  obtain ⟨v', w', hrun, h1, h2, _, h5⟩ := run_append_own_at (P := P) w lo t o.type e i z E.sz bytes ht hi hz hsz hby hzs hpos _ xs.length (flat E xs) (own_to hown) ⟨b, off, none⟩ ys.length c (flat E ys) (flat_len E ys)
    (fun j u hj => by rw [Addr.add_lit]; exact hr j u hj) (flat_one E ys) (by simp [maxLen]; omega) hbd hlo
  rw [← flat_append, ← List.length_append] at h1
  obtain ⟨A', c', rfl, hown'⟩ := own_of h1
  unfold Oper.wp execOp
  simp only [ho, resolve, invoke, builtin, Sem.run_bind, Sem.run_pure, Result.andThen_ok, List.map_toArray, List.map_cons, List.map_nil, hs, hx, hrun]
  refine h A' c' w' hown' ⟨h2.os, h2.tape, h2.output, h2.size, fun k hk hA => h2.block k hk fun he => ?_⟩ (own_nxt (E := E) (e := e) (w := w) (v := z) (xs := xs) (lo := lo) h5)
  cases A with
  | none => simp [Value.ownBlock] at he
  | some d => simp [Value.ownBlock] at he; exact hA d rfl he.symm

/-- append of elements that lie in memory onto an own slice -/
theorem wpList_append_at {P : Program} {ops : Array Oper} {rest : List Oper} {o : Oper} {a : Act} {w : World} {Q : Exit → Act → World → Prop} {α : Type} (E : Enc α) (s x : Operand) (t e : TypeId) (i : TypeInfo) (z : Value) (bytes : Nat) (hgd : o.guard = none)
    (ho : o.op = .call { callee := .builtin .append, args := #[s, x], argTypes := #[t, t] }) (ht : P.underlying t = some (.slice e)) (hi : P.info? e = some i) (hz : i.zero = some z) (hsz : i.size = E.sz) (hby : i.bytes = bytes)
    (hzs : z.cells.size = E.sz) (hpos : 0 < E.sz) (xs : List α) (A : Option Addr) (cap : Nat) (lo : Nat) (hown : Own E e w A cap xs lo) (hs : a.eval s = .slice A xs.length cap)
    (ys : List α) (b off c : Nat) (hr : ∀ j u, (flat E ys)[j]? = some u → w.cell? ⟨b, off + j, none⟩ = some u) (hx : a.eval x = .slice (some ⟨b, off, none⟩) ys.length c)
    (h63 : xs.length + ys.length ≤ 140737488355328) (hbd : (xs.length + ys.length) * bytes ≤ 140737488355328) (hlo : lo ≤ w.heap.size)
    (h : ∀ (A' : Option Addr) (c' : Nat) (w' : World), Own E e w' A' c' (xs ++ ys) lo → Grew A w w' → Nxt A A' w.heap.size → wpList P ops Q rest (a.put o.dst (.slice A' (xs ++ ys).length c')) w') :
    wpList P ops Q (o :: rest) a w := by
  refine wpList_plain hgd fun K hK => ?_
  exact oper_append_at E s x t e i z bytes ho ht hi hz hsz hby hzs hpos xs A cap lo hown hs ys b off c hr hx h63 hbd hlo fun A' c' w' h1 h2 h3 => hK _ _ (h A' c' w' h1 h2 h3)

theorem setCell_patch {w : World} {b : Nat} {cur : Array Value} {e : TypeId} {fz : Nat × Nat} (h : w.heap[b]? = some (.cells cur e fz)) (i : Nat) (v : Value) : w.setCell ⟨b, i, none⟩ v = patch w b (.cells (cur.setIfInBounds i v) e fz) := by
  refine world_ext (fun k => ?_) rfl rfl rfl rfl
  rw [setCell_at, patch_heap]
  by_cases hk : k = b
  · subst hk
    rw [if_pos rfl, if_pos rfl, if_pos (Array.getElem?_eq_some_iff.1 h).1, h]
    rfl
  · rw [if_neg hk, if_neg (fun e => hk e.symm)]

end Go.Proofs.YtmddcbebaijjkaaDoor

/- append onto an empty slice, as one operation. -/
namespace Go.Proofs.YtmddcbebaijjkaaDoor
open Go.RowKit
set_option linter.unusedVariables false
set_option linter.unusedSimpArgs false

end Go.Proofs.YtmddcbebaijjkaaDoor

/- The tree in memory: its block, its nodes and its pairs' nodes; reading it. -/
namespace Go.Proofs.YtmddcbebaijjkaaDoor
open Go.RowKit
set_option linter.unusedVariables false
set_option linter.unusedSimpArgs false

def encI : Enc Int where
  sz := 1
  enc i := [.int .i64 i]
  len _ := rfl
  one := by intro x u hu; simp at hu; subst hu; rfl

theorem cell_of {w : World} {b : Nat} {cur : Array Value} {e : TypeId} {fz : Nat × Nat} (h : w.heap[b]? = some (.cells cur e fz)) (i : Nat) : w.cell? ⟨b, i, none⟩ = cur[i]? := by
  simp [World.cell?, h]

theorem free_of {w : World} {b : Nat} {cur : Array Value} {e : TypeId} (h : w.heap[b]? = some (.cells cur e (0, 0))) (i : Nat) : w.frozen? ⟨b, i, none⟩ = false := by
  simp [World.frozen?, h]

section
variable {w w' : World} {t : Nat} {pa : Option Addr} {pc : Nat} {na : Option Addr} {nc : Nat} {qa : Option Addr} {qc : Nat} {o l m : Int} {ps : List Pr} {base last : Int} {N : List Nd} {pn : List Int}

end

/-- the index of a word, or -1 -/
def ix (D : List (List UInt8 × Int)) (w : List UInt8) : Int := match D.findIdx? (fun x => decide (x.1 = w)) with
  | some i => i
  | none => -1

theorem DI.ix {l : Int} {ps : List Pr} {D : List (List UInt8 × Int)} {n : Nat} (h : DI l ps D n) {i : Nat} {w : List UInt8} {c : Int} (hi : D[i]? = some (w, c)) : ix D w = i := by
  have hl := (List.getElem?_eq_some_iff.1 hi).1
  have he := (List.getElem?_eq_some_iff.1 hi).2
  have : D.findIdx? (fun x => decide (x.1 = w)) = some i := by
    rw [List.findIdx?_eq_some_iff_getElem]
    refine ⟨hl, by simp [he], fun j hj hp => ?_⟩
    simp only [decide_eq_true_eq] at hp
    have hj2 : D[j]? = some (w, (D[j]'(by omega)).2) := by
      rw [List.getElem?_eq_getElem (by omega)]
      exact congrArg some (Prod.ext hp rfl)
    have := (h.same hi hj2).1
    omega
  unfold Go.Proofs.YtmddcbebaijjkaaDoor.ix
  rw [this]

section
variable {w : World} {t : Nat} {pa : Option Addr} {pc : Nat} {na : Option Addr} {nc : Nat} {qa : Option Addr} {qc : Nat} {o l m : Int} {ps : List Pr} {base last : Int} {N : List Nd} {pn : List Int}

end

end Go.Proofs.YtmddcbebaijjkaaDoor

/- The longest word with which data begins, and the least code of a word, in plain Lean. -/
namespace Go.Proofs.YtmddcbebaijjkaaDoor
open Go.RowKit
set_option linter.unusedVariables false
set_option linter.unusedSimpArgs false

/-- a code that can follow and has a word -/
def Okc (l m : Int) (n : Nat) (last c : Int) : Prop := hw l n c = true ∨ (grB l m n last = true ∧ c = nw l n)

/-- the longest word with which d begins has n bytes -/
def IsLon (l m : Int) (ps : List Pr) (last : Int) (d : List UInt8) (n : Nat) : Prop :=
  1 ≤ n ∧ n ≤ d.length ∧ (∃ c, Okc l m ps.length last c ∧ anyW l ps last c = d.take n) ∧ ∀ c j, Okc l m ps.length last c → j ≤ d.length → anyW l ps last c = d.take j → j ≤ n

/-- c is the least code with the word w, or -1 -/
def IsFnd (l m : Int) (ps : List Pr) (last : Int) (w : List UInt8) (c : Int) : Prop :=
  (c = -1 ∧ ∀ c', Okc l m ps.length last c' → anyW l ps last c' ≠ w) ∨ (Okc l m ps.length last c ∧ anyW l ps last c = w ∧ ∀ c', Okc l m ps.length last c' → anyW l ps last c' = w → c ≤ c')

theorem IsLon.eq {l m : Int} {ps : List Pr} {last : Int} {d : List UInt8} {n n' : Nat} (h : IsLon l m ps last d n) (h' : IsLon l m ps last d n') : n = n' := by
  obtain ⟨a1, a2, ⟨c, a3, a4⟩, a5⟩ := h
  obtain ⟨b1, b2, ⟨c', b3, b4⟩, b5⟩ := h'
  have := a5 c' n' b3 b2 b4
  have := b5 c n a3 a2 a4
  omega

theorem Okc.nonneg {l m : Int} {n : Nat} {last c : Int} (h : Okc l m n last c) (h0 : 2 ≤ two l) : 0 ≤ c := by
  rcases h with h | ⟨_, rfl⟩
  · have := hw_iff.1 h; omega
  · unfold nw; omega

theorem IsFnd.eq {l m : Int} {ps : List Pr} {last : Int} {w : List UInt8} {c c' : Int} (h : IsFnd l m ps last w c) (h' : IsFnd l m ps last w c') : c = c' := by
  rcases h with ⟨rfl, a⟩ | ⟨a1, a2, a3⟩ <;> rcases h' with ⟨rfl, b⟩ | ⟨b1, b2, b3⟩
  · rfl
  · exact absurd b2 (a _ b1)
  · exact absurd a2 (b _ a1)
  · have := a3 _ b1 b2
    have := b3 _ a1 a2
    omega

theorem least_int (P : Int → Prop) (h0 : ∀ c, P c → 0 ≤ c) (h : ∃ c, P c) : ∃ c, P c ∧ ∀ c', P c' → c ≤ c' := by
  obtain ⟨c, hc⟩ := h
  have key : ∀ n : Nat, ∀ c, P c → c.toNat = n → ∃ c, P c ∧ ∀ c', P c' → c ≤ c' := by
    intro n
    induction n using Nat.strongRecOn with
    | _ n ih =>
      intro c hc hn
      by_cases hex : ∃ c', P c' ∧ c' < c
      · obtain ⟨c', hc', hlt⟩ := hex
        have := h0 c hc
        have := h0 c' hc'
        exact ih c'.toNat (by omega) c' hc' rfl
      · exact ⟨c, hc, fun c' hc' => by
          rcases Int.lt_or_le c' c with h | h
          · exact absurd ⟨c', hc', h⟩ hex
          · exact h⟩
  exact key _ c hc rfl

theorem fnd_ex (l m : Int) (ps : List Pr) (last : Int) (w : List UInt8) (h0 : 2 ≤ two l) : ∃ c, IsFnd l m ps last w c := by
  by_cases h : ∃ c, Okc l m ps.length last c ∧ anyW l ps last c = w
  · obtain ⟨c, ⟨h1, h2⟩, h3⟩ := least_int (fun c => Okc l m ps.length last c ∧ anyW l ps last c = w) (fun c hc => hc.1.nonneg h0) h
    exact ⟨c, .inr ⟨h1, h2, fun c' a b => h3 c' ⟨a, b⟩⟩⟩
  · exact ⟨-1, .inl ⟨rfl, fun c' a b => h ⟨c', a, b⟩⟩⟩

theorem any_hw {l : Int} {ps : List Pr} {last c : Int} (h : hw l ps.length c = true) : anyW l ps last c = W l ps c := by
  have := hw_iff.1 h
  unfold anyW
  rw [if_neg (by unfold nw; omega)]

theorem any_nw {l : Int} {ps : List Pr} {last : Int} : anyW l ps last (nw l ps.length) = W l ps last ++ (W l ps last).take 1 := by
  unfold anyW; rw [if_pos rfl]

/-- a word's beginnings are words -/
theorem DI.pre {l : Int} {ps : List Pr} {D : List (List UInt8 × Int)} {n : Nat} (h : DI l ps D n) (hok : OKs l ps) (hn : n ≤ ps.length) : ∀ (k : Nat) (w : List UInt8), w.length = k → w ∈ D.map (·.1) → ∀ j, 1 ≤ j → j ≤ w.length → w.take j ∈ D.map (·.1) := by
  intro k
  induction k with
  | zero => intro w hw _ j h1 h2; omega
  | succ k ih =>
    intro w hwl hm j h1 h2
    by_cases hj : j = w.length
    · subst hj; rw [List.take_length]; exact hm
    · obtain ⟨⟨w', c⟩, hm', rfl⟩ := List.mem_map.1 hm
      obtain ⟨i, hi⟩ := List.getElem?_of_mem hm'
      by_cases hl : two l ≤ (i : Int)
      · obtain ⟨⟨c1, c2⟩, hW, hlen⟩ := h.non i w' c hi hl
        obtain ⟨q, hq, rfl⟩ : ∃ q : Nat, q < n ∧ c = nw l q := ⟨(c - nw l 0).toNat, by unfold nw at *; omega, by unfold nw at *; omega⟩
        have hp : ps[q]? = some ps[q] := List.getElem?_eq_getElem (by omega)
        rw [W_pair hok hp] at hW
        have hpw := hw_iff.1 (hok q _ hp).1
        obtain ⟨i2, c', hi2, _⟩ := h.cov (ps[q]).p (hw_iff.2 (by omega))
        have hlen2 : (W l ps (ps[q]).p).length = k := by
          have := congrArg List.length hW
          simp at this
          simp only at hwl
          omega
        have := ih (W l ps (ps[q]).p) hlen2 (List.mem_map.2 ⟨_, List.mem_of_getElem? hi2, rfl⟩) j h1 (by simp only at h2 hj hwl; omega)
        show w'.take j ∈ _
        rw [← hW, List.take_append_of_le_length (by simp only at h2 hj hwl; omega)]
        exact this
      · have := h.lit i (by omega)
        rw [hi] at this
        simp only [Option.some.injEq, Prod.mk.injEq] at this
        simp only [this.1, List.length_cons, List.length_nil] at hwl h2 hj
        omega

/-- down the tree along d: at a node with size bytes -/
structure Down (l : Int) (ps : List Pr) (D : List (List UInt8 × Int)) (d : List UInt8) (i size : Nat) (c : Int) : Prop where
  at' : D[i]? = some (d.take size, c)
  s1 : 1 ≤ size
  s2 : size ≤ d.length

theorem take_one_snoc {d : List UInt8} {size : Nat} (h : size < d.length) : d.take (size + 1) = d.take size ++ [d[size]] := by
  rw [List.take_succ_eq_append_getElem h]

section
variable {l m : Int} {ps : List Pr} {last : Int} {D : List (List UInt8 × Int)} {d : List UInt8} {i size : Nat} {c : Int}

theorem Down.ge (h : Down l ps D d i size c) (hD : DI l ps D ps.length) (hok : OKs l ps) (hend : size = d.length ∨ d.take (size + 1) ∉ D.map (·.1)) {c' : Int} {j : Nat} (hc : hw l ps.length c' = true) (hj : j ≤ d.length) (he : W l ps c' = d.take j) : j ≤ size := by
  rcases hend with rfl | hno
  · exact hj
  · rcases Nat.lt_or_ge size j with hlt | hge
    · exfalso
      obtain ⟨i2, c2, hi2, _⟩ := hD.cov c' hc
      have hm : d.take j ∈ D.map (·.1) := by rw [← he]; exact List.mem_map.2 ⟨_, List.mem_of_getElem? hi2, rfl⟩
      have := hD.pre hok (Nat.le_refl _) _ _ rfl hm (size + 1) (by omega) (by rw [List.length_take]; omega)
      rw [List.take_take, Nat.min_eq_left (by omega)] at this
      exact hno this
    · exact hge

/-- the word to come is the longest -/
theorem Down.next (h : Down l ps D d i size c) (hD : DI l ps D ps.length) (hok : OKs l ps) (hlt : size < d.length) (hno : d.take (size + 1) ∉ D.map (·.1)) (hg : grB l m ps.length last = true)
    (hi : ix D (W l ps last) = i) (hlast : hw l ps.length last = true) (hf : d[size]? = d[0]?) : IsLon l m ps last d (size + 1) ∧ IsFnd l m ps last (d.take (size + 1)) (nw l ps.length) := by
  have hW : W l ps last = d.take size := by
    obtain ⟨i2, c2, hi2, _⟩ := hD.cov last hlast
    have := hD.ix hi2
    have e : i2 = i := by omega
    subst e
    rw [h.at'] at hi2
    simp only [Option.some.injEq, Prod.mk.injEq] at hi2
    exact hi2.1.symm
  have hany : anyW l ps last (nw l ps.length) = d.take (size + 1) := by
    rw [any_nw, hW, take_one_snoc hlt]
    congr 1
    have h1 := h.s1
    rw [List.getElem?_eq_getElem hlt] at hf
    cases d with
    | nil => simp at hlt
    | cons x xs =>
      simp at hf
      rw [List.take_take, Nat.min_eq_left h1]
      simp [hf]
  refine ⟨⟨by omega, by omega, ⟨_, .inr ⟨hg, rfl⟩, hany⟩, fun c' j hc' hj he => ?_⟩, .inr ⟨.inr ⟨hg, rfl⟩, hany, fun c' hc' he => ?_⟩⟩
  · rcases hc' with hc' | ⟨_, rfl⟩
    · rw [any_hw hc'] at he
      have := h.ge hD hok (.inr hno) hc' hj he
      omega
    · rw [hany] at he
      have := congrArg List.length he
      rw [List.length_take, List.length_take] at this
      omega
  · rcases hc' with hc' | ⟨_, rfl⟩
    · rw [any_hw hc'] at he
      have := h.ge hD hok (.inr hno) hc' (by omega) he
      omega
    · exact Int.le_refl _

theorem Down.start (hD : DI l ps D ps.length) (hd : 0 < d.length) (hlit : ((d[0]).toNat : Int) < two l) : Down l ps D d (d[0]).toNat 1 ((d[0]).toNat : Int) := by
  refine ⟨?_, by omega, by omega⟩
  rw [hD.lit _ hlit]
  congr 1
  rw [take_one_snoc (size := 0) hd]
  simp

theorem Down.step (h : Down l ps D d i size c) (hlt : size < d.length) {r : Nat} {c' : Int} (hr : D[r]? = some (d.take size ++ [d[size]], c')) : Down l ps D d r (size + 1) c' :=
  ⟨by rw [take_one_snoc hlt]; exact hr, by omega, by omega⟩

/-- every byte of a word is a literal -/
theorem W_lits (hok : OKs l ps) (h0 : 2 ≤ two l) (h1 : two l ≤ 256) : ∀ (k : Nat) (c : Int), hw l ps.length c = true → (W l ps c).length = k → ∀ x ∈ W l ps c, (x.toNat : Int) < two l := by
  intro k
  induction k with
  | zero => intro c hc hl x hx; rw [List.eq_nil_of_length_eq_zero hl] at hx; simp at hx
  | succ k ih =>
    intro c hc hl x hx
    by_cases h2 : two l + 1 < c
    · obtain ⟨q, hq, rfl⟩ := hw_pair hc h2
      have hp : ps[q]? = some ps[q] := List.getElem?_eq_getElem (by omega)
      have hpo := hok q _ hp
      rw [W_pair hok hp] at hl hx
      have hpw := hw_iff.1 hpo.1
      rcases List.mem_append.1 hx with hx | hx
      · exact ih _ (hw_iff.2 (by omega)) (by simpa using hl) x hx
      · simp at hx
        subst hx
        have := hpo.2
        rw [UInt8.toNat_ofNat']
        omega
    · have := hw_iff.1 hc
      rw [W_lit h2] at hx
      simp at hx
      subst hx
      rw [UInt8.toNat_ofNat']
      omega

end

end Go.Proofs.YtmddcbebaijjkaaDoor

/- The tree without its last nodes, and what follows a code, in plain Lean. -/
namespace Go.Proofs.YtmddcbebaijjkaaDoor
open Go.RowKit
set_option linter.unusedVariables false
set_option linter.unusedSimpArgs false

/-- the words of more pairs are those of fewer, and others with greater codes -/
theorem DD_split (l : Int) (ps : List Pr) (b : Nat) : ∀ (n : Nat), b ≤ n → ∃ R, DD l ps n = DD l ps b ++ R ∧ ∀ x ∈ R, nw l b ≤ x.2
  | n, h => by
    induction n with
    | zero =>
      obtain rfl : b = 0 := by omega
      exact ⟨[], by simp, by simp⟩
    | succ n ih =>
      by_cases hb : b = n + 1
      · subst hb; exact ⟨[], by simp, by simp⟩
      · obtain ⟨R, h1, h2⟩ := ih (by omega)
        show ∃ R, dadd _ _ _ = _ ∧ _
        unfold dadd
        split
        · exact ⟨R, h1, h2⟩
        · refine ⟨R ++ [(W l ps (nw l n), nw l n)], by rw [h1, List.append_assoc], fun x hx => ?_⟩
          rcases List.mem_append.1 hx with hx | hx
          · exact h2 x hx
          · simp at hx
            subst hx
            show nw l b ≤ nw l n
            unfold nw; omega

theorem DI.low {l : Int} {ps : List Pr} {D : List (List UInt8 × Int)} {n : Nat} (h : DI l ps D n) {i : Nat} {w : List UInt8} {c : Int} (hi : D[i]? = some (w, c)) : c < nw l n := by
  by_cases hl : two l ≤ (i : Int)
  · exact (h.non i w c hi hl).1.2
  · rw [h.lit i (by omega)] at hi
    cases hi
    unfold nw; omega

theorem DD_prefix {l : Int} {ps : List Pr} {n b : Nat} (hb : b ≤ n) : (DD l ps n).take (DD l ps b).length = DD l ps b := by
  obtain ⟨R, e, _⟩ := DD_split l ps b n hb
  rw [e, List.take_left' rfl]

/-- the tree of the first b pairs -/
theorem TI.forget {l : Int} {ps : List Pr} {N : List Nd} {pn : List Int} (h : TI l ps N pn) (hok : OKs l ps) (h0 : 2 ≤ two l) (h1 : two l ≤ 256) {b : Nat} (hb : b ≤ ps.length) {N' : List Nd} (hN : TN l ((DD l ps ps.length).take N'.length) N') (hl : N'.length = (DD l ps b).length) :
    TI l (ps.take b) N' (pn.take b) := by
  have hlen : (ps.take b).length = b := by simp; omega
  rw [hl, DD_prefix hb] at hN
  have hD0 := DI_all hok h0 h1 (Nat.le_refl ps.length)
  have hDb := DI_all hok h0 h1 hb
  refine ⟨by rw [hlen, DD_take (Nat.le_refl _)]; exact hN, by rw [hlen, List.length_take, h.len]; omega, fun j i hj => ?_⟩
  rw [List.getElem?_take] at hj
  split at hj
  · rename_i hjb
    obtain ⟨q1, c, q2⟩ := h.pn j i hj
    rw [hlen, DD_take (Nat.le_refl _), W_take (by unfold nw; omega)]
    obtain ⟨i2, c2, q3, _⟩ := hDb.cov (nw l j) (hw_nw hjb)
    obtain ⟨R, e, _⟩ := DD_split l ps b ps.length hb
    have q4 : (DD l ps ps.length)[i2]? = some (W l ps (nw l j), c2) := by
      rw [e, List.getElem?_append_left (List.getElem?_eq_some_iff.1 q3).1]; exact q3
    obtain ⟨rfl, _⟩ := hD0.same q2 q4
    exact ⟨q1, c2, q3⟩
  · cases hj

/-- the pair that a code adds -/
def aftP (l m : Int) (ps : List Pr) (last c : Int) : List Pr := if grB l m ps.length last then ps ++ [⟨last, hd (anyW l ps last c)⟩] else ps

theorem hd_app {x y : List UInt8} (h : 1 ≤ x.length) : hd (x ++ y) = hd x := by
  unfold hd
  cases x with
  | nil => simp at h
  | cons a x => rfl

theorem aft_ok {l m : Int} {ps : List Pr} {last c : Int} (hok : OKs l ps) (h0 : 2 ≤ two l) (h1 : two l ≤ 256) (hlast : last = -1 ∨ hw l ps.length last = true) (hc : Okc l m ps.length last c) (hg : grB l m ps.length last = true) :
    okP l ps.length ⟨last, hd (anyW l ps last c)⟩ ∧ (∀ f, (if c = nw l ps.length then last else c) = f → hw l ps.length f = true ∧ hd (anyW l ps last c) = hd (W l ps f)) := by
  have hl : hw l ps.length last = true := by
    rcases hlast with rfl | h
    · exact absurd rfl (grB_iff.1 hg).1
    · exact h
  have key : ∀ f, (if c = nw l ps.length then last else c) = f → hw l ps.length f = true ∧ hd (anyW l ps last c) = hd (W l ps f) := fun f hf => by
    split at hf
    · rename_i hcn
      subst hf
      refine ⟨hl, ?_⟩
      rw [hcn, any_nw, hd_app (W_pos hok hl)]
    · rename_i hcn
      subst hf
      have hh : hw l ps.length c = true := by
        rcases hc with h | ⟨_, h⟩
        · exact h
        · exact absurd h hcn
      exact ⟨hh, by rw [any_hw hh]⟩
  refine ⟨⟨hl, (hd_bd _).1, ?_⟩, key⟩
  obtain ⟨h2, h3⟩ := key _ rfl
  show hd _ < two l
  rw [h3]
  have hp := W_pos hok h2
  generalize hW : W l ps (if c = nw l ps.length then last else c) = x at *
  unfold hd
  cases x with
  | nil => simp at hp
  | cons a x =>
    have := W_lits hok h0 h1 _ _ h2 rfl a (by rw [hW]; simp)
    simpa using this

/-- what can be known stays so -/
theorem KV.after {o l m : Int} {ps : List Pr} {base last c : Int} (h : KV o l m ps base last) (hc : Okc l m ps.length last c) : KV o l m (aftP l m ps last c) base c := by
  obtain ⟨l1, l2, m2, lm, t1, t2, t4, t3⟩ := h.lim.bds
  unfold aftP
  cases hg : grB l m ps.length last
  · rw [if_neg (by simp)]
    refine ⟨h.s, h.len, h.ok, h.b0, h.b1, .inr ?_⟩
    rcases hc with hc | ⟨hg', _⟩
    · exact hc
    · rw [hg] at hg'; cases hg'
  · rw [if_pos rfl]
    obtain ⟨q1, q2⟩ := aft_ok h.ok t1 t2 (h.last.imp (fun h => h.1) id) hc hg
    have hlen := (grB_iff.1 hg).2
    refine ⟨h.s, by unfold nw at hlen; simp; omega, OKs.snoc h.ok q1, h.b0, by have := h.b1; simp; omega, .inr (hw_iff.2 ?_)⟩
    rcases hc with hc | ⟨_, rfl⟩
    · have := hw_iff.1 hc; simp; omega
    · unfold nw; simp; omega

/-- and behind a clear code -/
theorem KV.cleared {o l m : Int} {ps : List Pr} {base last : Int} (h : KV o l m ps base last) : KV o l m (ps.take base.toNat) base (-1) := by
  have h0 := h.b0
  have h1 := h.b1
  have hl : (ps.take base.toNat).length = base.toNat := by simp; omega
  refine ⟨h.s, by have := h.len; rw [hl]; omega, OKs.take h.ok _, h0, by rw [hl]; omega, .inl ⟨rfl, by rw [hl]; omega⟩⟩

end Go.Proofs.YtmddcbebaijjkaaDoor

/- Walks: BitsValid of the program and of the reference. -/
namespace Go.Proofs.YtmddcbebaijjkaaDoor
open Go.RowKit
set_option linter.unusedVariables false
set_option linter.unusedSimpArgs false

def isBit (c : UInt8) : Bool := decide (c.toNat = 48 ∨ c.toNat = 49)

def allB (s : ByteArray) : Bool := s.data.toList.all isBit

/-- only bits, and not too many -/
def bitsB (s : ByteArray) : Bool := decide (s.size ≤ 32000) && allB s

end Go.Proofs.YtmddcbebaijjkaaDoor
