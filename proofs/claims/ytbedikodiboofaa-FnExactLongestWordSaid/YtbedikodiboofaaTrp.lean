/- The tree of known words, in plain Lean: words and their least codes, nodes and their children. -/
import Derived.Test.YtbedikodiboofaaL2w
namespace Go.Proofs.Ytbedikodiboofaa
open Go.RowKit
set_option linter.unusedVariables false
set_option linter.unusedSimpArgs false

/-- the word of a code that has one, as bytes -/
def W (l : Int) (ps : List Pr) (c : Int) : List UInt8 := wb l (wordsL l ps) c

def OKs (l : Int) (ps : List Pr) : Prop := ∀ j p, ps[j]? = some p → okP l j p

theorem W_lit {l : Int} {ps : List Pr} {c : Int} (h : ¬ two l + 1 < c) : W l ps c = [UInt8.ofNat c.toNat] := wb_lit h

theorem W_pair {l : Int} {ps : List Pr} {k : Nat} {p : Pr} (hok : OKs l ps) (hp : ps[k]? = some p) : W l ps (nw l k) = W l ps p.p ++ [UInt8.ofNat p.b.toNat] := by
  have h1 := hw_iff.1 (hok k p hp).1
  have e : (nw l k - (two l + 1)).toNat - 1 = k := by unfold nw; omega
  refine wb_pair (p := p) (by unfold nw; omega) (by rw [e]; exact hp) (fun h2 => ?_)
  rw [e]
  omega

theorem W_take {l : Int} {ps : List Pr} {k : Nat} {c : Int} (h : c < nw l k) : W l (ps.take k) c = W l ps c := by
  unfold W wb lkw
  split
  · rename_i h2
    rw [wordsL_take (by unfold nw at h; omega)]
  · rfl

theorem W_app {l : Int} {ps qs : List Pr} {c : Int} (h : c < nw l ps.length) : W l (ps ++ qs) c = W l ps c := by
  have := W_take (ps := ps ++ qs) h
  rwa [List.take_left' rfl, eq_comm] at this

theorem hw_pair {l : Int} {n c : Int} (h : hw l n c = true) (h2 : two l + 1 < c) : ∃ k : Nat, (k : Int) < n ∧ c = nw l k := by
  have := hw_iff.1 h
  exact ⟨(c - (two l + 1 + 1)).toNat, by omega, by unfold nw; omega⟩

theorem hw_nw {l : Int} {n k : Nat} (h : k < n) : hw l n (nw l k) = true := hw_iff.2 (by unfold nw; omega)

theorem W_pos {l : Int} {ps : List Pr} {c : Int} (hok : OKs l ps) (h : hw l ps.length c = true) : 1 ≤ (W l ps c).length := by
  by_cases h2 : two l + 1 < c
  · obtain ⟨k, hk, rfl⟩ := hw_pair h h2
    have hp : ps[k]? = some ps[k] := List.getElem?_eq_getElem (by omega)
    rw [W_pair hok hp]
    simp
  · rw [W_lit h2]; simp

/-- the word of a code that can follow -/
def anyW (l : Int) (ps : List Pr) (last c : Int) : List UInt8 := if c = nw l ps.length then W l ps last ++ (W l ps last).take 1 else W l ps c

def lits (l : Int) : List (List UInt8 × Int) := (List.range (two l).toNat).map fun i => ([UInt8.ofNat i], (i : Int))

def dadd (D : List (List UInt8 × Int)) (w : List UInt8) (c : Int) : List (List UInt8 × Int) := if w ∈ D.map (·.1) then D else D ++ [(w, c)]

/-- the different words of the literals and the first n pairs, with their least codes -/
def DD (l : Int) (ps : List Pr) : Nat → List (List UInt8 × Int)
  | 0 => lits l
  | n + 1 => dadd (DD l ps n) (W l ps (nw l n)) (nw l n)

theorem DD_take {l : Int} {ps : List Pr} {k : Nat} : ∀ {n : Nat}, n ≤ k → DD l (ps.take k) n = DD l ps n
  | 0, _ => rfl
  | n + 1, h => by
    show dadd _ _ _ = dadd _ _ _
    rw [DD_take (by omega), W_take (by unfold nw; omega)]

theorem DD_app {l : Int} {ps qs : List Pr} {n : Nat} (h : n ≤ ps.length) : DD l (ps ++ qs) n = DD l ps n := by
  have := DD_take (l := l) (ps := ps ++ qs) h
  rwa [List.take_left' rfl, eq_comm] at this

/-- what holds of the words and codes -/
structure DI (l : Int) (ps : List Pr) (D : List (List UInt8 × Int)) (n : Nat) : Prop where
  nodup : (D.map (·.1)).Nodup
  lit : ∀ i : Nat, (i : Int) < two l → D[i]? = some ([UInt8.ofNat i], (i : Int))
  len : two l ≤ D.length
  len2 : (D.length : Int) ≤ two l + n
  non : ∀ (i : Nat) w c, D[i]? = some (w, c) → two l ≤ (i : Int) → (nw l 0 ≤ c ∧ c < nw l n) ∧ W l ps c = w ∧ 2 ≤ w.length
  cov : ∀ c, hw l n c = true → ∃ (i : Nat) (c' : Int), D[i]? = some (W l ps c, c') ∧ c' ≤ c

theorem lits_len (l : Int) : (lits l).length = (two l).toNat := by simp [lits]

theorem lits_get {l : Int} {i : Nat} (h : (i : Int) < two l) : (lits l)[i]? = some ([UInt8.ofNat i], (i : Int)) := by
  simp [lits, show i < (two l).toNat by omega]

theorem ofNat_inj {a b : Nat} (ha : a < 256) (hb : b < 256) (h : UInt8.ofNat a = UInt8.ofNat b) : a = b := by
  have := congrArg UInt8.toNat h
  simp only [UInt8.toNat_ofNat'] at this
  omega

theorem DI.zero {l : Int} {ps : List Pr} (h0 : 2 ≤ two l) (h1 : two l ≤ 256) : DI l ps (lits l) 0 where
  nodup := by
    rw [show (lits l).map (·.1) = (List.range (two l).toNat).map fun i => [UInt8.ofNat i] by simp [lits]]
    rw [List.nodup_iff_pairwise_ne, List.pairwise_map]
    refine List.Pairwise.imp_of_mem ?_ (List.nodup_iff_pairwise_ne.1 List.nodup_range)
    intro a b ha hb hne he
    rw [List.mem_range] at ha hb
    exact hne (ofNat_inj (by omega) (by omega) (by simpa using he))
  lit := fun i h => lits_get h
  len := by rw [lits_len]; omega
  len2 := by rw [lits_len]; omega
  non := fun i w c h hi => by
    have := (List.getElem?_eq_some_iff.1 h).1
    rw [lits_len] at this
    omega
  cov := fun c h => by
    have := hw_iff.1 h
    refine ⟨c.toNat, c, ?_, Int.le_refl _⟩
    rw [lits_get (by omega), W_lit (by omega)]
    simp; omega

theorem DI.succ {l : Int} {ps : List Pr} {D : List (List UInt8 × Int)} {n : Nat} (h : DI l ps D n) (hok : OKs l ps) (hn : n < ps.length) (h0 : 2 ≤ two l) (h1 : two l ≤ 256) :
    DI l ps (dadd D (W l ps (nw l n)) (nw l n)) (n + 1) := by
  have hp : ps[n]? = some ps[n] := List.getElem?_eq_getElem hn
  have hpok := hok n _ hp
  have hsub : ∀ c, hw l (n + 1 : Nat) c = true → hw l n c = true ∨ c = nw l n := fun c hc => by
    have := hw_iff.1 hc
    by_cases e : c = nw l n
    · exact .inr e
    · exact .inl (hw_iff.2 (by unfold nw at e; omega))
  unfold dadd
  split
  · rename_i hmem
    refine ⟨h.nodup, h.lit, h.len, by have := h.len2; omega, fun i w c hi hl => ?_, fun c hc => ?_⟩
    · obtain ⟨⟨a1, a2⟩, a3⟩ := h.non i w c hi hl
      exact ⟨⟨a1, by unfold nw at *; omega⟩, a3⟩
    · rcases hsub c hc with h2 | rfl
      · exact h.cov c h2
      · rw [List.mem_map] at hmem
        obtain ⟨⟨w, c'⟩, hm, he⟩ := hmem
        simp only at he
        subst he
        obtain ⟨i, hi⟩ := List.getElem?_of_mem hm
        refine ⟨i, c', hi, ?_⟩
        by_cases hl : two l ≤ (i : Int)
        · have := (h.non i _ _ hi hl).1; omega
        · have := h.lit i (by omega)
          rw [this] at hi
          simp only [Option.some.injEq, Prod.mk.injEq] at hi
          unfold nw; omega
  · rename_i hmem
    refine ⟨?_, fun i hi => ?_, by have := h.len; simp; omega, by have := h.len2; simp; omega, fun i w c hi hl => ?_, fun c hc => ?_⟩
    · rw [List.map_append, List.map_cons, List.map_nil]
      exact List.nodup_append.2 ⟨h.nodup, by simp, fun a ha b hb e => by simp at hb; subst hb; exact hmem (e ▸ ha)⟩
    · have := h.len
      rw [List.getElem?_append_left (by omega)]; exact h.lit i hi
    · by_cases hlt : i < D.length
      · rw [List.getElem?_append_left hlt] at hi
        obtain ⟨⟨a1, a2⟩, a3⟩ := h.non i w c hi hl
        exact ⟨⟨a1, by unfold nw at *; omega⟩, a3⟩
      · rw [List.getElem?_append_right (by omega)] at hi
        have : i - D.length = 0 := by
          have := (List.getElem?_eq_some_iff.1 hi).1
          simp at this; omega
        rw [this] at hi
        simp at hi
        obtain ⟨rfl, rfl⟩ := hi
        refine ⟨⟨by unfold nw; omega, by unfold nw; omega⟩, rfl, ?_⟩
        rw [W_pair hok hp]
        have hq := hw_iff.1 hpok.1
        have := W_pos (l := l) (ps := ps) (c := ps[n].p) hok (hw_iff.2 (by omega))
        simp; omega
    · rcases hsub c hc with h2 | rfl
      · obtain ⟨i, c', hi, hc'⟩ := h.cov c h2
        have := (List.getElem?_eq_some_iff.1 hi).1
        exact ⟨i, c', by rw [List.getElem?_append_left this]; exact hi, hc'⟩
      · exact ⟨D.length, nw l n, by simp, Int.le_refl _⟩

theorem DI_all {l : Int} {ps : List Pr} (hok : OKs l ps) (h0 : 2 ≤ two l) (h1 : two l ≤ 256) : ∀ {n : Nat}, n ≤ ps.length → DI l ps (DD l ps n) n
  | 0, _ => DI.zero h0 h1
  | n + 1, h => (DI_all hok h0 h1 (by omega)).succ hok (by omega) h0 h1

theorem DI.same {l : Int} {ps : List Pr} {D : List (List UInt8 × Int)} {n : Nat} (h : DI l ps D n) {i j : Nat} {w : List UInt8} {c c' : Int} (hi : D[i]? = some (w, c)) (hj : D[j]? = some (w, c')) : i = j ∧ c = c' := by
  have hij : i = j := by
    have h1 : (D.map (·.1))[i]? = some w := by rw [List.getElem?_map, hi]; rfl
    have h2 : (D.map (·.1))[j]? = some w := by rw [List.getElem?_map, hj]; rfl
    exact (List.getElem?_inj (by simpa using (List.getElem?_eq_some_iff.1 hi).1) h.nodup).1 (by rw [h1, h2])
  subst hij
  rw [hi] at hj
  cases hj
  exact ⟨rfl, rfl⟩

/-- an entry's code is that of a word, and the least one -/
theorem DI.code {l : Int} {ps : List Pr} {D : List (List UInt8 × Int)} {n : Nat} (h : DI l ps D n) {i : Nat} {w : List UInt8} {c : Int} (hi : D[i]? = some (w, c)) :
    hw l n c = true ∧ W l ps c = w ∧ ∀ c', hw l n c' = true → W l ps c' = w → c ≤ c' := by
  refine ⟨?_, ?_, fun c' hc' he => ?_⟩
  · by_cases hl : two l ≤ (i : Int)
    · have := (h.non i w c hi hl).1
      exact hw_iff.2 (by unfold nw at this; omega)
    · rw [h.lit i (by omega)] at hi
      cases hi
      exact hw_iff.2 (by omega)
  · by_cases hl : two l ≤ (i : Int)
    · exact (h.non i w c hi hl).2.1
    · rw [h.lit i (by omega)] at hi
      cases hi
      rw [W_lit (by omega)]
      simp
  · obtain ⟨j, c'', hj, hle⟩ := h.cov c' hc'
    rw [he] at hj
    obtain ⟨_, rfl⟩ := h.same hi hj
    exact hle

theorem DI.pos {l : Int} {ps : List Pr} {D : List (List UInt8 × Int)} {n : Nat} (h : DI l ps D n) {i : Nat} {w : List UInt8} {c : Int} (hi : D[i]? = some (w, c)) : 1 ≤ w.length := by
  by_cases hl : two l ≤ (i : Int)
  · have := (h.non i w c hi hl).2.2; omega
  · rw [h.lit i (by omega)] at hi
    cases hi
    simp

/-! ### Nodes -/

structure Nd where
  parent : Int
  child : Int
  next : Int
  last : Int
  first : Int
  code : Int

/-- the last one below n of those whose parent is p, or -1 -/
def lastKid (f : Nat → Option Int) (p : Int) : Nat → Int
  | 0 => -1
  | n + 1 => if f n = some p then (n : Int) else lastKid f p n

theorem lastKid_congr {f g : Nat → Option Int} {p : Int} : ∀ {n : Nat}, (∀ j, j < n → f j = g j) → lastKid f p n = lastKid g p n
  | 0, _ => rfl
  | n + 1, h => by
    unfold lastKid
    rw [h n (by omega), lastKid_congr (n := n) fun j hj => h j (by omega)]

theorem lastKid_spec (f : Nat → Option Int) (p : Int) : ∀ n : Nat, (lastKid f p n = -1 ∧ ∀ j, j < n → f j ≠ some p) ∨ (∃ k : Nat, lastKid f p n = k ∧ k < n ∧ f k = some p ∧ ∀ j, k < j → j < n → f j ≠ some p)
  | 0 => .inl ⟨rfl, fun j h => by omega⟩
  | n + 1 => by
    unfold lastKid
    by_cases h : f n = some p
    · rw [if_pos h]
      exact .inr ⟨n, rfl, by omega, h, fun j h1 h2 => by omega⟩
    · rw [if_neg h]
      rcases lastKid_spec f p n with ⟨h1, h2⟩ | ⟨k, h1, h2, h3, h4⟩
      · exact .inl ⟨h1, fun j hj => by
          by_cases e : j = n
          · subst e; exact h
          · exact h2 j (by omega)⟩
      · exact .inr ⟨k, h1, by omega, h3, fun j q1 q2 => by
          by_cases e : j = n
          · subst e; exact h
          · exact h4 j q1 (by omega)⟩

def par (N : List Nd) (j : Nat) : Option Int := (N[j]?).map (·.parent)

def hd (w : List UInt8) : Int := ((w.head?).getD 0).toNat

theorem hd_bd (w : List UInt8) : 0 ≤ hd w ∧ hd w ≤ 255 := by
  unfold hd
  have := ((w.head?).getD 0).toNat_lt
  omega

/-- the nodes N are the tree of the words D -/
structure TN (l : Int) (D : List (List UInt8 × Int)) (N : List Nd) : Prop where
  len : N.length = D.length
  nd : ∀ (i : Nat) (d : Nd), N[i]? = some d → ∃ w c, D[i]? = some (w, c) ∧ d.code = c ∧ d.first = hd w ∧ d.child = lastKid (par N) i N.length ∧ (0 ≤ d.last ∧ d.last ≤ 255) ∧
    (((i : Int) < two l ∧ d.parent = -1 ∧ d.next = -1) ∨
      (two l ≤ (i : Int) ∧ 0 ≤ d.parent ∧ d.parent < i ∧ (∃ wp cp, D[d.parent.toNat]? = some (wp, cp) ∧ w = wp ++ [UInt8.ofNat d.last.toNat]) ∧ d.next = lastKid (par N) d.parent i))

theorem par_some {N : List Nd} {j : Nat} {d : Nd} (h : N[j]? = some d) : par N j = some d.parent := by simp [par, h]

theorem par_inv {N : List Nd} {j : Nat} {p : Int} (h : par N j = some p) : ∃ d, N[j]? = some d ∧ d.parent = p := by
  unfold par at h
  cases hn : N[j]? with
  | none => rw [hn] at h; cases h
  | some d => rw [hn] at h; exact ⟨d, rfl, by simpa using h⟩

/-- on the way along the children of p, looking for the byte b: at n -/
def Seek (N : List Nd) (p b n : Int) : Prop := ∃ k : Nat, k ≤ N.length ∧ n = lastKid (par N) p k ∧ ∀ (j : Nat) d, k ≤ j → N[j]? = some d → d.parent = p → d.last ≠ b

/-- the child of p with the byte b, or -1 -/
def Kid (N : List Nd) (p b r : Int) : Prop := (r = -1 ∧ ∀ (j : Nat) d, N[j]? = some d → d.parent = p → d.last ≠ b) ∨ (0 ≤ r ∧ ∃ d, N[r.toNat]? = some d ∧ d.parent = p ∧ d.last = b)

theorem Seek.start {l : Int} {D : List (List UInt8 × Int)} {N : List Nd} (h : TN l D N) {i : Nat} {d : Nd} (hd : N[i]? = some d) (b : Int) : Seek N i b d.child := by
  obtain ⟨w, c, _, _, _, h4, _⟩ := h.nd i d hd
  exact ⟨N.length, Nat.le_refl _, h4, fun j d' hj hj' => by
    have := (List.getElem?_eq_some_iff.1 hj').1
    omega⟩

theorem Seek.bd {N : List Nd} {p b n : Int} (h : Seek N p b n) : -1 ≤ n ∧ n < N.length := by
  obtain ⟨k, hk, rfl, _⟩ := h
  rcases lastKid_spec (par N) p k with ⟨h1, _⟩ | ⟨j, h1, h2, _⟩ <;> omega

theorem Seek.none {N : List Nd} {p b n : Int} (h : Seek N p b n) (hn : n < 0) : Kid N p b (-1) ∧ n = -1 := by
  obtain ⟨k, hk, rfl, h2⟩ := h
  rcases lastKid_spec (par N) p k with ⟨h1, h3⟩ | ⟨j, h1, _⟩
  · refine ⟨.inl ⟨rfl, fun j d hj hp => ?_⟩, h1⟩
    rcases Nat.lt_or_ge j k with h | h
    · exact absurd (by rw [par_some hj, hp]) (h3 j h)
    · exact h2 j d h hj hp
  · omega

theorem Seek.at {N : List Nd} {p b n : Int} (h : Seek N p b n) (hn : 0 ≤ n) : ∃ d, N[n.toNat]? = some d ∧ d.parent = p := by
  obtain ⟨k, hk, rfl, h2⟩ := h
  rcases lastKid_spec (par N) p k with ⟨h1, h3⟩ | ⟨j, h1, h3, h4, h5⟩
  · omega
  · obtain ⟨d, hd, hp⟩ := par_inv h4
    exact ⟨d, by rw [h1]; simpa using hd, hp⟩

theorem Seek.found {N : List Nd} {p b n : Int} (h : Seek N p b n) (hn : 0 ≤ n) {d : Nd} (hd : N[n.toNat]? = some d) (hb : d.last = b) : Kid N p b n := by
  obtain ⟨d', hd', hp⟩ := h.at hn
  rw [hd] at hd'
  cases hd'
  exact .inr ⟨hn, d, hd, hp, hb⟩

theorem Seek.next {l : Int} {D : List (List UInt8 × Int)} {N : List Nd} (ht : TN l D N) {p b n : Int} (h : Seek N p b n) (hp0 : 0 ≤ p) (hn : 0 ≤ n) {d : Nd} (hd : N[n.toNat]? = some d) (hb : d.last ≠ b) :
    Seek N p b d.next ∧ d.next < n := by
  obtain ⟨d', hd', hp⟩ := h.at hn
  rw [hd] at hd'
  cases hd'
  obtain ⟨k, hk, hnk, h2⟩ := h
  obtain ⟨w, c, _, _, _, _, _, h6⟩ := ht.nd _ _ hd
  have hnext : d.next = lastKid (par N) p n.toNat := by
    rcases h6 with ⟨_, h6, _⟩ | ⟨_, _, _, _, h6⟩
    · omega
    · rw [h6, hp]
  have hlt : d.next < n := by
    rw [hnext]
    rcases lastKid_spec (par N) p n.toNat with ⟨h1, _⟩ | ⟨j, h1, h3, _⟩ <;> omega
  refine ⟨⟨n.toNat, by have := (List.getElem?_eq_some_iff.1 hd).1; omega, hnext, fun j d2 hj hj2 hp2 => ?_⟩, hlt⟩
  rcases lastKid_spec (par N) p k with ⟨h1, h3⟩ | ⟨j0, h1, h3, h4, h5⟩
  · omega
  · have e : n.toNat = j0 := by omega
    by_cases e2 : j = n.toNat
    · subst e2
      rw [hd] at hj2
      cases hj2
      exact hb
    · rcases Nat.lt_or_ge j k with h | h
      · exact absurd (by rw [par_some hj2, hp2]) (h5 j (by omega) h)
      · exact h2 j d2 h hj2 hp2

/-- the child's word -/
theorem Kid.word {l : Int} {ps : List Pr} {D : List (List UInt8 × Int)} {n : Nat} {N : List Nd} (hD : DI l ps D n) (ht : TN l D N) {p b r : Int} (h : Kid N p b r) (hp0 : 0 ≤ p) (hb0 : 0 ≤ b) (hb1 : b ≤ 255)
    {wp : List UInt8} {cp : Int} (hp : D[p.toNat]? = some (wp, cp)) :
    (r = -1 ∧ wp ++ [UInt8.ofNat b.toNat] ∉ D.map (·.1)) ∨ (0 ≤ r ∧ ∃ c, D[r.toNat]? = some (wp ++ [UInt8.ofNat b.toNat], c)) := by
  rcases h with ⟨rfl, h⟩ | ⟨hr, d, hd, h1, h2⟩
  · refine .inl ⟨rfl, fun hm => ?_⟩
    rw [List.mem_map] at hm
    obtain ⟨⟨w, c⟩, hm, he⟩ := hm
    simp only at he
    obtain ⟨j, hj⟩ := List.getElem?_of_mem hm
    have hjl : j < N.length := by rw [ht.len]; exact (List.getElem?_eq_some_iff.1 hj).1
    have hnj : N[j]? = some N[j] := List.getElem?_eq_getElem hjl
    obtain ⟨w', c', h1, _, _, _, ⟨hl0, hl1⟩, h3⟩ := ht.nd j _ hnj
    rw [hj] at h1
    simp only [Option.some.injEq, Prod.mk.injEq] at h1
    obtain ⟨rfl, rfl⟩ := h1
    rcases h3 with ⟨h4, _⟩ | ⟨_, h4, _, ⟨wp', cp', h5, h6⟩, _⟩
    · have h5 := hD.lit j h4
      rw [hj] at h5
      simp only [Option.some.injEq, Prod.mk.injEq] at h5
      have hpos := hD.pos hp
      have := congrArg List.length (he.symm.trans h5.1)
      simp at this
      subst this
      simp at hpos
    · rw [he] at h6
      have h7 := List.append_inj' h6 rfl
      obtain ⟨h8, h9⟩ := h7
      subst h8
      obtain ⟨h10, _⟩ := hD.same hp h5
      simp only [List.cons.injEq, and_true] at h9
      have := ofNat_inj (by omega) (by omega) h9
      exact h j _ hnj (by omega) (by omega)
  · obtain ⟨w', c', e1, _, _, _, _, e3⟩ := ht.nd _ _ hd
    rcases e3 with ⟨_, e4, _⟩ | ⟨_, _, _, ⟨wp', cp', e5, e6⟩, _⟩
    · omega
    · rw [h1, hp] at e5
      cases e5
      rw [h2] at e6
      subst e6
      exact .inr ⟨hr, c', e1⟩

/-- a node more below p -/
def pushN (N : List Nd) (p b c : Int) (up : Nd) : List Nd := (N ++ [(Nd.mk p (-1) up.child b up.first c)]).set p.toNat { up with child := N.length }

theorem push_get {N : List Nd} {p b c : Int} {up : Nd} (hp0 : 0 ≤ p) (hup : N[p.toNat]? = some up) (j : Nat) :
    (pushN N p b c up)[j]? = if j = p.toNat then some { up with child := N.length } else if j = N.length then some (Nd.mk p (-1) up.child b up.first c) else N[j]? := by
  have hlt := (List.getElem?_eq_some_iff.1 hup).1
  unfold pushN
  rw [List.getElem?_set]
  by_cases h1 : p.toNat = j
  · subst h1
    rw [if_pos rfl, if_pos (by simp; omega), if_pos rfl]
  · rw [if_neg h1, if_neg (fun e => h1 e.symm)]
    by_cases h2 : j = N.length
    · subst h2; simp
    · rw [if_neg h2]
      by_cases h3 : j < N.length
      · rw [List.getElem?_append_left h3]
      · rw [List.getElem?_eq_none (by simp; omega), List.getElem?_eq_none (by omega)]

theorem push_par {N : List Nd} {p b c : Int} {up : Nd} (hp0 : 0 ≤ p) (hup : N[p.toNat]? = some up) (j : Nat) : par (pushN N p b c up) j = if j = N.length then some p else par N j := by
  have hlt := (List.getElem?_eq_some_iff.1 hup).1
  unfold par
  rw [push_get hp0 hup]
  by_cases h1 : j = p.toNat
  · subst h1
    rw [if_pos rfl, if_neg (by omega), hup]; rfl
  · rw [if_neg h1]
    by_cases h2 : j = N.length
    · rw [if_pos h2, if_pos h2]; rfl
    · rw [if_neg h2, if_neg h2]

theorem tn_push {l : Int} {ps : List Pr} {D : List (List UInt8 × Int)} {n : Nat} {N : List Nd} (hD : DI l ps D n) (ht : TN l D N) {p b c : Int} {up : Nd} (hp0 : 0 ≤ p) (hup : N[p.toNat]? = some up) (hb0 : 0 ≤ b) (hb1 : b ≤ 255)
    {wp : List UInt8} {cp : Int} (hp : D[p.toNat]? = some (wp, cp)) : TN l (D ++ [(wp ++ [UInt8.ofNat b.toNat], c)]) (pushN N p b c up) := by
  have hlt := (List.getElem?_eq_some_iff.1 hup).1
  have hlen : (pushN N p b c up).length = N.length + 1 := by simp [pushN]
  have hk : ∀ (q : Int) (j : Nat), j ≤ N.length → lastKid (par (pushN N p b c up)) q j = lastKid (par N) q j := fun q j hj =>
    lastKid_congr fun i hi => by rw [push_par hp0 hup, if_neg (by omega)]
  have hk1 : ∀ q : Int, lastKid (par (pushN N p b c up)) q (N.length + 1) = if q = p then (N.length : Int) else lastKid (par N) q N.length := fun q => by
    conv => lhs; unfold lastKid
    rw [push_par hp0 hup, if_pos rfl, hk q _ (Nat.le_refl _)]
    by_cases e : q = p
    · rw [if_pos (by rw [e]), if_pos e]
    · rw [if_neg (by simpa using fun h => e h.symm), if_neg e]
  have hDl : ∀ {i : Nat} {x : List UInt8 × Int}, D[i]? = some x → (D ++ [(wp ++ [UInt8.ofNat b.toNat], c)])[i]? = some x := fun {i x} hi => by
    rw [List.getElem?_append_left (List.getElem?_eq_some_iff.1 hi).1]; exact hi
  refine ⟨by rw [hlen, ht.len]; simp, fun i d hi => ?_⟩
  rw [push_get hp0 hup] at hi
  rw [hlen]
  by_cases h1 : i = p.toNat
  · subst h1
    rw [if_pos rfl] at hi
    cases hi
    obtain ⟨w, c', e1, e2, e3, e4, e5, e6⟩ := ht.nd _ _ hup
    refine ⟨w, c', hDl e1, e2, e3, ?_, e5, ?_⟩
    · rw [hk1, if_pos (by omega)]
    · rcases e6 with e6 | ⟨q1, q2, q3, ⟨wq, cq, q4, q5⟩, q6⟩
      · exact .inl e6
      · exact .inr ⟨q1, q2, q3, ⟨wq, cq, hDl q4, q5⟩, by rw [hk _ _ (by omega)]; exact q6⟩
  · rw [if_neg h1] at hi
    by_cases h2 : i = N.length
    · subst h2
      rw [if_pos rfl] at hi
      cases hi
      obtain ⟨w, c', e1, e2, e3, e4, e5, e6⟩ := ht.nd _ _ hup
      rw [hp] at e1
      cases e1
      refine ⟨_, c, by rw [ht.len]; simp, rfl, ?_, ?_, ⟨hb0, hb1⟩, .inr ⟨?_, hp0, by show p < _; omega, ⟨wp, cp, hDl hp, rfl⟩, ?_⟩⟩
      · rw [e3]
        unfold hd
        have hpos := hD.pos hp
        cases wp with
        | nil => simp at hpos
        | cons x xs => rfl
      · rw [hk1, if_neg (by omega)]
        rcases lastKid_spec (par N) (N.length : Int) N.length with ⟨h, _⟩ | ⟨k, _, h2, h3, _⟩
        · exact h.symm
        · exfalso
          obtain ⟨d, hd, hdp⟩ := par_inv h3
          obtain ⟨_, _, _, _, _, _, _, e7⟩ := ht.nd _ _ hd
          rcases e7 with ⟨_, e7, _⟩ | ⟨_, _, e7, _⟩ <;> omega
      · have := hD.len; rw [ht.len]; exact this
      · rw [hk _ _ (Nat.le_refl _), e4]
        rw [show ((p.toNat : Nat) : Int) = p by omega]
    · rw [if_neg h2] at hi
      have hil := (List.getElem?_eq_some_iff.1 hi).1
      obtain ⟨w, c', e1, e2, e3, e4, e5, e6⟩ := ht.nd _ _ hi
      refine ⟨w, c', hDl e1, e2, e3, ?_, e5, ?_⟩
      · rw [hk1, if_neg (by omega)]; exact e4
      · rcases e6 with e6 | ⟨q1, q2, q3, ⟨wq, cq, q4, q5⟩, q6⟩
        · exact .inl e6
        · exact .inr ⟨q1, q2, q3, ⟨wq, cq, hDl q4, q5⟩, by rw [hk _ _ (by omega)]; exact q6⟩

/-- the last node gone -/
theorem TN.pop {l : Int} {D : List (List UInt8 × Int)} {N : List Nd} {x : List UInt8 × Int} (ht : TN l (D ++ [x]) N) (hl : two l ≤ (D.length : Int)) {d up : Nd} (hd : N[D.length]? = some d) (hup : N[d.parent.toNat]? = some up) :
    TN l D ((N.set d.parent.toNat { up with child := d.next }).take D.length) ∧ 0 ≤ d.parent ∧ d.parent < D.length ∧ d.code = x.2 := by
  have hNl : N.length = D.length + 1 := by rw [ht.len]; simp
  obtain ⟨w, c, e1, e2, e3, e4, e5, e6⟩ := ht.nd _ _ hd
  rw [List.getElem?_append_right (Nat.le_refl _)] at e1
  simp at e1
  subst e1
  rcases e6 with ⟨e6, _⟩ | ⟨_, p0, p1, _, p2⟩
  · omega
  refine ⟨?_, p0, p1, e2⟩
  have hg : ∀ j : Nat, ((N.set d.parent.toNat { up with child := d.next }).take D.length)[j]? = if j < D.length then if j = d.parent.toNat then some { up with child := d.next } else N[j]? else none := fun j => by
    rw [List.getElem?_take]
    by_cases h1 : j < D.length
    · rw [if_pos h1, if_pos h1, List.getElem?_set]
      by_cases h2 : d.parent.toNat = j
      · rw [if_pos h2, if_pos h2.symm, if_pos (by omega)]
      · rw [if_neg h2, if_neg (fun e => h2 e.symm)]
    · rw [if_neg h1, if_neg h1]
  have hpar : ∀ j, j < D.length → par ((N.set d.parent.toNat { up with child := d.next }).take D.length) j = par N j := fun j hj => by
    unfold par
    rw [hg, if_pos hj]
    by_cases h2 : j = d.parent.toNat
    · rw [if_pos h2, h2, hup]; rfl
    · rw [if_neg h2]
  have hk : ∀ (q : Int) (j : Nat), j ≤ D.length → lastKid (par ((N.set d.parent.toNat { up with child := d.next }).take D.length)) q j = lastKid (par N) q j := fun q j hj =>
    lastKid_congr fun i hi => hpar i (by omega)
  have hlen : ((N.set d.parent.toNat { up with child := d.next }).take D.length).length = D.length := by simp; omega
  have hD : ∀ {i : Nat} {y : List UInt8 × Int}, (D ++ [(w, c)])[i]? = some y → i < D.length → D[i]? = some y := fun {i y} h1 h2 => by
    rwa [List.getElem?_append_left h2] at h1
  have hkl : ∀ q : Int, q ≠ d.parent → lastKid (par N) q N.length = lastKid (par N) q D.length := fun q hq => by
    rw [hNl]
    conv => lhs; unfold lastKid
    rw [if_neg (by rw [par_some hd]; simpa using fun h => hq h.symm)]
  refine ⟨hlen, fun i di hi => ?_⟩
  rw [hg] at hi
  by_cases h1 : i < D.length
  · rw [if_pos h1] at hi
    rw [hlen, hk _ _ (Nat.le_refl _)]
    by_cases h2 : i = d.parent.toNat
    · rw [if_pos h2] at hi
      cases hi
      obtain ⟨w', c', e1, e2, e3, e4, e5, e6⟩ := ht.nd _ _ hup
      refine ⟨w', c', hD (by rw [h2]; exact e1) h1, e2, e3, ?_, e5, ?_⟩
      · rw [show ((i : Nat) : Int) = d.parent by omega]; exact p2
      · rcases e6 with e6 | ⟨q1, q2, q3, ⟨wq, cq, q4, q5⟩, q6⟩
        · exact .inl ⟨by omega, e6.2⟩
        · exact .inr ⟨by omega, q2, by show up.parent < _; omega, ⟨wq, cq, hD q4 (by show up.parent.toNat < _; omega), q5⟩, by rw [hk _ _ (by omega), h2]; exact q6⟩
    · rw [if_neg h2] at hi
      obtain ⟨w', c', e1, e2, e3, e4, e5, e6⟩ := ht.nd _ _ hi
      refine ⟨w', c', hD e1 h1, e2, e3, ?_, e5, ?_⟩
      · rw [← hkl _ (by omega)]; exact e4
      · rcases e6 with e6 | ⟨q1, q2, q3, ⟨wq, cq, q4, q5⟩, q6⟩
        · exact .inl e6
        · exact .inr ⟨q1, q2, q3, ⟨wq, cq, hD q4 (by omega), q5⟩, by rw [hk _ _ (by omega)]; exact q6⟩
  · rw [if_neg h1] at hi; cases hi

/-- the nodes of the pairs -/
def PN (l : Int) (ps : List Pr) (D : List (List UInt8 × Int)) (pn : List Int) : Prop := ∀ (j : Nat) (i : Int), pn[j]? = some i → 0 ≤ i ∧ ∃ c, D[i.toNat]? = some (W l ps (nw l j), c)

/-- nodes N and pairs' nodes pn are the tree of the pairs ps -/
structure TI (l : Int) (ps : List Pr) (N : List Nd) (pn : List Int) : Prop where
  tn : TN l (DD l ps ps.length) N
  len : pn.length = ps.length
  pn : PN l ps (DD l ps ps.length) pn

theorem DD_mono {l : Int} {ps : List Pr} {n i : Nat} {x : List UInt8 × Int} (h : (DD l ps n)[i]? = some x) : (DD l ps (n + 1))[i]? = some x := by
  show (dadd _ _ _)[i]? = _
  unfold dadd
  split
  · exact h
  · rw [List.getElem?_append_left (List.getElem?_eq_some_iff.1 h).1]; exact h

/-- the node of a code -/
theorem TI.node {l : Int} {ps : List Pr} {N : List Nd} {pn : List Int} (h : TI l ps N pn) (hD : DI l ps (DD l ps ps.length) ps.length) {c : Int} (hc : hw l ps.length c = true) :
    (¬ two l + 1 < c ∧ 0 ≤ c ∧ ∃ c', (DD l ps ps.length)[c.toNat]? = some (W l ps c, c')) ∨
    (two l + 1 < c ∧ ∃ i, pn[(c - (two l + 1)).toNat - 1]? = some i ∧ 0 ≤ i ∧ ∃ c', (DD l ps ps.length)[i.toNat]? = some (W l ps c, c')) := by
  have h1 := hw_iff.1 hc
  by_cases h2 : two l + 1 < c
  · obtain ⟨k, hk, rfl⟩ := hw_pair hc h2
    have e : (nw l k - (two l + 1)).toNat - 1 = k := by unfold nw; omega
    rw [e]
    have hkl : k < pn.length := by rw [h.len]; omega
    have hp : pn[k]? = some (pn[k]'hkl) := List.getElem?_eq_getElem hkl
    exact .inr ⟨h2, _, hp, h.pn k _ hp⟩
  · refine .inl ⟨h2, by omega, c, ?_⟩
    rw [hD.lit c.toNat (by omega), W_lit h2]
    simp; omega

theorem nil_ok {l : Int} : OKs l [] := fun j p h => by simp at h

theorem OKs.snoc {l : Int} {ps : List Pr} {p : Pr} (h : OKs l ps) (hp : okP l ps.length p) : OKs l (ps ++ [p]) := fun j q hj => by
  by_cases h1 : j < ps.length
  · rw [List.getElem?_append_left h1] at hj; exact h j q hj
  · rw [List.getElem?_append_right (by omega)] at hj
    have : j - ps.length = 0 := by
      have := (List.getElem?_eq_some_iff.1 hj).1
      simp at this; omega
    rw [this] at hj
    simp at hj
    subst hj
    rw [show j = ps.length by omega]; exact hp

theorem OKs.take {l : Int} {ps : List Pr} (h : OKs l ps) (k : Nat) : OKs l (ps.take k) := fun j q hj => by
  rw [List.getElem?_take] at hj
  split at hj
  · exact h j q hj
  · cases hj

theorem DD_snoc {l : Int} {ps : List Pr} {p : Pr} (hok : OKs l (ps ++ [p])) : DD l (ps ++ [p]) (ps ++ [p]).length = dadd (DD l ps ps.length) (W l ps p.p ++ [UInt8.ofNat p.b.toNat]) (nw l ps.length) := by
  have hp : (ps ++ [p])[ps.length]? = some p := by simp
  have h1 := hw_iff.1 (hok _ _ hp).1
  rw [show (ps ++ [p]).length = ps.length + 1 by simp]
  show dadd _ _ _ = _
  rw [DD_app (Nat.le_refl _), W_pair hok hp, W_app (by unfold nw; omega)]

theorem PN.mono {l : Int} {ps : List Pr} {D : List (List UInt8 × Int)} {pn : List Int} (h : PN l ps D pn) (hlen : pn.length = ps.length) {p : Pr} {D' : List (List UInt8 × Int)} (hD : ∀ (i : Nat) x, D[i]? = some x → D'[i]? = some x) {r : Int} (hr : 0 ≤ r)
    (hr2 : ∃ c, D'[r.toNat]? = some (W l (ps ++ [p]) (nw l ps.length), c)) : PN l (ps ++ [p]) D' (pn ++ [r]) := fun j i hj => by
  by_cases h1 : j < pn.length
  · rw [List.getElem?_append_left h1] at hj
    obtain ⟨q1, c, q2⟩ := h j i hj
    exact ⟨q1, c, by rw [W_app (by unfold nw; omega)]; exact hD _ _ q2⟩
  · rw [List.getElem?_append_right (by omega)] at hj
    have : j - pn.length = 0 := by
      have := (List.getElem?_eq_some_iff.1 hj).1
      simp at this; omega
    rw [this] at hj
    simp at hj
    subst hj
    rw [show j = ps.length by omega]
    exact ⟨hr, hr2⟩

/-- a pair learned whose word is there already -/
theorem TI.old {l : Int} {ps : List Pr} {N : List Nd} {pn : List Int} {p : Pr} (h : TI l ps N pn) (hok : OKs l (ps ++ [p])) {r c : Int} (hr : 0 ≤ r) (hr2 : (DD l ps ps.length)[r.toNat]? = some (W l ps p.p ++ [UInt8.ofNat p.b.toNat], c)) :
    TI l (ps ++ [p]) N (pn ++ [r]) := by
  have hp : (ps ++ [p])[ps.length]? = some p := by simp
  have h1 := hw_iff.1 (hok _ _ hp).1
  have hm : W l ps p.p ++ [UInt8.ofNat p.b.toNat] ∈ (DD l ps ps.length).map (·.1) := List.mem_map.2 ⟨_, List.mem_of_getElem? hr2, rfl⟩
  have hD : DD l (ps ++ [p]) (ps ++ [p]).length = DD l ps ps.length := by rw [DD_snoc hok]; unfold dadd; rw [if_pos hm]
  refine ⟨by rw [hD]; exact h.tn, by simp [h.len], ?_⟩
  rw [hD]
  exact h.pn.mono h.len (fun i x hx => hx) hr ⟨c, by rw [W_pair hok hp, W_app (by unfold nw; omega)]; exact hr2⟩

/-- a pair learned whose word is new -/
theorem TI.new {l : Int} {ps : List Pr} {N : List Nd} {pn : List Int} {p : Pr} (h : TI l ps N pn) (hok : OKs l (ps ++ [p])) (hD : DI l ps (DD l ps ps.length) ps.length) (h256 : two l ≤ 256) {q cq : Int} {up : Nd} (hq : 0 ≤ q) (hup : N[q.toNat]? = some up)
    (hqw : (DD l ps ps.length)[q.toNat]? = some (W l ps p.p, cq)) (hno : W l ps p.p ++ [UInt8.ofNat p.b.toNat] ∉ (DD l ps ps.length).map (·.1)) :
    TI l (ps ++ [p]) (pushN N q p.b (nw l ps.length) up) (pn ++ [(N.length : Int)]) := by
  have hp : (ps ++ [p])[ps.length]? = some p := by simp
  have hpo := hok _ _ hp
  have h1 := hw_iff.1 hpo.1
  have hb1 : p.b ≤ 255 := by have := hpo.2.2; omega
  have hDe : DD l (ps ++ [p]) (ps ++ [p]).length = DD l ps ps.length ++ [(W l ps p.p ++ [UInt8.ofNat p.b.toNat], nw l ps.length)] := by rw [DD_snoc hok]; unfold dadd; rw [if_neg hno]
  refine ⟨?_, by simp [h.len], ?_⟩
  · rw [hDe]
    exact tn_push hD h.tn hq hup hpo.2.1 hb1 hqw
  · rw [hDe]
    refine h.pn.mono h.len (fun i x hx => by rw [List.getElem?_append_left (List.getElem?_eq_some_iff.1 hx).1]; exact hx) (by omega) ⟨nw l ps.length, ?_⟩
    rw [W_pair hok hp, W_app (by unfold nw; omega), h.tn.len]
    simp

theorem TI.bounds {l : Int} {ps : List Pr} {N : List Nd} {pn : List Int} (h : TI l ps N pn) (hD : DI l ps (DD l ps ps.length) ps.length) : two l ≤ (N.length : Int) ∧ (N.length : Int) ≤ two l + ps.length := by
  rw [h.tn.len]; exact ⟨hD.len, hD.len2⟩

end Go.Proofs.Ytbedikodiboofaa
