/- Plain: the text of what is known, cut into its parts. -/
import Derived.Test.YtmddcbebaijjkaaGreatDoorPid
import Derived.Test.YtmddcbebaijjkaaGreatDoorRng
namespace Go.Proofs.YtmddcbebaijjkaaGreatDoor
open Go.RowKit
set_option linter.unusedVariables false
set_option linter.unusedSimpArgs false

theorem joinB_in {s : ByteArray} {x : UInt8} : ∀ {xs : List ByteArray}, x ∈ (joinB s xs).data.toList → x ∈ s.data.toList ∨ ∃ y ∈ xs, x ∈ y.data.toList
  | [], h => by simp [joinB] at h
  | [y], h => .inr ⟨y, by simp, h⟩
  | y :: z :: r, h => by
    rw [joinB] at h
    simp only [ByteArray.data_append, Array.toList_append, List.mem_append] at h
    rcases h with (h | h) | h
    · exact .inr ⟨y, by simp, h⟩
    · exact .inl h
    · rcases joinB_in h with h | ⟨u, hu, h⟩
      · exact .inl h
      · exact .inr ⟨u, by simp at hu ⊢; right; exact hu, h⟩

theorem joinB_ge {s x : ByteArray} : ∀ {xs : List ByteArray}, x ∈ xs → x.size ≤ (joinB s xs).size
  | [y], h => by rw [List.mem_singleton] at h; subst h; exact Nat.le_refl _
  | y :: z :: r, h => by
    rw [joinB, ByteArray.size_append, ByteArray.size_append]
    rcases List.mem_cons.1 h with h | h
    · subst h; omega
    · have := joinB_ge (s := s) h; omega

theorem decB_pos (n : Int) : 1 ≤ (decB n).size := by
  have hd := fun k : Nat => show 1 ≤ (Lib.decDigits k).length by
    have := dig_ne k
    cases h : Lib.decDigits k with
    | nil => exact absurd h this
    | cons a r => simp
  show 1 ≤ (Lib.itoa n).toArray.size
  rw [List.size_toArray]
  unfold Lib.itoa
  split
  · simp
  · exact hd n.toNat

theorem prT_pos (p : Pr) : 3 ≤ (prT p).size := by
  unfold prT
  rw [ByteArray.size_append, ByteArray.size_append]
  have := decB_pos p.p
  have := decB_pos p.b
  show _ ≤ _ + 1 + _
  omega

theorem prT_byte {p : Pr} {x : UInt8} (h : x ∈ (prT p).data.toList) : x.toNat = 45 ∨ x.toNat = 46 ∨ (48 ≤ x.toNat ∧ x.toNat ≤ 57) := by
  unfold prT at h
  simp only [ByteArray.data_append, Array.toList_append, List.mem_append] at h
  rcases h with (h | h) | h
  · rcases decB_byte h with h | h
    · exact .inl h
    · exact .inr (.inr h)
  · have : x = 46 := by simpa using h
    subst this
    exact .inr (.inl rfl)
  · rcases decB_byte h with h | h
    · exact .inl h
    · exact .inr (.inr h)

/-- the pairs' text -/
def prsJ (ps : List Pr) : ByteArray := joinB ⟨#[44]⟩ (ps.map prT)

theorem prs_cut {ps : List Pr} (h : ps ≠ []) : cutB 44 (prsJ ps) = ps.map prT := by
  refine cutB_joinB (by simpa using h) (fun x hx y hy e => ?_)
  obtain ⟨p, _, rfl⟩ := List.mem_map.1 hx
  subst e
  have e4 : (44 : UInt8).toNat = 44 := rfl
  have := prT_byte hy
  rw [e4] at this
  omega

theorem prsJ_ge {ps : List Pr} (h : ps ≠ []) : 3 ≤ (prsJ ps).size := by
  cases ps with
  | nil => exact absurd rfl h
  | cons p r =>
    have h1 := joinB_ge (s := ⟨#[44]⟩) (x := prT p) (xs := (p :: r).map prT) (by simp)
    have := prT_pos p
    unfold prsJ
    omega

theorem orD_prs (ps : List Pr) : (ps = [] → orD (prsJ ps) = ⟨#[45]⟩) ∧ (ps ≠ [] → orD (prsJ ps) = prsJ ps ∧ prsJ ps ≠ ⟨#[45]⟩) := by
  refine ⟨fun h => by subst h; rfl, fun h => ?_⟩
  have := prsJ_ge h
  refine ⟨orD_some (by omega), fun e => ?_⟩
  rw [e] at this
  exact absurd this (by decide)

theorem prs_byte {ps : List Pr} {x : UInt8} (h : x ∈ (orD (prsJ ps)).data.toList) : x.toNat ≠ 59 := by
  by_cases h0 : ps = []
  · rw [(orD_prs ps).1 h0] at h
    have : x = 45 := by simpa using h
    subst this
    decide
  · rw [((orD_prs ps).2 h0).1] at h
    rcases joinB_in h with h | ⟨y, hy, h⟩
    · have : x = 44 := by simpa using h
      subst this
      decide
    · obtain ⟨p, _, rfl⟩ := List.mem_map.1 hy
      have := prT_byte h
      omega

theorem setT_byte {o l m : Int} {x : UInt8} (h : x ∈ (setT o l m).data.toList) : x.toNat ≠ 59 := by
  rw [setT_join] at h
  rcases joinB_in h with h | ⟨y, hy, h⟩
  · have : x = 32 := by simpa using h
    subst this
    decide
  · simp only [List.mem_cons, List.not_mem_nil, or_false] at hy
    rcases hy with rfl | rfl | rfl
    · unfold ordT at h
      split at h
      · have : ∀ y ∈ [(104 : UInt8), 105, 103, 104], y.toNat ≠ 59 := by decide
        exact this x h
      · have : ∀ y ∈ [(108 : UInt8), 111, 119], y.toNat ≠ 59 := by decide
        exact this x h
    · have := decB_byte h; omega
    · have := decB_byte h; omega

theorem knT_cut (o l m : Int) (ps : List Pr) (b la : Int) : cutB 59 (knT o l m ps b la) = [setT o l m, decB b, decB la, orD (prsJ ps)] := by
  refine cutB_joinB (by simp) (fun x hx y hy e => ?_)
  subst e
  have e5 : (59 : UInt8).toNat = 59 := rfl
  simp only [List.mem_cons, List.not_mem_nil, or_false] at hx
  rcases hx with rfl | rfl | rfl | rfl
  · exact setT_byte hy rfl
  · have := decB_byte hy; omega
  · have := decB_byte hy; omega
  · exact prs_byte hy rfl

theorem kn_parts {t f0 f1 f2 f3 : ByteArray} (hx : cutB 59 t = [f0, f1, f2, f3]) {o l m : Int} {ps : List Pr} {b la : Int} (ht : t = knT o l m ps b la) : f0 = setT o l m ∧ f1 = decB b ∧ f2 = decB la ∧ f3 = orD (prsJ ps) := by
  rw [ht, knT_cut] at hx
  injection hx with h1 h2
  injection h2 with h2 h3
  injection h3 with h3 h4
  injection h4 with h4 h5
  exact ⟨h1.symm, h2.symm, h3.symm, h4.symm⟩

theorem kn_miss {t : ByteArray} (hx : (cutB 59 t).length ≠ 4) (o l m : Int) (ps : List Pr) (b la : Int) : t ≠ knT o l m ps b la := by
  intro h
  rw [h, knT_cut] at hx
  exact hx rfl

theorem kn_back {t f0 f1 f2 f3 : ByteArray} (hx : cutB 59 t = [f0, f1, f2, f3]) : t = joinB ⟨#[59]⟩ [f0, f1, f2, f3] := by rw [← hx, joinB_cutB]

theorem KV.all64 {o l m : Int} {ps : List Pr} {base last : Int} (h : KV o l m ps base last) : I64 base ∧ I64 last ∧ ∀ (i : Nat) (p : Pr), ps[i]? = some p → I64 p.p ∧ I64 p.b := by
  obtain ⟨_, h1, h2, h3⟩ := h.nums
  exact ⟨h1.i64, h2.i64, fun i p hp => ⟨(h3 i p hp).1.i64, (h3 i p hp).2.i64⟩⟩

/-- what reading what is known gives -/
def RetPk (w : World) (t : ByteArray) (e : Ending) (w' : World) : Prop := ∃ (o l m : Int) (ps : List Pr) (b la : Int) (ok : Bool),
  RetO w (fun a0 c0 => .tuple #[.agg #[.int .i64 o, .int .i64 l, .int .i64 m, .slice a0 ps.length c0, .int .i64 b, .int .i64 la], .bool ok]) ps e w' ∧
  (ok = true → kvb o l m ps b la = true ∧ t = knT o l m ps b la) ∧ (ok = false → o = 0 ∧ l = 0 ∧ m = 0 ∧ ps = [] ∧ b = 0 ∧ la = 0) ∧
  ∀ (o' l' m' : Int) (ps' : List Pr) (b' la' : Int), kvb o' l' m' ps' b' la' = true → t = knT o' l' m' ps' b' la' → ok = true ∧ o = o' ∧ l = l' ∧ m = m' ∧ ps = ps' ∧ b = b' ∧ la = la'

/-- texts read as pairs, the first k of them -/
structure Ptx (tx : List ByteArray) (ys : List Pr) (k : Nat) : Prop where
  len : ys.length = k
  txt : tx.take k = ys.map prT
  uni : ∀ ps' : List Pr, (∀ (i : Nat) (p : Pr), ps'[i]? = some p → I64 p.p ∧ I64 p.b) → tx = ps'.map prT → ys = ps'.take k

theorem Ptx.zero (tx : List ByteArray) : Ptx tx [] 0 := ⟨rfl, rfl, fun _ _ _ => by simp⟩

theorem Ptx.nx {tx : List ByteArray} {ys : List Pr} {k : Nat} (h : Ptx tx ys k) {u : ByteArray} (hu : tx[k]? = some u) {n1 n2 : Int} (h1 : u = prT ⟨n1, n2⟩) (h2 : ∀ q : Pr, I64 q.p → I64 q.b → u = prT q → n1 = q.p ∧ n2 = q.b) : Ptx tx (ys ++ [⟨n1, n2⟩]) (k + 1) := by
  refine ⟨by rw [List.length_append, h.len]; rfl, ?_, fun ps' hp ht => ?_⟩
  · rw [take_snoc hu, List.map_append, h.txt, h1]; rfl
  · have h3 := h.uni ps' hp ht
    rw [ht, List.getElem?_map] at hu
    cases hq : ps'[k]? with
    | none => rw [hq] at hu; cases hu
    | some q =>
      rw [hq] at hu
      injection hu with hu
      obtain ⟨h4, h5⟩ := hp k q hq
      obtain ⟨h6, h7⟩ := h2 q h4 h5 hu.symm
      rw [take_snoc hq, h3, h6, h7]

/-- a text that is no pair -/
theorem ptx_bad {tx : List ByteArray} {k : Nat} {u : ByteArray} (hu : tx[k]? = some u) (h2 : ∀ q : Pr, I64 q.p → I64 q.b → u ≠ prT q) : ∀ ps' : List Pr, (∀ (i : Nat) (p : Pr), ps'[i]? = some p → I64 p.p ∧ I64 p.b) → tx ≠ ps'.map prT := by
  intro ps' hp ht
  rw [ht, List.getElem?_map] at hu
  cases hq : ps'[k]? with
  | none => rw [hq] at hu; cases hu
  | some q =>
    rw [hq] at hu
    injection hu with hu
    obtain ⟨h4, h5⟩ := hp k q hq
    exact h2 q h4 h5 hu.symm

/-- texts are pairs of a known's text -/
theorem ptx_of {t f0 f1 f2 f3 : ByteArray} (hx : cutB 59 t = [f0, f1, f2, f3]) (h3 : f3 ≠ ⟨#[45]⟩) {o l m : Int} {ps : List Pr} {b la : Int} (ht : t = knT o l m ps b la) : cutB 44 f3 = ps.map prT := by
  have h4 := (kn_parts hx ht).2.2.2
  by_cases h0 : ps = []
  · rw [(orD_prs ps).1 h0] at h4; exact absurd h4 h3
  · rw [((orD_prs ps).2 h0).1] at h4
    rw [h4, prs_cut h0]

theorem ptx_none {t f0 f1 f2 f3 : ByteArray} (hx : cutB 59 t = [f0, f1, f2, f3]) (h3 : f3 = ⟨#[45]⟩) {o l m : Int} {ps : List Pr} {b la : Int} (ht : t = knT o l m ps b la) : ps = [] := by
  have h4 := (kn_parts hx ht).2.2.2
  by_cases h0 : ps = []
  · exact h0
  · have h5 := (orD_prs ps).2 h0
    rw [h5.1, h3] at h4
    exact absurd h4.symm h5.2

/-- the whole text, out of its parts -/
theorem kn_whole {t f0 f1 f2 f3 : ByteArray} (hx : cutB 59 t = [f0, f1, f2, f3]) {o l m : Int} {ps : List Pr} {b la : Int} (h0 : f0 = setT o l m) (h1 : f1 = decB b) (h2 : f2 = decB la) (h3 : f3 = orD (prsJ ps)) : t = knT o l m ps b la := by
  rw [kn_back hx, h0, h1, h2, h3]; rfl

theorem f3_of {f3 : ByteArray} {ys : List Pr} (h : cutB 44 f3 = ys.map prT) : f3 = orD (prsJ ys) := by
  have h0 : ys ≠ [] := by
    intro e
    subst e
    have h1 := cutB_len 44 f3
    rw [h] at h1
    simp at h1
  rw [((orD_prs ys).2 h0).1]
  unfold prsJ
  rw [← h, joinB_cutB]

end Go.Proofs.YtmddcbebaijjkaaGreatDoor
