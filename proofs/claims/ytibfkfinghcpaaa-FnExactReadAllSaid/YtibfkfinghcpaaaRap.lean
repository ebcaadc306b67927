/- Reading in parts: a function over a list of parts, in plain Lean. -/
import Derived.Test.YtibfkfinghcpaaaGv
import Derived.Test.YtibfkfinghcpaaaTss
namespace Go.Proofs.Ytibfkfinghcpaaa
open Go.RowKit
set_option linter.unusedVariables false
set_option linter.unusedSimpArgs false

/-- what is read from parts -/
noncomputable def raL (o l m : Int) (b : Nat) : List ByteArray → Rdr → ByteArray → Int → Option (Rdr × ByteArray × Int)
  | [], x, d, n => some (x, d, n)
  | u :: us, x, d, n => if 4000 < u.size then none else raL o l m b us (rsX o l m b x u) (d ++ rsD o l m b x u) (n + rsU o l m b x u)

def raD : Option (Rdr × ByteArray × Int) → ByteArray
  | none => ⟨#[]⟩
  | some t => t.2.1

def raE : Option (Rdr × ByteArray × Int) → Int
  | none => 4
  | some t => t.1.e

def raN : Option (Rdr × ByteArray × Int) → Int
  | none => 0
  | some t => t.2.2

/-- the reader that begins -/
def rd0 (ps : List Pr) (last : Int) : Rdr := ⟨ps, last, ⟨#[]⟩, 0, 0, 1⟩

/-- behind the first k parts -/
structure RaI (o l m : Int) (b : Nat) (us : List ByteArray) (T : Option (Rdr × ByteArray × Int)) (k : Nat) (x : Rdr) (d : ByteArray) (n : Int) : Prop where
  le : k ≤ us.length
  ok : Rdv o l m b x
  siz : x.z = d.size
  n0 : 0 ≤ n
  n1 : n ≤ sumZ (us.take k)
  tot : raL o l m b (us.drop k) x d n = T

section
variable {o l m : Int} {b : Nat} {us : List ByteArray} {T : Option (Rdr × ByteArray × Int)} {k : Nat} {x : Rdr} {d : ByteArray} {n : Int} {u : ByteArray}

theorem RaI.dsz (h : RaI o l m b us T k x d n) : d.size ≤ 2000 := by
  have h1 := (rdb_parts h.ok).2.z1
  have h2 := h.siz
  omega

theorem RaI.step (h : RaI o l m b us T k x d n) (hu : us[k]? = some u) (h4 : u.size ≤ 4000) : RaI o l m b us T (k + 1) (rsX o l m b x u) (d ++ rsD o l m b x u) (n + rsU o l m b x u) := by
  have F := rfx (u := u) h.ok h4
  have hk := (List.getElem?_eq_some_iff.1 hu).1
  have h0 := F.used0
  have h1 := F.used1
  have h2 := h.n0
  have h3 := h.n1
  have hs := sumZ_step us k u hu
  refine ⟨hk, F.ok, ?_, by omega, by omega, ?_⟩
  · rw [F.siz, h.siz, ByteArray.size_append]
    omega
  · have ht := h.tot
    rw [List.drop_eq_getElem_cons hk, (List.getElem?_eq_some_iff.1 hu).2] at ht
    unfold raL at ht
    rwa [if_neg (by omega)] at ht

theorem RaI.fail (h : RaI o l m b us T k x d n) (hu : us[k]? = some u) (h4 : 4000 < u.size) : T = none := by
  have hk := (List.getElem?_eq_some_iff.1 hu).1
  have ht := h.tot
  rw [List.drop_eq_getElem_cons hk, (List.getElem?_eq_some_iff.1 hu).2] at ht
  unfold raL at ht
  rw [if_pos h4] at ht
  exact ht.symm

theorem RaI.done (h : RaI o l m b us T us.length x d n) : T = some (x, d, n) := by
  have ht := h.tot
  rw [List.drop_length] at ht
  exact ht.symm

end

theorem rd0_ok {o l m : Int} {b : Nat} {ps : List Pr} {last : Int} (hk : kvb o l m ps b last = true) : Rdv o l m b (rd0 ps last) := by
  unfold Rdv rd0 rdb
  show (kvb o l m ps b last && rvb l m ps.length last ⟨#[]⟩ 0 0 1) = true
  rw [hk, Bool.true_and]
  refine rvb_iff.2 ⟨bitsB_bv.2 ⟨by decide, fun x hx => by simp at hx⟩, by decide, by decide, by decide, by decide, .inl ⟨rfl, ?_, by decide⟩⟩
  have := (wd_pos (kvb_iff.1 hk)).1
  show ((0 : Nat) : Int) < _
  omega

theorem RaI.zero {o l m : Int} {b : Nat} {us : List ByteArray} {ps : List Pr} {last : Int} {T : Option (Rdr × ByteArray × Int)} (hk : kvb o l m ps b last = true) (hT : raL o l m b us (rd0 ps last) ⟨#[]⟩ 0 = T) : RaI o l m b us T 0 (rd0 ps last) ⟨#[]⟩ 0 :=
  ⟨Nat.zero_le _, rd0_ok hk, rfl, Int.le_refl _, by simp [sumZ], by rw [List.drop_zero]; exact hT⟩

theorem rd_patchQ {α : Type} {E : Enc α} {w : World} {a : Option Addr} {cap : Nat} {xs : List α} (h : Rd E w a cap xs) (b : Nat) (o : Obj) (hb : ∀ A, a = some A → 0 < cap → A.block ≠ b) : Rd E (patch w b o) a cap xs := by
  rcases Nat.eq_zero_or_pos cap with h0 | h0
  · exact ⟨h.1, h.2.1, .inl h0⟩
  · exact rd_patch h b o fun A hA => hb A hA h0

/-- a reader's block (D) and the parts -/
structure KQ (w wr : World) (D : Nat) (kb : Obj) (pa : Option Addr) (pcap : Nat) (us : List ByteArray) (A : Option Addr) (c : Nat) (ts : List Pr) : Prop where
  blk : wr.heap[D]? = some kb
  rs : Rd encS wr pa pcap us
  ra : Rd encP wr A c ts
  off : ∀ Y, pa = some Y → 0 < pcap → Y.block ≠ D
  bel : Below w.heap.size w wr
  low : w.heap.size ≤ D

section
variable {w wr w' : World} {D : Nat} {kb : Obj} {pa : Option Addr} {pcap : Nat} {us : List ByteArray} {A : Option Addr} {c : Nat} {ts : List Pr}

theorem KQ.lt (h : KQ w wr D kb pa pcap us A c ts) : D < wr.heap.size := (Array.getElem?_eq_some_iff.1 h.blk).1

theorem KQ.more (h : KQ w wr D kb pa pcap us A c ts) (hm : More wr w') : KQ w w' D kb pa pcap us A c ts := by
  obtain ⟨x, rfl⟩ := hm
  have h1 := h.lt
  have h2 := h.low
  exact ⟨blk_plus h.blk x, Rd.plus h.rs x, Rd.plus h.ra x, h.off, below_plus h.bel (by omega) x, h.low⟩

/-- the block turned, and pairs of a call's own -/
theorem KQ.step {x : Ext} {cur : Array Value} {t : TypeId} {pa2 : Option Addr} {pc2 : Nat} {vs : List Pr} (h : KQ w wr D kb pa pcap us A c ts) (hown : Own encP 137 (Go.Proofs.Ytibfkfinghcpaaa.plus wr x) pa2 pc2 vs wr.heap.size) :
    KQ w (Go.Proofs.Ytibfkfinghcpaaa.plus (patch wr D (.cells cur t)) x) D (.cells cur t) pa pcap us pa2 pc2 vs := by
  have hlt := h.lt
  have hlow := h.low
  have hlo2 := own_lt hown
  have hown2 := own_swap (w2 := patch wr D (.cells cur t)) hown (by simp) (by simp)
  exact ⟨blk_plus (patch_at _ _ _ hlt) x, Rd.plus (rd_patchQ h.rs _ _ h.off) x, hown2.rd, h.off, below_plus (below_patch h.bel (by omega) _) (by simp; omega) x, hlow⟩

end

end Go.Proofs.Ytibfkfinghcpaaa
