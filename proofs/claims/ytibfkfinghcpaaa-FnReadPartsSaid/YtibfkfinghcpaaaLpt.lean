/- The law ReadParts: the walk. -/
import Derived.Test.YtibfkfinghcpaaaGw
import Derived.Test.YtibfkfinghcpaaaLrs
import Derived.Test.YtibfkfinghcpaaaGv
namespace Go.Proofs.Ytibfkfinghcpaaa
open Go.RowKit
set_option linter.unusedVariables false
set_option linter.unusedSimpArgs false

/-- the first parts of three, together -/
def preK (p1 p2 p3 : ByteArray) : Nat → ByteArray
  | 0 => ⟨#[]⟩
  | 1 => p1
  | 2 => p1 ++ p2
  | _ => p1 ++ p2 ++ p3

/-- a part of three -/
def partK (p1 p2 p3 : ByteArray) : Nat → ByteArray
  | 0 => p1
  | 1 => p2
  | _ => p3

theorem preK_step {p1 p2 p3 : ByteArray} {k : Nat} (h : k < 3) : preK p1 p2 p3 (k + 1) = preK p1 p2 p3 k ++ partK p1 p2 p3 k ∧ (preK p1 p2 p3 k).size + (partK p1 p2 p3 k).size ≤ (p1 ++ p2 ++ p3).size ∧
    (#[Value.string p1, Value.string p2, Value.string p3] : Array Value)[k]? = some (.string (partK p1 p2 p3 k)) := by
  have hz : (⟨#[]⟩ : ByteArray).size = 0 := rfl
  rcases (by omega : k = 0 ∨ k = 1 ∨ k = 2) with rfl | rfl | rfl
  · exact ⟨by show p1 = ⟨#[]⟩ ++ p1; exact ByteArray.ext (by simp), by simp [preK, partK] <;> omega, rfl⟩
  · exact ⟨rfl, by simp [preK, partK] <;> omega, rfl⟩
  · exact ⟨rfl, by simp [preK, partK] <;> omega, rfl⟩

/-- the blocks of the loop: the reader that reads on (D), the one that has read all (E), the parts (G) -/
structure KP (w wr : World) (D E G : Nat) (kb xb gb : Obj) (qa : Option Addr) (qc : Nat) (qs : List Pr) (A : Option Addr) (c : Nat) (ts : List Pr) : Prop where
  blk : wr.heap[D]? = some kb
  ref : wr.heap[E]? = some xb
  prt : wr.heap[G]? = some gb
  rq : Rd encP wr qa qc qs
  ra : Rd encP wr A c ts
  off : ∀ Y, qa = some Y → 0 < qc → Y.block ≠ D
  bel : Below w.heap.size w wr
  low : w.heap.size ≤ D ∧ E < D ∧ G < D

section
variable {w wr w' : World} {D E G : Nat} {kb xb gb : Obj} {qa : Option Addr} {qc : Nat} {qs : List Pr} {A : Option Addr} {c : Nat} {ts : List Pr}

theorem KP.lt (h : KP w wr D E G kb xb gb qa qc qs A c ts) : D < wr.heap.size := (Array.getElem?_eq_some_iff.1 h.blk).1

theorem KP.more (h : KP w wr D E G kb xb gb qa qc qs A c ts) (hm : More wr w') : KP w w' D E G kb xb gb qa qc qs A c ts := by
  obtain ⟨x, rfl⟩ := hm
  have h1 := h.lt
  have h2 := h.low
  exact ⟨blk_plus h.blk x, blk_plus h.ref x, blk_plus h.prt x, Rd.plus h.rq x, Rd.plus h.ra x, h.off, below_plus h.bel (by omega) x, h.low⟩

/-- the block turned, and pairs of a call's own -/
theorem KP.step {x : Ext} {cur : Array Value} {t : TypeId} {pa2 : Option Addr} {pc2 : Nat} {us : List Pr} (h : KP w wr D E G kb xb gb qa qc qs A c ts) (hown : Own encP 137 (Go.Proofs.Ytibfkfinghcpaaa.plus wr x) pa2 pc2 us wr.heap.size) :
    KP w (Go.Proofs.Ytibfkfinghcpaaa.plus (patch wr D (.cells cur t)) x) D E G (.cells cur t) xb gb qa qc qs pa2 pc2 us := by
  have hlt := h.lt
  have hlow := h.low
  have hlo2 := own_lt hown
  have hown2 := own_swap (w2 := patch wr D (.cells cur t)) hown (by simp) (by simp)
  exact ⟨blk_plus (patch_at _ _ _ hlt) x, blk_plus ((patch_other _ _ _ (by omega)).trans h.ref) x, blk_plus ((patch_other _ _ _ (by omega)).trans h.prt) x, Rd.plus (rd_patch0 h.rq _ _ h.off) x, hown2.rd, h.off, below_plus (below_patch h.bel (by omega) _) (by simp; omega) x, hlow⟩

end

set_option maxRecDepth 100000 in
set_option maxHeartbeats 8000000 in
theorem lawReadParts_any (a : Option Addr) (cap : Nat) (bs : List UInt8) (a2 : Option Addr) (cap2 : Nat) (bs2 : List UInt8) (w : World) (hr : Rd encB w a cap bs) (hr2 : Rd encB w a2 cap2 bs2) :
    Calls Try.prog 8 #[.slice a bs.length cap, .slice a2 bs2.length cap2] w (fun e w' => e = .returned (.bool true) ∧ Below w.heap.size w w') := by
  have g1 := hr.1
  have g2 := hr.2.1
  have g3 := hr2.1
  have g4 := hr2.2.1
  by_cases h1 : bs.length ≤ 1048576
  case neg =>
    go_enter Try.func8, Try.ntmps8
    go_wp2
    go_ret
    exact ⟨rfl, (by repeat (first | exact Below.refl _ _ | refine below_plus ?_ (by first | omega | (simp <;> omega)) _ | refine Below.alloc ?_ (by first | omega | (simp <;> omega)) _ | refine below_patch ?_ (by omega) _ | refine Below.drew ?_))⟩
  by_cases h2 : bs2.length ≤ 1048576
  case neg =>
    go_enter Try.func8, Try.ntmps8
    go_wp2
    go_ret
    exact ⟨rfl, (by repeat (first | exact Below.refl _ _ | refine below_plus ?_ (by first | omega | (simp <;> omega)) _ | refine Below.alloc ?_ (by first | omega | (simp <;> omega)) _ | refine below_patch ?_ (by omega) _ | refine Below.drew ?_))⟩
  go_enter Try.func8, Try.ntmps8
  go_wp2_with fail
  refine (DrawReadStream_any a cap bs _ (by repeat (first | exact hr | apply rd_seq | apply Rd.plus | apply Rd.alloc | apply Rd.drew | apply Rd.drewN | refine rd_patch ?_ _ _ (by intro A hA; first | (cases hA; show _ ≠ _; omega) | (have := hal A hA; omega))))).mono ?_
  rintro e w' ⟨o, l, m, pa, pc, ps, base, last, s, z, c, e1, u, rfl, hl3, hs1, hu5, hrd, hoff, x1, rfl⟩
  have HR := Lib.hid (show Rd encP _ pa pc ps from hrd)
  have HX2 := Lib.hid hr2
  clear hrd hoff hr hr2
  by_cases hbad : rdb o l m ps base last s z c e1 = false ∨ 4000 < u.size
  · have HB := reads_no (sb := s) (u := u) (by unfold maxLen; omega) (by unfold maxLen; omega) hbad
    have HI := Lib.hid HB.2
    have HS := Lib.hid HB.1
    clear hbad HB
    go_wp2_with fail
    refine (HI.out _ pa pc (by (try unfold RdP); repeat (first | (with_reducible exact HR.out) | (with_reducible apply rd_seq) | (with_reducible apply Rd.plus) | (with_reducible apply Rd.alloc) | (with_reducible apply Rd.drew) | (with_reducible apply Rd.drewN)))).mono ?_
    rintro e w' ⟨qa, qc, rfl, hown, y1, rfl⟩
    (try simp only [plus_plus] at hown)
    have HQ := Lib.hid (show Rd encP _ qa qc ([] : List Pr) from hown.rd)
    clear hown
    go_wp2_with fail
    refine (HS.out _ pa pc (by (try unfold RdP); repeat (first | (with_reducible exact HR.out) | (with_reducible apply rd_seq) | (with_reducible apply Rd.plus) | (with_reducible apply Rd.alloc) | (with_reducible apply Rd.drew) | (with_reducible apply Rd.drewN)))).mono ?_
    rintro e w' ⟨ra, rc, rfl, hown, y2, rfl⟩
    (try simp only [plus_plus] at hown)
    have HP := Lib.hid (show Rd encP _ ra rc ([] : List Pr) from hown.rd)
    clear hown
    go_wp2_with fail
    refine (soReaders_yes _ _ _ qa ra qc rc ([] : List Pr) _ _ _ _ _ _ _ (by (try unfold RdP); repeat (first | (with_reducible exact HQ.out) | (with_reducible apply rd_seq) | (with_reducible apply Rd.plus) | (with_reducible apply Rd.alloc) | (with_reducible apply Rd.drew) | (with_reducible apply Rd.drewN))) (by (try unfold RdP); repeat (first | (with_reducible exact HP.out) | (with_reducible apply rd_seq) | (with_reducible apply Rd.plus) | (with_reducible apply Rd.alloc) | (with_reducible apply Rd.drew) | (with_reducible apply Rd.drewN)))).mono ?_
    rintro e w' ⟨rfl, y3, rfl⟩
    go_wp2_with fail
    refine (soReaders_yes _ _ _ qa ra qc rc ([] : List Pr) _ _ _ _ _ _ _ (by (try unfold RdP); repeat (first | (with_reducible exact HQ.out) | (with_reducible apply rd_seq) | (with_reducible apply Rd.plus) | (with_reducible apply Rd.alloc) | (with_reducible apply Rd.drew) | (with_reducible apply Rd.drewN))) (by (try unfold RdP); repeat (first | (with_reducible exact HP.out) | (with_reducible apply rd_seq) | (with_reducible apply Rd.plus) | (with_reducible apply Rd.alloc) | (with_reducible apply Rd.drew) | (with_reducible apply Rd.drewN)))).mono ?_
    rintro e w' ⟨rfl, y4, rfl⟩
    go_wp2_with fail
    go_ret
    exact ⟨rfl, (by repeat (first | exact Below.refl _ _ | refine below_plus ?_ (by first | omega | (simp <;> omega)) _ | refine Below.alloc ?_ (by first | omega | (simp <;> omega)) _ | refine below_patch ?_ (by omega) _ | refine Below.drew ?_))⟩
  have hk : rdb o l m ps base last s z c e1 = true := by
    cases hk : rdb o l m ps base last s z c e1
    · exact absurd (.inl hk) hbad
    · rfl
  have hsz : u.size ≤ 4000 := by
    rcases Nat.lt_or_ge 4000 u.size with h1 | h1
    · exact absurd (.inr h1) hbad
    · exact h1
  have hb0 := (rdb_parts hk).1.b0
  obtain ⟨b, rfl⟩ : ∃ b : Nat, base = b := ⟨base.toNat, by omega⟩
  obtain ⟨x, hx⟩ : ∃ x : Rdr, (⟨ps, last, s, z, c, e1⟩ : Rdr) = x := ⟨_, rfl⟩
  have hkx : Rdv o l m b x := by rw [← hx]; exact hk
  have F := rfx (x := x) (u := u) hkx hsz
  have HNil := Lib.hid (rsX_nil hkx)
  have HXX := Lib.hid hx
  have hxz : 0 ≤ x.z := by rw [← hx]; exact (rdb_parts hk).2.z0
  obtain ⟨X, hX⟩ : ∃ X, rsX o l m b x u = X := ⟨_, rfl⟩
  obtain ⟨dt, hD⟩ : ∃ dt, rsD o l m b x u = dt := ⟨_, rfl⟩
  obtain ⟨n, hU⟩ : ∃ n, rsU o l m b x u = n := ⟨_, rfl⟩
  obtain ⟨HB, F2, F3, F4, F5, F6⟩ := F
  rw [hX] at F2 F3 F4
  rw [hX, hD, hU] at HB
  rw [hU] at F5 F6
  clear F3 F4
  obtain ⟨qs, la, sb, z1, c1, e2⟩ := X
  have F2' : rdb o l m qs b la sb z1 c1 e2 = true := F2
  obtain ⟨kv2, rv2⟩ := rdb_parts F2'
  have hsb : sb.size ≤ 20 := by
    have := (wd_pos kv2).2
    rcases rv2.e with h1 | h1
    · have := h1.2.1; omega
    · omega
  have HI := Lib.hid (show ∀ (W : World) (a : Option Addr) (cap : Nat), RdP W a cap ps → Calls Try.prog 33 #[.agg #[.int .i64 o, .int .i64 l, .int .i64 m, .slice a ps.length cap, .int .i64 b, .int .i64 last, .string s, .int .i64 z, .int .i64 c, .int .i64 e1], .string u] W (RetO W (fun a0 c0 => .tuple #[.agg #[.int .i64 o, .int .i64 l, .int .i64 m, .slice a0 qs.length c0, .int .i64 b, .int .i64 la, .string sb, .int .i64 z1, .int .i64 c1, .int .i64 e2], .string dt, .int .i64 n, .bool true]) qs) by rw [← hx] at HB; exact HB.2)
  have HS := Lib.hid (show ∀ (W : World) (a : Option Addr) (cap : Nat), RdP W a cap ps → Calls Try.prog 34 #[.agg #[.int .i64 o, .int .i64 l, .int .i64 m, .slice a ps.length cap, .int .i64 b, .int .i64 last, .string s, .int .i64 z, .int .i64 c, .int .i64 e1], .string u] W (RetO W (fun a0 c0 => .tuple #[.agg #[.int .i64 o, .int .i64 l, .int .i64 m, .slice a0 qs.length c0, .int .i64 b, .int .i64 la, .string sb, .int .i64 z1, .int .i64 c1, .int .i64 e2], .string dt, .int .i64 n, .bool true]) qs) by rw [← hx] at HB; exact HB.1)
  have HK := Lib.hid F2'
  have HXD := Lib.hid hX
  have HDD := Lib.hid hD
  have HUD := Lib.hid hU
  have HKX := Lib.hid hkx
  have v1 : (dt.toList != dt.toList) = false := by simp
  have v2 : (n != n) = false := by simp
  have v3 : (dt.toList == dt.toList) = true := by simp
  have v4 : (n == n) = true := by simp
  clear hbad hk HB hX hD hU F2 F2' kv2 rv2 hkx
  go_wp2_with fail
  refine (HI.out _ pa pc (by (try unfold RdP); repeat (first | (with_reducible exact HR.out) | (with_reducible apply rd_seq) | (with_reducible apply Rd.plus) | (with_reducible apply Rd.alloc) | (with_reducible apply Rd.drew) | (with_reducible apply Rd.drewN)))).mono ?_
  rintro e w' ⟨qa, qc, rfl, hown, y1, rfl⟩
  (try simp only [plus_plus] at hown)
  have HQ := Lib.hid (show Rd encP _ qa qc qs from hown.rd)
  clear hown
  go_wp2_with fail
  refine (HS.out _ pa pc (by (try unfold RdP); repeat (first | (with_reducible exact HR.out) | (with_reducible apply rd_seq) | (with_reducible apply Rd.plus) | (with_reducible apply Rd.alloc) | (with_reducible apply Rd.drew) | (with_reducible apply Rd.drewN)))).mono ?_
  rintro e w' ⟨ra, rc, rfl, hown, y2, rfl⟩
  (try simp only [plus_plus] at hown)
  have HP := Lib.hid (show Rd encP _ ra rc qs from hown.rd)
  clear hown
  go_wp2_with fail
  refine (soReaders_yes _ _ _ qa ra qc rc qs _ _ _ _ _ _ _ (by (try unfold RdP); repeat (first | (with_reducible exact HQ.out) | (with_reducible apply rd_seq) | (with_reducible apply Rd.plus) | (with_reducible apply Rd.alloc) | (with_reducible apply Rd.drew) | (with_reducible apply Rd.drewN))) (by (try unfold RdP); repeat (first | (with_reducible exact HP.out) | (with_reducible apply rd_seq) | (with_reducible apply Rd.plus) | (with_reducible apply Rd.alloc) | (with_reducible apply Rd.drew) | (with_reducible apply Rd.drewN)))).mono ?_
  rintro e w' ⟨rfl, y3, rfl⟩
  go_wp2_with fail
  refine (soCut_any u a2 cap2 bs2 _ (by repeat (first | (with_reducible exact HX2.out) | apply Rd.plus | apply Rd.alloc | apply Rd.drew)) (by omega) h2).mono ?_
  rintro e w' ⟨G, p1, p2, p3, rfl, hcut, hG, hblk, y4, rfl⟩
  (try simp only [plus_plus] at hblk)
  have HBK := Lib.hid hblk
  have HCT := Lib.hid hcut
  clear hblk hcut
  simp at hG
  go_wp2_with fail
  refine wp_nm2 (fun W => KP w W (w.heap.size + x1.n + 1 + y1.n + 1 + y2.n + 1 + (y3.n + y4.n)) (w.heap.size + x1.n + 1 + y1.n) G (.cells #[.int .i64 o, .int .i64 l, .int .i64 m, .slice pa ps.length pc, .int .i64 b, .int .i64 last, .string s, .int .i64 z, .int .i64 c, .int .i64 e1] 50 (0, 0)) (.cells #[.int .i64 o, .int .i64 l, .int .i64 m, .slice qa qs.length qc, .int .i64 b, .int .i64 la, .string sb, .int .i64 z1, .int .i64 c1, .int .i64 e2] 50 (0, 0)) (.cells #[.string p1, .string p2, .string p3] 9 (0, 0)) qa qc qs pa pc ps) ⟨?_, ?_, ?_, ?_, ?_, ?_, ?_, ?_⟩ ?_
  · exact push_new _ _ _ (by simp <;> omega)
  · exact (by repeat (first | (with_reducible exact push_new _ _ _ rfl) | (with_reducible exact push_new _ _ _ (by simp)) | (with_reducible apply blk_plus) | (with_reducible apply blk_alloc) | (with_reducible apply blk_drew) | (with_reducible refine blk_patch ?_ (by omega))))
  · repeat (first | (with_reducible exact HBK.out) | apply blk_plus | apply blk_alloc | apply blk_drew)
  · exact (by (try unfold RdP); repeat (first | (with_reducible exact HQ.out) | (with_reducible apply rd_seq) | (with_reducible apply Rd.plus) | (with_reducible apply Rd.alloc) | (with_reducible apply Rd.drew) | (with_reducible apply Rd.drewN)))
  · exact (by (try unfold RdP); repeat (first | (with_reducible exact HR.out) | (with_reducible apply rd_seq) | (with_reducible apply Rd.plus) | (with_reducible apply Rd.alloc) | (with_reducible apply Rd.drew) | (with_reducible apply Rd.drewN)))
  · exact fun Y hY hc => by have := rd_lt HQ.out Y hY hc; simp at this; omega
  · exact (by repeat (first | exact Below.refl _ _ | refine below_plus ?_ (by first | omega | (simp <;> omega)) _ | refine Below.alloc ?_ (by first | omega | (simp <;> omega)) _ | refine below_patch ?_ (by omega) _ | refine Below.drew ?_))
  · have := (Array.getElem?_eq_some_iff.1 HBK.out).1
    simp at this
    omega
  generalize w.heap.size + x1.n + 1 + y1.n + 1 + y2.n + 1 + (y3.n + y4.n) = D
  generalize w.heap.size + x1.n + 1 + y1.n = E
  intro W hW
  have HW := Lib.hid hW
  clear hW HQ HR HP HBK hG HX2
  go_loopw [17, 18, 19] (fun p q t wr => ∃ (k : Nat) (A : Option Addr) (cc : Nat), k ≤ 3 ∧ t = .int .i64 k ∧ p = .string (rsD o l m b x (preK p1 p2 p3 k)) ∧ q = .int .i64 (rsU o l m b x (preK p1 p2 p3 k)) ∧ KP w wr D E G (.cells #[.int .i64 o, .int .i64 l, .int .i64 m, .slice A (rsX o l m b x (preK p1 p2 p3 k)).ps.length cc, .int .i64 b, .int .i64 (rsX o l m b x (preK p1 p2 p3 k)).last, .string (rsX o l m b x (preK p1 p2 p3 k)).sb, .int .i64 (rsX o l m b x (preK p1 p2 p3 k)).z, .int .i64 (rsX o l m b x (preK p1 p2 p3 k)).c, .int .i64 (rsX o l m b x (preK p1 p2 p3 k)).e] 50 (0, 0)) (.cells #[.int .i64 o, .int .i64 l, .int .i64 m, .slice qa qs.length qc, .int .i64 b, .int .i64 la, .string sb, .int .i64 z1, .int .i64 c1, .int .i64 e2] 50 (0, 0)) (.cells #[.string p1, .string p2, .string p3] 9 (0, 0)) qa qc qs A cc (rsX o l m b x (preK p1 p2 p3 k)).ps) (fun _ _ t _ => 3 - (intOf t).toNat)
  case atStart =>
    refine ⟨0, pa, pc, Nat.zero_le _, rfl, ?_, ?_, ?_⟩
    · show Value.string ⟨#[]⟩ = .string (rsD o l m b x ⟨#[]⟩)
      rw [HNil.out.2.1]
    · show Value.int .i64 0 = .int .i64 (rsU o l m b x ⟨#[]⟩)
      rw [HNil.out.2.2]
    · show KP w W D E G (.cells #[.int .i64 o, .int .i64 l, .int .i64 m, .slice pa (rsX o l m b x ⟨#[]⟩).ps.length pc, .int .i64 b, .int .i64 (rsX o l m b x ⟨#[]⟩).last, .string (rsX o l m b x ⟨#[]⟩).sb, .int .i64 (rsX o l m b x ⟨#[]⟩).z, .int .i64 (rsX o l m b x ⟨#[]⟩).c, .int .i64 (rsX o l m b x ⟨#[]⟩).e] 50 (0, 0)) (.cells #[.int .i64 o, .int .i64 l, .int .i64 m, .slice qa qs.length qc, .int .i64 b, .int .i64 la, .string sb, .int .i64 z1, .int .i64 c1, .int .i64 e2] 50 (0, 0)) (.cells #[.string p1, .string p2, .string p3] 9 (0, 0)) qa qc qs pa pc (rsX o l m b x ⟨#[]⟩).ps
      rw [HNil.out.1, ← HXX.out]
      exact HW.out
  case round =>
    obtain ⟨k, A, cc, hk, rfl, rfl, rfl, hKP⟩ := hrel
    clear HI HS HW
    have hz3 : (p1 ++ p2 ++ p3).size = u.size := by rw [HCT.out]
    rcases (by omega : k < 3 ∨ k = 3) with hlt | rfl
    · have blt : decide ((k : Int) < 3) = true := by simp; omega
      obtain ⟨hpre, hsz3, hidx⟩ := preK_step (p1 := p1) (p2 := p2) (p3 := p3) hlt
      obtain ⟨P, hP⟩ : ∃ P, preK p1 p2 p3 k = P := ⟨_, rfl⟩
      obtain ⟨Q, hQ⟩ : ∃ Q, partK p1 p2 p3 k = Q := ⟨_, rfl⟩
      rw [hP, hQ] at hpre hsz3
      rw [hQ] at hidx
      rw [hP] at hKP ⊢
      have F1 := rfx (u := P) HKX.out (by omega)
      have hpq : (P ++ Q).size ≤ 4000 := by rw [ByteArray.size_append]; omega
      have A3 := rsX_app (u := P) (v := Q) HKX.out hpq
      have hok1 := F1.ok
      have hs1 := F1.siz
      have hn0 := F1.used0
      have hn1 := F1.used1
      obtain ⟨Y, hY⟩ : ∃ Y, rsX o l m b x P = Y := ⟨_, rfl⟩
      obtain ⟨d0, hd0⟩ : ∃ Y, rsD o l m b x P = Y := ⟨_, rfl⟩
      obtain ⟨n0, hn0e⟩ : ∃ Y, rsU o l m b x P = Y := ⟨_, rfl⟩
      rw [hY] at hok1 hs1 hKP A3
      rw [hd0] at hs1 A3 ⊢
      rw [hn0e] at hn0 hn1 A3 ⊢
      have F2 := rfx (x := Y) (u := Q) hok1 (by omega)
      have hok2 := F2.ok
      have hs2 := F2.siz
      have hm0 := F2.used0
      have hm1 := F2.used1
      have hre := F2.reads
      obtain ⟨Z, hZ⟩ : ∃ Z, rsX o l m b Y Q = Z := ⟨_, rfl⟩
      obtain ⟨d2, hd2⟩ : ∃ Z, rsD o l m b Y Q = Z := ⟨_, rfl⟩
      obtain ⟨n2, hn2e⟩ : ∃ Z, rsU o l m b Y Q = Z := ⟨_, rfl⟩
      rw [hZ] at hok2 hs2 hre A3
      rw [hd2] at hs2 hre A3
      rw [hn2e] at hm0 hm1 hre A3
      rw [← hpre] at A3
      have hy1 := (rdb_parts hok1).2.z1
      have hy2 := (rdb_parts hok2).2.z1
      have hd0z : d0.size ≤ 2000 := by omega
      have hd2z : d2.size ≤ 2000 := by omega
      clear F1 F2 hY hd0 hn0e hZ hd2 hn2e hpre hP hQ hok1 hok2 hpq
      obtain ⟨ts, la1, sb1, z2, c2, e3⟩ := Y
      obtain ⟨us, la2, sb2, z3, c3, e4⟩ := Z
      have HJ := Lib.hid hre.2
      have HA3 := Lib.hid A3
      have HK := Lib.hid hKP
      have rB := cell_of HK.out.blk
      have zB := HK.out.lt
      have lB := HK.out.low
      obtain ⟨lB1, lB2, lB3⟩ := lB
      have hk0 : (0 : Int) ≤ (k : Int) := by omega
      have hk3 : (k : Int) < 3 := by omega
      clear hre A3 hKP hy1 hy2 hs1 hs2
      go_wp2_with fail
      refine wp_region_pt 15 (fun w' => w'.heap[G]? = some (.cells #[.string p1, .string p2, .string p3] 9 (0, 0))) (Plan.quiet 1 (Plan.quiet 2 (Plan.quiet 3 (Plan.quiet 4 (Plan.one 0 (Plan.one 5 (Plan.quiet 6 (Plan.quiet 7 (Plan.quiet 8 (Plan.quiet 9 (Plan.quiet 10 (Plan.one 11 (Plan.quiet 12 (Plan.quiet 13 (Plan.quiet 14 Plan.done))))))))))))))) (by kernel_rfl) (by kernel_rfl) (by repeat (first | exact HK.out.prt | apply blk_drew)) ?_
      refine wpPt_val rfl rfl ?_
      apply Exists.intro
      refine ⟨fun w' hS => ?_, ?_⟩
      focus (have cS := (cell_of hS k).trans hidx; simp [go_sem, ↓IntWalk.iteOmega, cS, hk0, hk3] <;> first | done | exact rfl | (rw [IntWalk.i64_in _ (by omega)]; exact rfl) | trace_state)
      refine wpPt_val rfl rfl ?_
      apply Exists.intro
      refine ⟨fun w' hS => ?_, ?_⟩
      focus (have cS := (cell_of hS k).trans hidx; simp [go_sem, ↓IntWalk.iteOmega, cS, hk0, hk3] <;> first | done | exact rfl | (rw [IntWalk.i64_in _ (by omega)]; exact rfl) | trace_state)
      refine wpPt_val rfl rfl ?_
      apply Exists.intro
      refine ⟨fun w' hS => ?_, ?_⟩
      focus (have cS := (cell_of hS k).trans hidx; simp [go_sem, ↓IntWalk.iteOmega, cS, hk0, hk3] <;> first | done | exact rfl | (rw [IntWalk.i64_in _ (by omega)]; exact rfl) | trace_state)
      refine wpPt_val rfl rfl ?_
      apply Exists.intro
      refine ⟨fun w' hS => ?_, ?_⟩
      focus (have cS := (cell_of hS k).trans hidx; simp [go_sem, ↓IntWalk.iteOmega, cS, hk0, hk3] <;> first | done | exact rfl | (rw [IntWalk.i64_in _ (by omega)]; exact rfl) | trace_state)
      refine wpPt_one rfl rfl (fun K hK => ?_)
      go_simp
      (try simp [go_sem, ↓IntWalk.iteOmega, rB])
      refine hK _ _ (fun hkn => (by repeat (first | exact HK.out.prt | apply blk_drew))) ?_
      clear hK K
      refine wpPt_one rfl rfl (fun K hK => ?_)
      go_simp
      refine (HJ.out _ _ _ (by (try unfold RdP); repeat (first | (with_reducible exact HK.out.ra) | (with_reducible apply rd_seq) | (with_reducible apply Rd.plus) | (with_reducible apply Rd.alloc) | (with_reducible apply Rd.drew) | (with_reducible apply Rd.drewN)))).mono ?_
      rintro e w8 ⟨ta, tc, rfl, hown, x8, rfl⟩
      have f7 := free_of HK.out.blk
      have s7 := fun i v => setCell_patch HK.out.blk i v
      have H8 := Lib.hid (KP.step (cur := #[.int .i64 o, .int .i64 l, .int .i64 m, .slice ta us.length tc, .int .i64 b, .int .i64 la2, .string sb2, .int .i64 z3, .int .i64 c3, .int .i64 e4]) (t := 50) HK.out hown)
      clear hown
      refine hK _ _ (fun hkn => (by repeat (first | (with_reducible exact HK.out.prt) | apply blk_plus | apply blk_alloc | apply blk_drew))) ?_
      clear hK K
      refine wpPt_val rfl rfl ?_
      apply Exists.intro
      refine ⟨fun w' hS => ?_, ?_⟩
      focus (have cS := (cell_of hS k).trans hidx; simp [go_sem, ↓IntWalk.iteOmega, cS, hk0, hk3] <;> first | done | exact rfl | (rw [IntWalk.i64_in _ (by omega)]; exact rfl) | trace_state)
      refine wpPt_val rfl rfl ?_
      apply Exists.intro
      refine ⟨fun w' hS => ?_, ?_⟩
      focus (have cS := (cell_of hS k).trans hidx; simp [go_sem, ↓IntWalk.iteOmega, cS, hk0, hk3] <;> first | done | exact rfl | (rw [IntWalk.i64_in _ (by omega)]; exact rfl) | trace_state)
      refine wpPt_val rfl rfl ?_
      apply Exists.intro
      refine ⟨fun w' hS => ?_, ?_⟩
      focus (have cS := (cell_of hS k).trans hidx; simp [go_sem, ↓IntWalk.iteOmega, cS, hk0, hk3] <;> first | done | exact rfl | (rw [IntWalk.i64_in _ (by omega)]; exact rfl) | trace_state)
      refine wpPt_val rfl rfl ?_
      apply Exists.intro
      refine ⟨fun w' hS => ?_, ?_⟩
      focus (have cS := (cell_of hS k).trans hidx; simp [go_sem, ↓IntWalk.iteOmega, cS, hk0, hk3] <;> first | done | exact rfl | (rw [IntWalk.i64_in _ (by omega)]; exact rfl) | trace_state)
      refine wpPt_val rfl rfl ?_
      apply Exists.intro
      refine ⟨fun w' hS => ?_, ?_⟩
      focus (have cS := (cell_of hS k).trans hidx; simp [go_sem, ↓IntWalk.iteOmega, cS, hk0, hk3] <;> first | done | exact rfl | (rw [IntWalk.i64_in _ (by omega)]; exact rfl) | trace_state)
      refine wpPt_one rfl rfl (fun K hK => ?_)
      go_simp
      refine hK _ _ (fun hkn => (by repeat (first | (with_reducible exact H8.out.prt) | apply blk_plus | apply blk_alloc | apply blk_drew))) ?_
      clear hK K
      refine wpPt_val rfl rfl ?_
      apply Exists.intro
      refine ⟨fun w' hS => ?_, ?_⟩
      focus (have cS := (cell_of hS k).trans hidx; simp [go_sem, ↓IntWalk.iteOmega, cS, hk0, hk3] <;> first | done | exact rfl | (rw [IntWalk.i64_in _ (by omega)]; exact rfl) | trace_state)
      refine wpPt_val rfl rfl ?_
      apply Exists.intro
      refine ⟨fun w' hS => ?_, ?_⟩
      focus (have cS := (cell_of hS k).trans hidx; simp [go_sem, ↓IntWalk.iteOmega, cS, hk0, hk3] <;> first | done | exact rfl | (rw [IntWalk.i64_in _ (by omega)]; exact rfl) | trace_state)
      refine wpPt_val rfl rfl ?_
      apply Exists.intro
      refine ⟨fun w' hS => ?_, ?_⟩
      focus (have cS := (cell_of hS k).trans hidx; simp [go_sem, ↓IntWalk.iteOmega, cS, hk0, hk3] <;> first | done | exact rfl | (rw [IntWalk.i64_in _ (by omega)]; exact rfl) | trace_state)
      refine NoPanic.normal ?_
      go_wp2_with fail
      go_roundw
      case rel =>
        refine ⟨k + 1, ta, tc, by omega, by go_num, by rw [HA3.out.2.1], by rw [HA3.out.2.2], ?_⟩
        rw [HA3.out.1]
        exact H8.out.more (by repeat (first | exact More.refl _ | apply More.plus | apply More.alloc | apply More.drew | apply More.drewN))
      case measure => simp [intOf]; omega
    · have hp3 : preK p1 p2 p3 3 = u := HCT.out
      rw [hp3, HXD.out] at hKP
      rw [hp3, HDD.out, HUD.out]
      have HK9 := Lib.hid hKP
      have rD := cell_of HK9.out.blk
      have rE := cell_of HK9.out.ref
      have zB := HK9.out.lt
      obtain ⟨lB1, lB2, lB3⟩ := HK9.out.low
      have hbel := HK9.out.bel
      clear hKP
      go_wp2_with fail
      refine (soReaders_yes _ _ _ A qa cc qc qs _ _ _ _ _ _ _ (by (try unfold RdP); repeat (first | (with_reducible exact HK9.out.ra) | (with_reducible apply rd_seq) | (with_reducible apply Rd.plus) | (with_reducible apply Rd.alloc) | (with_reducible apply Rd.drew) | (with_reducible apply Rd.drewN))) (by (try unfold RdP); repeat (first | (with_reducible exact HK9.out.rq) | (with_reducible apply rd_seq) | (with_reducible apply Rd.plus) | (with_reducible apply Rd.alloc) | (with_reducible apply Rd.drew) | (with_reducible apply Rd.drewN)))).mono ?_
      rintro e w' ⟨rfl, y5, rfl⟩
      go_wp2_with fail
      refine (ReaderValid_any _ _ _ qa qc qs _ _ sb _ _ _ _ (by (try unfold RdP); repeat (first | (with_reducible exact HK9.out.rq) | (with_reducible apply rd_seq) | (with_reducible apply Rd.plus) | (with_reducible apply Rd.alloc) | (with_reducible apply Rd.drew) | (with_reducible apply Rd.drewN))) (by unfold maxLen; omega)).mono ?_
      rintro e w' ⟨rfl, y6, rfl⟩
      rw [HK.out]
      go_wp2_with fail
      go_ret
      exact ⟨rfl, (by repeat (first | (with_reducible exact hbel) | refine below_plus ?_ (by first | omega | (simp <;> omega)) _ | refine Below.alloc ?_ (by first | omega | (simp <;> omega)) _ | refine below_patch ?_ (by omega) _ | refine Below.drew ?_))⟩

end Go.Proofs.Ytibfkfinghcpaaa
