/- The law GreedyLongest: the walk. -/
import Derived.Test.YtlihhlihcjncoaaAft
import Derived.Test.YtlihhlihcjncoaaSog
import Derived.Test.YtlihhlihcjncoaaLcw
import Derived.Test.YtlihhlihcjncoaaLlo
namespace Go.Proofs.Ytlihhlihcjncoaa
open Go.RowKit
set_option linter.unusedVariables false
set_option linter.unusedSimpArgs false

/-- where the walk over the codes stands -/
def GLS (o l m : Int) (b : Nat) (G : List Int) (ps0 : List Pr) (last0 : Int) (D0 : List UInt8) (k : Nat) (ps : List Pr) (last : Int) (d : List UInt8) : Prop :=
  (k = 0 ∧ ps = ps0 ∧ last = last0 ∧ d = D0) ∨ (1 ≤ k ∧ Tx o l m (b : Int) ps last d ∧ ∃ f, d.length ≤ f ∧ G.drop k = gre l m b f ps last d ++ [two l + 1])

theorem drop_at {α : Type} {xs ys : List α} {k : Nat} {x : α} (h : xs.drop k = x :: ys) : xs[k]? = some x ∧ xs.drop (k + 1) = ys := by
  constructor
  · have := congrArg List.head? h
    rw [List.head?_drop] at this
    simpa using this
  · have := congrArg (List.drop 1) h
    rw [List.drop_drop] at this
    simpa using this

/-- one step of it -/
theorem GLS.step {o l m : Int} {b : Nat} {ps0 : List Pr} {last0 : Int} {D0 : List UInt8} {k : Nat} {ps : List Pr} {last : Int} {d : List UInt8} (hkv0 : KV o l m ps0 (b : Int) last0) (hd0 : dfB o l m (bstr D0) = true)
    (h : GLS o l m b (greL l m b ps0 D0) ps0 last0 D0 k ps last d) (hk : k + 1 < (greL l m b ps0 D0).length) :
    KV o l m ps (b : Int) last ∧ dfB o l m (bstr d) = true ∧
    (((greL l m b ps0 D0)[k]? = some (two l) ∧ (k = 0 ∨ two m - 1 < nw l ps.length) ∧ GLS o l m b (greL l m b ps0 D0) ps0 last0 D0 (k + 1) (ps.take b) (-1) d) ∨
     ∃ n c, (greL l m b ps0 D0)[k]? = some c ∧ 0 < k ∧ 0 < d.length ∧ IsLon l m ps last d n ∧ IsFnd l m ps last (d.take n) c ∧ GLS o l m b (greL l m b ps0 D0) ps0 last0 D0 (k + 1) (aftP l m ps last c) c (d.drop n)) := by
  have hT0 : Tx o l m (b : Int) (ps0.take b) (-1) D0 := ⟨by simpa using hkv0.cleared, hd0⟩
  rcases h with ⟨rfl, rfl, rfl, rfl⟩ | ⟨h1, hT, f, hf, hG⟩
  · refine ⟨hkv0, hd0, .inl ⟨rfl, .inl rfl, .inr ⟨Nat.le_refl _, hT0, d.length, Nat.le_refl _, rfl⟩⟩⟩
  · refine ⟨hT.1, hT.2, ?_⟩
    cases f with
    | zero =>
      obtain rfl : d = [] := List.eq_nil_of_length_eq_zero (by omega)
      have := congrArg List.length hG
      rw [List.length_drop, gre_nil] at this
      simp at this <;> omega
    | succ f =>
      by_cases hd : d = []
      · subst hd
        have := congrArg List.length hG
        rw [List.length_drop, gre_nil] at this
        simp at this <;> omega
      · have hpos : 0 < d.length := List.length_pos_iff.2 hd
        cases hfu : full l m ps.length b
        · obtain ⟨n, c, hn, hc, hT'⟩ := hT.step hd
          have hn1 := hn.1
          rw [gre_step hd hfu hn hc, List.cons_append] at hG
          obtain ⟨q1, q2⟩ := drop_at hG
          exact .inr ⟨n, c, q1, h1, hpos, hn, hc, .inr ⟨by omega, hT', f, by rw [List.length_drop]; omega, q2⟩⟩
        · rw [gre_full hd hfu, List.cons_append] at hG
          obtain ⟨q1, q2⟩ := drop_at hG
          exact .inl ⟨q1, .inr (full_iff.1 hfu).1, .inr ⟨by omega, hT.clear, f + 1, hf, q2⟩⟩

theorem GLS.done {o l m : Int} {b : Nat} {ps0 : List Pr} {last0 : Int} {D0 : List UInt8} {k : Nat} {ps : List Pr} {last : Int} {d : List UInt8}
    (h : GLS o l m b (greL l m b ps0 D0) ps0 last0 D0 k ps last d) (hk : (greL l m b ps0 D0).length ≤ k + 1) : d = [] := by
  rcases h with ⟨rfl, rfl, rfl, rfl⟩ | ⟨h1, hT, f, hf, hG⟩
  · unfold greL at hk
    rw [List.length_cons, List.length_append] at hk
    simp at hk <;> omega
  · have hz := congrArg List.length hG
    rw [List.length_drop, List.length_append] at hz
    simp at hz
    have hg : (gre l m b f ps last d).length = 0 := by omega
    by_cases hd : d = []
    · exact hd
    · cases f with
      | zero => exact absurd (List.eq_nil_of_length_eq_zero (by omega)) hd
      | succ f =>
        cases hfu : full l m ps.length b
        · obtain ⟨n, c, hn, hc, hT'⟩ := hT.step hd
          rw [gre_step hd hfu hn hc] at hg
          simp at hg
        · rw [gre_full hd hfu] at hg
          simp at hg

theorem more_cell {w w' : World} (h : More w w') {b i : Nat} {v : Value} (hb : b < w.heap.size) (hc : w.cell? ⟨b, i, none⟩ = some v) : w'.cell? ⟨b, i, none⟩ = some v := by
  obtain ⟨x, rfl⟩ := h
  rw [plus_cell_lt w x hb]
  exact hc

set_option maxRecDepth 100000 in
set_option maxHeartbeats 16000000 in
theorem lawGreedyLongest_any (a : Option Addr) (cap : Nat) (bs : List UInt8) (w : World) (hr : Rd encB w a cap bs) :
    Calls Try.prog 10 #[.slice a bs.length cap] w (fun e w' => e = .returned (.bool true) ∧ Below w.heap.size w w') := by
  have g1 := hr.1
  have g2 := hr.2.1
  by_cases h1 : bs.length ≤ 1048576
  case neg =>
    go_enter Try.func10, Try.ntmps10
    go_wp2
    go_ret
    exact ⟨rfl, (by repeat (first | exact Below.refl _ _ | refine below_plus ?_ (by first | omega | (simp <;> omega)) _ | refine Below.alloc ?_ (by first | omega | (simp <;> omega)) _ | refine below_patch ?_ (by omega) _ | refine Below.drew ?_))⟩
  go_enter Try.func10, Try.ntmps10
  go_wp2_with fail
  refine (DrawGreedyCodes_any a cap bs _ (by repeat (first | exact hr | apply rd_seq | apply Rd.plus | apply Rd.alloc | apply Rd.drew | apply Rd.drewN | refine rd_patch ?_ _ _ (by intro A hA; first | (cases hA; show _ ≠ _; omega) | (have := hal A hA; omega))))).mono ?_
  rintro e w' ⟨o, l, m, pa, pc, ps, base, last, s, rfl, hl3, hs5, hrd, x1, rfl⟩
  have hm : s.size ≤ maxLen := by unfold maxLen; omega
  have HR := Lib.hid (show Rd encP _ pa pc ps from hrd)
  clear hrd
  by_cases hbad : kvb o l m ps base last = false ∨ dfB o l m s = false
  · have HI := Lib.hid (fun (W : World) (h : RdP W pa pc ps) => implGreedyCodes_no o l m pa pc ps base last s W h hm hbad)
    have HS := Lib.hid (fun (W : World) (h : RdP W pa pc ps) => specGreedyCodes_no o l m pa pc ps base last s W h hm hbad)
    clear hbad
    go_wp2_with fail
    refine (HI.out _ (by (try unfold RdP); repeat (first | (with_reducible exact HR.out) | (with_reducible apply rd_seq) | (with_reducible apply Rd.plus) | (with_reducible apply Rd.alloc) | (with_reducible apply Rd.drew) | (with_reducible apply Rd.drewN)))).mono ?_
    rintro e w' ⟨ua, uc, rfl, hown, y1, rfl⟩
    (try simp only [plus_plus] at hown)
    have HU := Lib.hid (show Rd encI _ ua uc _ from hown.rd)
    clear hown
    go_wp2_with fail
    refine (HS.out _ (by (try unfold RdP); repeat (first | (with_reducible exact HR.out) | (with_reducible apply rd_seq) | (with_reducible apply Rd.plus) | (with_reducible apply Rd.alloc) | (with_reducible apply Rd.drew) | (with_reducible apply Rd.drewN)))).mono ?_
    rintro e w' ⟨va, vc, rfl, hown, y2, rfl⟩
    (try simp only [plus_plus] at hown)
    have HV := Lib.hid (show Rd encI _ va vc _ from hown.rd)
    clear hown
    go_wp2_with fail
    refine (soInts_yes ua va uc vc [] _ (by (try unfold RdP); repeat (first | (with_reducible exact HU.out) | (with_reducible apply rd_seq) | (with_reducible apply Rd.plus) | (with_reducible apply Rd.alloc) | (with_reducible apply Rd.drew) | (with_reducible apply Rd.drewN))) (by (try unfold RdP); repeat (first | (with_reducible exact HV.out) | (with_reducible apply rd_seq) | (with_reducible apply Rd.plus) | (with_reducible apply Rd.alloc) | (with_reducible apply Rd.drew) | (with_reducible apply Rd.drewN)))).mono ?_
    rintro e w' ⟨rfl, y4, rfl⟩
    go_wp2_with fail
    refine (soInts_yes ua va uc vc [] _ (by (try unfold RdP); repeat (first | (with_reducible exact HU.out) | (with_reducible apply rd_seq) | (with_reducible apply Rd.plus) | (with_reducible apply Rd.alloc) | (with_reducible apply Rd.drew) | (with_reducible apply Rd.drewN))) (by (try unfold RdP); repeat (first | (with_reducible exact HV.out) | (with_reducible apply rd_seq) | (with_reducible apply Rd.plus) | (with_reducible apply Rd.alloc) | (with_reducible apply Rd.drew) | (with_reducible apply Rd.drewN)))).mono ?_
    rintro e w' ⟨rfl, y5, rfl⟩
    go_wp2_with fail
    go_ret
    exact ⟨rfl, (by repeat (first | exact Below.refl _ _ | refine below_plus ?_ (by first | omega | (simp <;> omega)) _ | refine Below.alloc ?_ (by first | omega | (simp <;> omega)) _ | refine below_patch ?_ (by omega) _ | refine Below.drew ?_))⟩
  have hk : kvb o l m ps base last = true := by
    cases hk : kvb o l m ps base last
    · exact absurd (.inl hk) hbad
    · rfl
  have hd : dfB o l m s = true := by
    cases hd : dfB o l m s
    · exact absurd (.inr hd) hbad
    · rfl
  have hkv := kvb_iff.1 hk
  have hs := hkv.s
  obtain ⟨b, rfl⟩ : ∃ b : Nat, base = b := ⟨base.toNat, by have := hkv.b0; omega⟩
  have hbp : b ≤ ps.length := by have := hkv.b1; omega
  obtain ⟨_, _, _, _, t1, t2, t4, _⟩ := hkv.lim.bds
  have hgst := fun (k : Nat) (qs : List Pr) (lst : Int) (d : List UInt8) => GLS.step (o := o) (l := l) (m := m) (b := b) (ps0 := ps) (last0 := last) (D0 := s.data.toList) (k := k) (ps := qs) (last := lst) (d := d) hkv (by rw [bstr_bytes]; exact hd)
  have hgdn := fun (k : Nat) (qs : List Pr) (lst : Int) (d : List UInt8) => GLS.done (o := o) (l := l) (m := m) (b := b) (ps0 := ps) (last0 := last) (D0 := s.data.toList) (k := k) (ps := qs) (last := lst) (d := d)
  have hgl : (greL l m b ps s.data.toList).length ≤ 3100 := greL_len2 hkv (by rw [bstr_bytes]; exact hd) (by rw [bytes_len]; exact dfB_len hd)
  have hgp := greL_pos l m b ps s.data.toList
  obtain ⟨G, hG⟩ : ∃ G, greL l m b ps s.data.toList = G := ⟨_, rfl⟩
  rw [hG] at hgl hgp
  simp only [hG] at hgst hgdn
  have HI := Lib.hid (fun (W : World) (h : RdP W pa pc ps) => implGreedyCodes_yes o l m pa pc ps b last s W h hm hk hd b rfl G hG)
  have HS := Lib.hid (fun (W : World) (h : RdP W pa pc ps) => specGreedyCodes_yes o l m pa pc ps b last s W h hm hk hd b rfl G hG)
  have HST := Lib.hid hgst
  have HKV0 := Lib.hid hkv
  have HDN := Lib.hid hgdn
  clear hbad hk hd hkv hG hgst hgdn
  by_cases h60 : s.size ≤ 60
  case neg =>
    clear HST HDN
    go_wp2_with fail
    refine (HI.out _ (by (try unfold RdP); repeat (first | (with_reducible exact HR.out) | (with_reducible apply rd_seq) | (with_reducible apply Rd.plus) | (with_reducible apply Rd.alloc) | (with_reducible apply Rd.drew) | (with_reducible apply Rd.drewN)))).mono ?_
    rintro e w' ⟨ua, uc, rfl, hown, y1, rfl⟩
    (try simp only [plus_plus] at hown)
    have HU := Lib.hid (show Rd encI _ ua uc _ from hown.rd)
    clear hown
    go_wp2_with fail
    refine (HS.out _ (by (try unfold RdP); repeat (first | (with_reducible exact HR.out) | (with_reducible apply rd_seq) | (with_reducible apply Rd.plus) | (with_reducible apply Rd.alloc) | (with_reducible apply Rd.drew) | (with_reducible apply Rd.drewN)))).mono ?_
    rintro e w' ⟨va, vc, rfl, hown, y2, rfl⟩
    (try simp only [plus_plus] at hown)
    have HV := Lib.hid (show Rd encI _ va vc _ from hown.rd)
    clear hown
    go_wp2_with fail
    refine (soInts_yes ua va uc vc G _ (by (try unfold RdP); repeat (first | (with_reducible exact HU.out) | (with_reducible apply rd_seq) | (with_reducible apply Rd.plus) | (with_reducible apply Rd.alloc) | (with_reducible apply Rd.drew) | (with_reducible apply Rd.drewN))) (by (try unfold RdP); repeat (first | (with_reducible exact HV.out) | (with_reducible apply rd_seq) | (with_reducible apply Rd.plus) | (with_reducible apply Rd.alloc) | (with_reducible apply Rd.drew) | (with_reducible apply Rd.drewN)))).mono ?_
    rintro e w' ⟨rfl, y4, rfl⟩
    go_wp2_with fail
    refine (soInts_yes ua va uc vc G _ (by (try unfold RdP); repeat (first | (with_reducible exact HU.out) | (with_reducible apply rd_seq) | (with_reducible apply Rd.plus) | (with_reducible apply Rd.alloc) | (with_reducible apply Rd.drew) | (with_reducible apply Rd.drewN))) (by (try unfold RdP); repeat (first | (with_reducible exact HV.out) | (with_reducible apply rd_seq) | (with_reducible apply Rd.plus) | (with_reducible apply Rd.alloc) | (with_reducible apply Rd.drew) | (with_reducible apply Rd.drewN)))).mono ?_
    rintro e w' ⟨rfl, y5, rfl⟩
    go_wp2_with fail
    go_ret
    exact ⟨rfl, (by repeat (first | exact Below.refl _ _ | refine below_plus ?_ (by first | omega | (simp <;> omega)) _ | refine Below.alloc ?_ (by first | omega | (simp <;> omega)) _ | refine below_patch ?_ (by omega) _ | refine Below.drew ?_))⟩
  go_wp2_with fail
  refine (HI.out _ (by (try unfold RdP); repeat (first | (with_reducible exact HR.out) | (with_reducible apply rd_seq) | (with_reducible apply Rd.plus) | (with_reducible apply Rd.alloc) | (with_reducible apply Rd.drew) | (with_reducible apply Rd.drewN)))).mono ?_
  rintro e w' ⟨ua, uc, rfl, hown, y1, rfl⟩
  (try simp only [plus_plus] at hown)
  have HU := Lib.hid (show Rd encI _ ua uc _ from hown.rd)
  clear hown
  go_wp2_with fail
  refine (HS.out _ (by (try unfold RdP); repeat (first | (with_reducible exact HR.out) | (with_reducible apply rd_seq) | (with_reducible apply Rd.plus) | (with_reducible apply Rd.alloc) | (with_reducible apply Rd.drew) | (with_reducible apply Rd.drewN)))).mono ?_
  rintro e w' ⟨va, vc, rfl, hown, y2, rfl⟩
  (try simp only [plus_plus] at hown)
  have HV := Lib.hid (show Rd encI _ va vc _ from hown.rd)
  clear hown
  go_wp2_with fail
  refine (soInts_yes ua va uc vc G _ (by (try unfold RdP); repeat (first | (with_reducible exact HU.out) | (with_reducible apply rd_seq) | (with_reducible apply Rd.plus) | (with_reducible apply Rd.alloc) | (with_reducible apply Rd.drew) | (with_reducible apply Rd.drewN))) (by (try unfold RdP); repeat (first | (with_reducible exact HV.out) | (with_reducible apply rd_seq) | (with_reducible apply Rd.plus) | (with_reducible apply Rd.alloc) | (with_reducible apply Rd.drew) | (with_reducible apply Rd.drewN)))).mono ?_
  rintro e w' ⟨rfl, y4, rfl⟩
  go_wp2_with fail
  refine wpn (fun X => X.heap[w.heap.size + x1.n]? = some (.cells #[.int .i64 o, .int .i64 l, .int .i64 m, .slice pa ps.length pc, .int .i64 b, .int .i64 last] 27 (0, 0)) ∧
    X.heap[w.heap.size + x1.n + 1 + (y1.n + y2.n + y4.n)]? = some (.cells #[.int .i64 o, .int .i64 l, .int .i64 m, .slice pa ps.length pc, .int .i64 b, .int .i64 last] 27 (0, 0)) ∧
    Rd encP X pa pc ps ∧ Rd encI X ua uc G ∧ Below w.heap.size w X) ⟨?_, ?_, (by (try unfold RdP); repeat (first | (with_reducible exact HR.out) | (with_reducible apply rd_seq) | (with_reducible apply Rd.plus) | (with_reducible apply Rd.alloc) | (with_reducible apply Rd.drew) | (with_reducible apply Rd.drewN))), (by (try unfold RdP); repeat (first | (with_reducible exact HU.out) | (with_reducible apply rd_seq) | (with_reducible apply Rd.plus) | (with_reducible apply Rd.alloc) | (with_reducible apply Rd.drew) | (with_reducible apply Rd.drewN))), (by repeat (first | exact Below.refl _ _ | refine below_plus ?_ (by first | omega | (simp <;> omega)) _ | refine Below.alloc ?_ (by first | omega | (simp <;> omega)) _ | refine below_patch ?_ (by omega) _ | refine Below.drew ?_))⟩ ?_
  · (repeat (first | apply blk_plus | apply blk_drew)); apply blk_alloc; (repeat (first | apply blk_plus | apply blk_drew)); exact push_new _ _ _ (by simp <;> omega)
  · (repeat (first | exact push_new _ _ _ (by simp <;> omega) | apply blk_plus | apply blk_alloc | apply blk_drew))
  have hbkx : w.heap.size + x1.n < w.heap.size + x1.n + 1 + (y1.n + y2.n + y4.n) := by omega
  have hwk : w.heap.size ≤ w.heap.size + x1.n := by omega
  have hUx := fun A (hA : ua = some A) (hc : 0 < uc) => rd_lt HU.out A hA hc
  have hRx := fun A (hA : pa = some A) (hc : 0 < pc) => rd_lt HR.out A hA hc
  simp at hUx hRx
  have hUx2 : ∀ A, ua = some A → 0 < uc → A.block ≠ w.heap.size + x1.n + 1 + (y1.n + y2.n + y4.n) := fun A hA hc => by have := hUx A hA hc; omega
  have hRx2 : ∀ A, pa = some A → 0 < pc → A.block ≠ w.heap.size + x1.n + 1 + (y1.n + y2.n + y4.n) := fun A hA hc => by have := hRx A hA hc; omega
  clear hUx hRx
  revert hbkx hwk hUx2 hRx2
  generalize w.heap.size + x1.n + 1 + (y1.n + y2.n + y4.n) = bx
  generalize w.heap.size + x1.n = bk
  intro hbkx hwk hUx2 hRx2
  clear HU HV HR HI HS
  rintro X ⟨hbk, hbx, hR, hU, hB⟩
  have HUX := Lib.hid hUx2
  have HR0 := Lib.hid (show Rd encP X pa pc ps ∧ ∀ A, pa = some A → 0 < pc → A.block ≠ bx from ⟨hR, hRx2⟩)
  have HBK0 := Lib.hid hbk
  have HBX0 := Lib.hid hbx
  have HU0 := Lib.hid hU
  have HB0 := Lib.hid hB
  have HD0 := Lib.hid hs5
  clear hUx2 hRx2 hbk hbx hR hU hB
  go_wp2_with fail
  go_loopw [10, 11] (fun r i wr => ∃ (k : Nat) (qs : List Pr) (lst : Int) (d : List UInt8) (xa : Option Addr) (xc : Nat), GLS o l m b G ps last s.data.toList k qs lst d ∧ k + 1 ≤ G.length ∧ d.length ≤ 60 ∧ r = .string (bstr d) ∧ i = .int .i64 k ∧
    wr.heap[bx]? = some (.cells #[.int .i64 o, .int .i64 l, .int .i64 m, .slice xa qs.length xc, .int .i64 b, .int .i64 lst] 27 (0, 0)) ∧
    wr.heap[bk]? = some (.cells #[.int .i64 o, .int .i64 l, .int .i64 m, .slice pa ps.length pc, .int .i64 b, .int .i64 last] 27 (0, 0)) ∧
    Rd encP wr xa xc qs ∧ (∀ A, xa = some A → 0 < xc → A.block ≠ bx) ∧ Rd encI wr ua uc G ∧ Below w.heap.size w wr) (fun _ i _ => G.length - (intOf i).toNat)
  case atStart => exact ⟨0, ps, last, s.data.toList, pa, pc, .inl ⟨rfl, rfl, rfl, rfl⟩, by omega, by rw [bytes_len]; omega, by rw [bstr_bytes], rfl, HBX0.out, HBK0.out, HR0.out.1, HR0.out.2, HU0.out, HB0.out⟩
  case round =>
    obtain ⟨k, qs, lst, d, xa, xc, hgls, hk1, hd60, rfl, rfl, hbx, hbk, hR, hRx, hU, hB⟩ := hrel
    have zx := (Array.getElem?_eq_some_iff.1 hbx).1
    have zk := (Array.getElem?_eq_some_iff.1 hbk).1
    have cx := cell_of hbx
    have ck := cell_of hbk
    have HXA := Lib.hid hR
    have HXX := Lib.hid hRx
    have HGR := Lib.hid hU
    have HB := Lib.hid hB
    have HBX := Lib.hid hbx
    have HBK := Lib.hid hbk
    have HGS := Lib.hid hgls
    have zw := hB.size
    have zg1 := hU.1
    have zg2 := hU.2.1
    have hds : (bstr d).size = d.length := bstr_size d
    obtain ⟨rs, hrs⟩ : ∃ rs, bstr d = rs := ⟨_, rfl⟩
    rw [hrs] at hds ⊢
    have HRS := Lib.hid hrs
    clear hbx hbk hR hRx hU hB hgls hrs
    rcases dec ((k : Int) < (G.length : Int) - 1) with ⟨hlt, blt⟩ | ⟨hlt, blt⟩
    · obtain ⟨hkv, hdf, hstep⟩ := HST.out k qs lst d HGS.out (by omega)
      have HKQ := Lib.hid (kvb_iff.2 hkv)
      have hql := kv_len HKQ.out
      rcases (rdI_open HGR.out) with ⟨_, _, z3 | ⟨bb, off, rfl, hbb, hcc⟩⟩
      · omega
      rcases hstep with ⟨hgk, hfull, hnext⟩ | ⟨n, c, hgk, hk0, hd0, hn, hc, hnext⟩
      · have cG := hcc k _ hgk
        have HFB := Lib.hid (show folB l m qs.length lst (two l) = false by
          cases h : folB l m qs.length lst (two l)
          · rfl
          · exact absurd rfl (okc_not (folB_iff.1 h)).1)
        have HAF := Lib.hid (fun (W : World) (h : RdP W xa xc qs) => implAfter_clear o l m xa xc qs b lst W h hkv)
        have HNX := Lib.hid hnext
        have HGK := Lib.hid hgk
        clear hcc hgk hnext hkv hdf
        have v5 : (two l != two l) = false := by simp
        have v6 : decide ((k : Int) > 0) = decide (0 < k) := by simp
        have hk' : ((k : Int)).toNat = k := by omega
        go_wp2_with fail
        refine wp_region_pt 10 (fun w' => ∃ y, w' = plus _ y) (Plan.quiet 0 (Plan.quiet 1 (Plan.quiet 2 (Plan.quiet 3 (Plan.quiet 4 (Plan.one 5 (Plan.quiet 6 (Plan.quiet 7 (Plan.quiet 8 (Plan.quiet 9 (Plan.one 10 Plan.done))))))))))) (by kernel_rfl) (by kernel_rfl) (⟨_, drew_is_plus _⟩) ?_
        refine wpPt_val rfl rfl ?_
        apply Exists.intro
        refine ⟨fun w' hS => ?_, ?_⟩
        focus (obtain ⟨y3, rfl⟩ := hS; simp [go_sem, ↓IntWalk.iteOmega, cG, cx] <;> first | done | exact rfl | (rw [IntWalk.i64_in _ (by omega)]; exact rfl) | trace_state)
        refine wpPt_val rfl rfl ?_
        apply Exists.intro
        refine ⟨fun w' hS => ?_, ?_⟩
        focus (obtain ⟨y3, rfl⟩ := hS; simp [go_sem, ↓IntWalk.iteOmega, cG, cx] <;> first | done | exact rfl | (rw [IntWalk.i64_in _ (by omega)]; exact rfl) | trace_state)
        refine wpPt_val rfl rfl ?_
        apply Exists.intro
        refine ⟨fun w' hS => ?_, ?_⟩
        focus (obtain ⟨y3, rfl⟩ := hS; simp [go_sem, ↓IntWalk.iteOmega, cG, cx] <;> first | done | exact rfl | (rw [IntWalk.i64_in _ (by omega)]; exact rfl) | trace_state)
        refine wpPt_val rfl rfl ?_
        apply Exists.intro
        refine ⟨fun w' hS => ?_, ?_⟩
        focus (obtain ⟨y3, rfl⟩ := hS; simp [go_sem, ↓IntWalk.iteOmega, cG, cx] <;> first | done | exact rfl | (rw [IntWalk.i64_in _ (by omega)]; exact rfl) | trace_state)
        refine wpPt_val rfl rfl ?_
        apply Exists.intro
        refine ⟨fun w' hS => ?_, ?_⟩
        focus (obtain ⟨y3, rfl⟩ := hS; simp [go_sem, ↓IntWalk.iteOmega, cG, cx] <;> first | done | exact rfl | (rw [IntWalk.i64_in _ (by omega)]; exact rfl) | trace_state)
        refine wpPt_one rfl rfl (fun K hK => ?_)
        go_simp
        refine (implWordOf_yes o l m xa xc qs b lst (two l) _ (by (try unfold RdP); repeat (first | (with_reducible exact HXA.out) | (with_reducible apply rd_seq) | (with_reducible apply Rd.plus) | (with_reducible apply Rd.alloc) | (with_reducible apply Rd.drew) | (with_reducible apply Rd.drewN))) HKQ.out).mono ?_
        rintro e w' ⟨rfl, y6, rfl⟩
        rw [HFB.out]
        (try rw [wofV_no])
        (try rw [wofV_yes])
        refine hK _ _ (fun hkn => (by repeat (first | exact More.refl _ | (with_reducible apply more_seq) | (with_reducible apply more_draw) | apply More.plus | apply More.alloc | apply More.drew))) ?_
        clear hK K
        refine wpPt_val rfl rfl ?_
        apply Exists.intro
        refine ⟨fun w' hS => ?_, ?_⟩
        focus (obtain ⟨y3, rfl⟩ := hS; simp [go_sem, ↓IntWalk.iteOmega, cG, cx] <;> first | done | exact rfl | (rw [IntWalk.i64_in _ (by omega)]; exact rfl) | trace_state)
        refine wpPt_val rfl rfl ?_
        apply Exists.intro
        refine ⟨fun w' hS => ?_, ?_⟩
        focus (obtain ⟨y3, rfl⟩ := hS; simp [go_sem, ↓IntWalk.iteOmega, cG, cx] <;> first | done | exact rfl | (rw [IntWalk.i64_in _ (by omega)]; exact rfl) | trace_state)
        refine wpPt_val rfl rfl ?_
        apply Exists.intro
        refine ⟨fun w' hS => ?_, ?_⟩
        focus (obtain ⟨y3, rfl⟩ := hS; simp [go_sem, ↓IntWalk.iteOmega, cG, cx] <;> first | done | exact rfl | (rw [IntWalk.i64_in _ (by omega)]; exact rfl) | trace_state)
        refine wpPt_val rfl rfl ?_
        apply Exists.intro
        refine ⟨fun w' hS => ?_, ?_⟩
        focus (obtain ⟨y3, rfl⟩ := hS; simp [go_sem, ↓IntWalk.iteOmega, cG, cx] <;> first | done | exact rfl | (rw [IntWalk.i64_in _ (by omega)]; exact rfl) | trace_state)
        refine wpPt_one rfl rfl (fun K hK => ?_)
        go_simp
        refine hK _ _ (fun hkn => absurd hkn (by decide)) ?_
        clear hK K
        refine NoPanic.normal ?_
        go_wp2_with fail
        rcases Nat.eq_zero_or_pos k with hk0 | hk0
        · have v7 : decide ((k : Int) > 0) = false := by simp; omega
          have v8 : decide (0 < k) = false := by simp; omega
          clear hk0 hfull
          go_wp2
          (refine wp_region_calm (by kernel_rfl) (by kernel_rfl) ?_
           repeat (first | go_big_quiet_skip | (go_big_quiet_want; go_big_quiet_op; first | go_big_quiet_on | (apply Exists.intro; refine ⟨fun _ => ?_, ?_⟩; (focus ((first | (go_at_call 38; first | refine calm_of (ClearCode_yes _ _ _ hs _) | refine calm_seq (ClearCode_yes _ _ _ hs _)) | (go_at_call 48; first | refine calm_of (LastCode_yes _ _ _ hs _) | refine calm_seq (LastCode_yes _ _ _ hs _)) | (go_at_call 47; first | refine calm_of (implNextWord_yes o l m xa xc qs b lst _ (by (try unfold RdP); repeat (first | (with_reducible exact HXA.out) | (with_reducible apply rd_seq) | (with_reducible apply Rd.plus) | (with_reducible apply Rd.alloc) | (with_reducible apply Rd.drew) | (with_reducible apply Rd.drewN))) HKQ.out) | refine calm_seq (implNextWord_yes o l m xa xc qs b lst _ (by (try unfold RdP); repeat (first | (with_reducible exact HXA.out) | (with_reducible apply rd_seq) | (with_reducible apply Rd.plus) | (with_reducible apply Rd.alloc) | (with_reducible apply Rd.drew) | (with_reducible apply Rd.drewN))) HKQ.out))))); go_big_quiet_on)))
           refine wpQuiet_nil ?_
           intro _ hw'
           obtain ⟨xq, hw''⟩ := hw'
           subst hw'')
          go_wp2_with fail
          refine wpn (fun Y => Y.heap[bx]? = some (.cells #[.int .i64 o, .int .i64 l, .int .i64 m, .slice xa qs.length xc, .int .i64 b, .int .i64 lst] 27 (0, 0)) ∧
            Y.heap[bk]? = some (.cells #[.int .i64 o, .int .i64 l, .int .i64 m, .slice pa ps.length pc, .int .i64 b, .int .i64 last] 27 (0, 0)) ∧
            Rd encP Y xa xc qs ∧ Rd encI Y (some ⟨bb, off, none⟩) uc G ∧ Y.cell? ⟨bb, off + k, none⟩ = some (.int .i64 (two l)) ∧ Below w.heap.size w Y) ⟨(by repeat (first | (with_reducible exact HBX.out) | (with_reducible apply blk_seq) | (with_reducible apply blk_draw) | (with_reducible apply blk_plus) | (with_reducible apply blk_alloc) | (with_reducible apply blk_drew) | (with_reducible refine blk_patch ?_ (by omega)) | exact HBX.out)), (by repeat (first | (with_reducible exact HBK.out) | (with_reducible apply blk_seq) | (with_reducible apply blk_draw) | (with_reducible apply blk_plus) | (with_reducible apply blk_alloc) | (with_reducible apply blk_drew) | (with_reducible refine blk_patch ?_ (by omega)) | exact HBK.out)), (by (try unfold RdP); repeat (first | (with_reducible exact HXA.out) | (with_reducible apply rd_seq) | (with_reducible apply Rd.plus) | (with_reducible apply Rd.alloc) | (with_reducible apply Rd.drew) | (with_reducible apply Rd.drewN))), (by (try unfold RdP); repeat (first | (with_reducible exact HGR.out) | (with_reducible apply rd_seq) | (with_reducible apply Rd.plus) | (with_reducible apply Rd.alloc) | (with_reducible apply Rd.drew) | (with_reducible apply Rd.drewN))), more_cell (by repeat (first | exact More.refl _ | apply More.plus | apply More.alloc | apply More.drew | apply More.drewN)) hbb cG, (by repeat (first | (with_reducible exact HB.out) | refine below_plus ?_ (by first | omega | (simp <;> omega)) _ | refine Below.alloc ?_ (by first | omega | (simp <;> omega)) _ | refine below_patch ?_ (by omega) _ | refine Below.drew ?_))⟩ ?_
          clear HXA HGR HB HBX HBK cx ck zk zx cG hbb
          rintro Y ⟨hbxY, hbkY, hRY, hGY, cG, hBY⟩
          have zx := (Array.getElem?_eq_some_iff.1 hbxY).1
          have cx := cell_of hbxY
          have HXA := Lib.hid hRY
          have HGR := Lib.hid hGY
          have HB := Lib.hid hBY
          have HBX := Lib.hid hbxY
          have HBK := Lib.hid hbkY
          have zw2 := hBY.size
          have hbbx : bb ≠ bx := HUX.out ⟨bb, off, none⟩ rfl (by omega)
          clear hbxY hbkY hRY hGY hBY
          refine wp_region_pt 10 (fun w' => w'.cell? ⟨bb, off + k, none⟩ = some (.int .i64 (two l))) (Plan.quiet 1 (Plan.quiet 2 (Plan.quiet 3 (Plan.quiet 4 (Plan.one 0 (Plan.one 5 (Plan.quiet 6 (Plan.quiet 7 (Plan.quiet 8 (Plan.one 9 Plan.done)))))))))) (by kernel_rfl) (by kernel_rfl) (cG) ?_
          refine wpPt_val rfl rfl ?_
          apply Exists.intro
          refine ⟨fun w' hS => ?_, ?_⟩
          focus (have rS := hS; simp [go_sem, ↓IntWalk.iteOmega, rS] <;> first | done | exact rfl | (rw [IntWalk.i64_in _ (by omega)]; exact rfl) | trace_state)
          refine wpPt_val rfl rfl ?_
          apply Exists.intro
          refine ⟨fun w' hS => ?_, ?_⟩
          focus (have rS := hS; simp [go_sem, ↓IntWalk.iteOmega, rS] <;> first | done | exact rfl | (rw [IntWalk.i64_in _ (by omega)]; exact rfl) | trace_state)
          refine wpPt_val rfl rfl ?_
          apply Exists.intro
          refine ⟨fun w' hS => ?_, ?_⟩
          focus (have rS := hS; simp [go_sem, ↓IntWalk.iteOmega, rS] <;> first | done | exact rfl | (rw [IntWalk.i64_in _ (by omega)]; exact rfl) | trace_state)
          refine wpPt_val rfl rfl ?_
          apply Exists.intro
          refine ⟨fun w' hS => ?_, ?_⟩
          focus (have rS := hS; simp [go_sem, ↓IntWalk.iteOmega, rS] <;> first | done | exact rfl | (rw [IntWalk.i64_in _ (by omega)]; exact rfl) | trace_state)
          refine wpPt_one rfl rfl (fun K hK => ?_)
          go_simp
          refine hK _ _ (fun hkn => cG) ?_
          clear hK K
          refine wpPt_one rfl rfl (fun K hK => ?_)
          go_simp
          refine (HAF.out _ (by (try unfold RdP); repeat (first | (with_reducible exact HXA.out) | (with_reducible apply rd_seq) | (with_reducible apply Rd.plus) | (with_reducible apply Rd.alloc) | (with_reducible apply Rd.drew) | (with_reducible apply Rd.drewN)))).mono ?_
          rintro e w8 ⟨na, nc, rfl, hown, y8, hw8⟩
          have HO8 := Lib.hid hown
          have hblk8 := (show w8.heap[bx]? = some (.cells #[.int .i64 o, .int .i64 l, .int .i64 m, .slice xa qs.length xc, .int .i64 b, .int .i64 lst] 27 (0, 0)) from by rw [hw8]; exact (by repeat (first | (with_reducible exact HBX.out) | (with_reducible apply blk_seq) | (with_reducible apply blk_draw) | (with_reducible apply blk_plus) | (with_reducible apply blk_alloc) | (with_reducible apply blk_drew) | (with_reducible refine blk_patch ?_ (by omega)) | exact HBX.out)))
          have HK8 := Lib.hid (show w8.heap[bk]? = some (.cells #[.int .i64 o, .int .i64 l, .int .i64 m, .slice pa ps.length pc, .int .i64 b, .int .i64 last] 27 (0, 0)) from by rw [hw8]; exact (by repeat (first | (with_reducible exact HBK.out) | (with_reducible apply blk_seq) | (with_reducible apply blk_draw) | (with_reducible apply blk_plus) | (with_reducible apply blk_alloc) | (with_reducible apply blk_drew) | (with_reducible refine blk_patch ?_ (by omega)) | exact HBK.out)))
          have HG8 := Lib.hid (show Rd encI w8 (some ⟨bb, off, none⟩) uc G from by rw [hw8]; exact (by (try unfold RdP); repeat (first | (with_reducible exact HGR.out) | (with_reducible apply rd_seq) | (with_reducible apply Rd.plus) | (with_reducible apply Rd.alloc) | (with_reducible apply Rd.drew) | (with_reducible apply Rd.drewN))))
          have HB8 := Lib.hid (show Below w.heap.size w w8 from by rw [hw8]; exact (by repeat (first | (with_reducible exact HB.out) | refine below_plus ?_ (by first | omega | (simp <;> omega)) _ | refine Below.alloc ?_ (by first | omega | (simp <;> omega)) _ | refine below_patch ?_ (by omega) _ | refine Below.drew ?_)))
          have HC8 := Lib.hid (show w8.cell? ⟨bb, off + k, none⟩ = some (.int .i64 (two l)) from by
          rcases rdI_open HG8.out with ⟨_, _, z3 | ⟨b9, off9, h9, hbb9, hcc9⟩⟩
          · omega
          · cases h9; exact hcc9 k _ HGK.out)
          have s8 := fun i v => setCell_patch hblk8 i v
          have f8 := free_of hblk8
          have r8 := cell_of hblk8
          have z8 : bx < w8.heap.size := (Array.getElem?_eq_some_iff.1 hblk8).1
          have hoz := fun A hA => (own_lt hown A hA).1
          simp at hoz
          clear hown hw8
          refine hK _ _ (fun hkn => HC8.out) ?_
          clear hK K
          refine wpPt_val rfl rfl ?_
          apply Exists.intro
          refine ⟨fun w' hS => ?_, ?_⟩
          focus (have rS := hS; simp [go_sem, ↓IntWalk.iteOmega, rS] <;> first | done | exact rfl | (rw [IntWalk.i64_in _ (by omega)]; exact rfl) | trace_state)
          refine wpPt_val rfl rfl ?_
          apply Exists.intro
          refine ⟨fun w' hS => ?_, ?_⟩
          focus (have rS := hS; simp [go_sem, ↓IntWalk.iteOmega, rS] <;> first | done | exact rfl | (rw [IntWalk.i64_in _ (by omega)]; exact rfl) | trace_state)
          refine wpPt_val rfl rfl ?_
          apply Exists.intro
          refine ⟨fun w' hS => ?_, ?_⟩
          focus (have rS := hS; simp [go_sem, ↓IntWalk.iteOmega, rS] <;> first | done | exact rfl | (rw [IntWalk.i64_in _ (by omega)]; exact rfl) | trace_state)
          refine wpPt_one rfl rfl (fun K hK => ?_)
          go_simp
          refine hK _ _ (fun hkn => (World.cell?_of_block (patch_other _ _ _ hbbx)).trans HC8.out) ?_
          clear hK K
          refine NoPanic.normal ?_
          go_wp2_with fail
          have hox : Off na bx := fun A hA => by have := hoz A hA; omega
          go_roundw
          case rel => exact ⟨k + 1, qs.take b, -1, d, na, nc, HNX.out, by omega, hd60, by rw [HRS.out], by go_num, (by rw [patch_at _ _ _ z8] <;> simp), by rw [patch_other _ _ _ (by omega)]; exact HK8.out, (own_patch HO8.out hox).rd, fun A hA _ => hox A hA, rd_patch HG8.out _ _ (fun A hA => HUX.out A hA (by omega)), below_patch HB8.out (by omega) _⟩
          case measure => simp [intOf]; omega
        · have hf2 : two m - 1 < nw l qs.length := by
            rcases hfull with h | h
            · omega
            · exact h
          have v7 : decide ((k : Int) > 0) = true := by simp; omega
          have v8 : decide (0 < k) = true := by simp; omega
          have v9 : decide (nw l qs.length ≤ two m - 1) = false := by simp; omega
          go_wp2
          (refine wp_region_calm (by kernel_rfl) (by kernel_rfl) ?_
           repeat (first | go_big_quiet_skip | (go_big_quiet_want; go_big_quiet_op; first | go_big_quiet_on | (apply Exists.intro; refine ⟨fun _ => ?_, ?_⟩; (focus ((first | (go_at_call 38; first | refine calm_of (ClearCode_yes _ _ _ hs _) | refine calm_seq (ClearCode_yes _ _ _ hs _)) | (go_at_call 48; first | refine calm_of (LastCode_yes _ _ _ hs _) | refine calm_seq (LastCode_yes _ _ _ hs _)) | (go_at_call 47; first | refine calm_of (implNextWord_yes o l m xa xc qs b lst _ (by (try unfold RdP); repeat (first | (with_reducible exact HXA.out) | (with_reducible apply rd_seq) | (with_reducible apply Rd.plus) | (with_reducible apply Rd.alloc) | (with_reducible apply Rd.drew) | (with_reducible apply Rd.drewN))) HKQ.out) | refine calm_seq (implNextWord_yes o l m xa xc qs b lst _ (by (try unfold RdP); repeat (first | (with_reducible exact HXA.out) | (with_reducible apply rd_seq) | (with_reducible apply Rd.plus) | (with_reducible apply Rd.alloc) | (with_reducible apply Rd.drew) | (with_reducible apply Rd.drewN))) HKQ.out))))); go_big_quiet_on)))
           refine wpQuiet_nil ?_
           intro _ hw'
           obtain ⟨xq, hw''⟩ := hw'
           subst hw'')
          go_wp2_with fail
          refine wpn (fun Y => Y.heap[bx]? = some (.cells #[.int .i64 o, .int .i64 l, .int .i64 m, .slice xa qs.length xc, .int .i64 b, .int .i64 lst] 27 (0, 0)) ∧
            Y.heap[bk]? = some (.cells #[.int .i64 o, .int .i64 l, .int .i64 m, .slice pa ps.length pc, .int .i64 b, .int .i64 last] 27 (0, 0)) ∧
            Rd encP Y xa xc qs ∧ Rd encI Y (some ⟨bb, off, none⟩) uc G ∧ Y.cell? ⟨bb, off + k, none⟩ = some (.int .i64 (two l)) ∧ Below w.heap.size w Y) ⟨(by repeat (first | (with_reducible exact HBX.out) | (with_reducible apply blk_seq) | (with_reducible apply blk_draw) | (with_reducible apply blk_plus) | (with_reducible apply blk_alloc) | (with_reducible apply blk_drew) | (with_reducible refine blk_patch ?_ (by omega)) | exact HBX.out)), (by repeat (first | (with_reducible exact HBK.out) | (with_reducible apply blk_seq) | (with_reducible apply blk_draw) | (with_reducible apply blk_plus) | (with_reducible apply blk_alloc) | (with_reducible apply blk_drew) | (with_reducible refine blk_patch ?_ (by omega)) | exact HBK.out)), (by (try unfold RdP); repeat (first | (with_reducible exact HXA.out) | (with_reducible apply rd_seq) | (with_reducible apply Rd.plus) | (with_reducible apply Rd.alloc) | (with_reducible apply Rd.drew) | (with_reducible apply Rd.drewN))), (by (try unfold RdP); repeat (first | (with_reducible exact HGR.out) | (with_reducible apply rd_seq) | (with_reducible apply Rd.plus) | (with_reducible apply Rd.alloc) | (with_reducible apply Rd.drew) | (with_reducible apply Rd.drewN))), more_cell (by repeat (first | exact More.refl _ | apply More.plus | apply More.alloc | apply More.drew | apply More.drewN)) hbb cG, (by repeat (first | (with_reducible exact HB.out) | refine below_plus ?_ (by first | omega | (simp <;> omega)) _ | refine Below.alloc ?_ (by first | omega | (simp <;> omega)) _ | refine below_patch ?_ (by omega) _ | refine Below.drew ?_))⟩ ?_
          clear HXA HGR HB HBX HBK cx ck zk zx cG hbb
          rintro Y ⟨hbxY, hbkY, hRY, hGY, cG, hBY⟩
          have zx := (Array.getElem?_eq_some_iff.1 hbxY).1
          have cx := cell_of hbxY
          have HXA := Lib.hid hRY
          have HGR := Lib.hid hGY
          have HB := Lib.hid hBY
          have HBX := Lib.hid hbxY
          have HBK := Lib.hid hbkY
          have zw2 := hBY.size
          have hbbx : bb ≠ bx := HUX.out ⟨bb, off, none⟩ rfl (by omega)
          clear hbxY hbkY hRY hGY hBY
          refine wp_region_pt 10 (fun w' => w'.cell? ⟨bb, off + k, none⟩ = some (.int .i64 (two l))) (Plan.quiet 1 (Plan.quiet 2 (Plan.quiet 3 (Plan.quiet 4 (Plan.one 0 (Plan.one 5 (Plan.quiet 6 (Plan.quiet 7 (Plan.quiet 8 (Plan.one 9 Plan.done)))))))))) (by kernel_rfl) (by kernel_rfl) (cG) ?_
          refine wpPt_val rfl rfl ?_
          apply Exists.intro
          refine ⟨fun w' hS => ?_, ?_⟩
          focus (have rS := hS; simp [go_sem, ↓IntWalk.iteOmega, rS] <;> first | done | exact rfl | (rw [IntWalk.i64_in _ (by omega)]; exact rfl) | trace_state)
          refine wpPt_val rfl rfl ?_
          apply Exists.intro
          refine ⟨fun w' hS => ?_, ?_⟩
          focus (have rS := hS; simp [go_sem, ↓IntWalk.iteOmega, rS] <;> first | done | exact rfl | (rw [IntWalk.i64_in _ (by omega)]; exact rfl) | trace_state)
          refine wpPt_val rfl rfl ?_
          apply Exists.intro
          refine ⟨fun w' hS => ?_, ?_⟩
          focus (have rS := hS; simp [go_sem, ↓IntWalk.iteOmega, rS] <;> first | done | exact rfl | (rw [IntWalk.i64_in _ (by omega)]; exact rfl) | trace_state)
          refine wpPt_val rfl rfl ?_
          apply Exists.intro
          refine ⟨fun w' hS => ?_, ?_⟩
          focus (have rS := hS; simp [go_sem, ↓IntWalk.iteOmega, rS] <;> first | done | exact rfl | (rw [IntWalk.i64_in _ (by omega)]; exact rfl) | trace_state)
          refine wpPt_one rfl rfl (fun K hK => ?_)
          go_simp
          refine hK _ _ (fun hkn => cG) ?_
          clear hK K
          refine wpPt_one rfl rfl (fun K hK => ?_)
          go_simp
          refine (HAF.out _ (by (try unfold RdP); repeat (first | (with_reducible exact HXA.out) | (with_reducible apply rd_seq) | (with_reducible apply Rd.plus) | (with_reducible apply Rd.alloc) | (with_reducible apply Rd.drew) | (with_reducible apply Rd.drewN)))).mono ?_
          rintro e w8 ⟨na, nc, rfl, hown, y8, hw8⟩
          have HO8 := Lib.hid hown
          have hblk8 := (show w8.heap[bx]? = some (.cells #[.int .i64 o, .int .i64 l, .int .i64 m, .slice xa qs.length xc, .int .i64 b, .int .i64 lst] 27 (0, 0)) from by rw [hw8]; exact (by repeat (first | (with_reducible exact HBX.out) | (with_reducible apply blk_seq) | (with_reducible apply blk_draw) | (with_reducible apply blk_plus) | (with_reducible apply blk_alloc) | (with_reducible apply blk_drew) | (with_reducible refine blk_patch ?_ (by omega)) | exact HBX.out)))
          have HK8 := Lib.hid (show w8.heap[bk]? = some (.cells #[.int .i64 o, .int .i64 l, .int .i64 m, .slice pa ps.length pc, .int .i64 b, .int .i64 last] 27 (0, 0)) from by rw [hw8]; exact (by repeat (first | (with_reducible exact HBK.out) | (with_reducible apply blk_seq) | (with_reducible apply blk_draw) | (with_reducible apply blk_plus) | (with_reducible apply blk_alloc) | (with_reducible apply blk_drew) | (with_reducible refine blk_patch ?_ (by omega)) | exact HBK.out)))
          have HG8 := Lib.hid (show Rd encI w8 (some ⟨bb, off, none⟩) uc G from by rw [hw8]; exact (by (try unfold RdP); repeat (first | (with_reducible exact HGR.out) | (with_reducible apply rd_seq) | (with_reducible apply Rd.plus) | (with_reducible apply Rd.alloc) | (with_reducible apply Rd.drew) | (with_reducible apply Rd.drewN))))
          have HB8 := Lib.hid (show Below w.heap.size w w8 from by rw [hw8]; exact (by repeat (first | (with_reducible exact HB.out) | refine below_plus ?_ (by first | omega | (simp <;> omega)) _ | refine Below.alloc ?_ (by first | omega | (simp <;> omega)) _ | refine below_patch ?_ (by omega) _ | refine Below.drew ?_)))
          have HC8 := Lib.hid (show w8.cell? ⟨bb, off + k, none⟩ = some (.int .i64 (two l)) from by
          rcases rdI_open HG8.out with ⟨_, _, z3 | ⟨b9, off9, h9, hbb9, hcc9⟩⟩
          · omega
          · cases h9; exact hcc9 k _ HGK.out)
          have s8 := fun i v => setCell_patch hblk8 i v
          have f8 := free_of hblk8
          have r8 := cell_of hblk8
          have z8 : bx < w8.heap.size := (Array.getElem?_eq_some_iff.1 hblk8).1
          have hoz := fun A hA => (own_lt hown A hA).1
          simp at hoz
          clear hown hw8
          refine hK _ _ (fun hkn => HC8.out) ?_
          clear hK K
          refine wpPt_val rfl rfl ?_
          apply Exists.intro
          refine ⟨fun w' hS => ?_, ?_⟩
          focus (have rS := hS; simp [go_sem, ↓IntWalk.iteOmega, rS] <;> first | done | exact rfl | (rw [IntWalk.i64_in _ (by omega)]; exact rfl) | trace_state)
          refine wpPt_val rfl rfl ?_
          apply Exists.intro
          refine ⟨fun w' hS => ?_, ?_⟩
          focus (have rS := hS; simp [go_sem, ↓IntWalk.iteOmega, rS] <;> first | done | exact rfl | (rw [IntWalk.i64_in _ (by omega)]; exact rfl) | trace_state)
          refine wpPt_val rfl rfl ?_
          apply Exists.intro
          refine ⟨fun w' hS => ?_, ?_⟩
          focus (have rS := hS; simp [go_sem, ↓IntWalk.iteOmega, rS] <;> first | done | exact rfl | (rw [IntWalk.i64_in _ (by omega)]; exact rfl) | trace_state)
          refine wpPt_one rfl rfl (fun K hK => ?_)
          go_simp
          refine hK _ _ (fun hkn => (World.cell?_of_block (patch_other _ _ _ hbbx)).trans HC8.out) ?_
          clear hK K
          refine NoPanic.normal ?_
          go_wp2_with fail
          have hox : Off na bx := fun A hA => by have := hoz A hA; omega
          go_roundw
          case rel => exact ⟨k + 1, qs.take b, -1, d, na, nc, HNX.out, by omega, hd60, by rw [HRS.out], by go_num, (by rw [patch_at _ _ _ z8] <;> simp), by rw [patch_other _ _ _ (by omega)]; exact HK8.out, (own_patch HO8.out hox).rd, fun A hA _ => hox A hA, rd_patch HG8.out _ _ (fun A hA => HUX.out A hA (by omega)), below_patch HB8.out (by omega) _⟩
          case measure => simp [intOf]; omega
      · have cG := hcc k _ hgk
        have hok := fnd_ok hn hc
        have HFB := Lib.hid (show folB l m qs.length lst c = true from folB_iff.2 hok)
        have HAF := Lib.hid (fun (W : World) (h : RdP W xa xc qs) => implAfter_code o l m xa xc qs b lst c W h hkv hok)
        have HNX := Lib.hid hnext
        have HGK := Lib.hid hgk
        have hw0 := fnd_word hn hc
        have HLW := Lib.hid (fun (W : World) (h : RdP W xa xc qs) => implLongestWord_yes o l m xa xc qs b lst rs W h (by unfold maxLen; omega) HKQ.out (by rw [← HRS.out]; exact hdf) (by omega) n (by rw [← HRS.out, bytes_bstr]; exact hn))
        have hn1 := hn.1
        have hn2 := hn.2.1
        have hc0 := hok.nonneg t1
        have hwd : (rs.data.toList.take n) = d.take n := by rw [← HRS.out, bytes_bstr]
        obtain ⟨ws, hws⟩ : ∃ ws, bstr (d.take n) = ws := ⟨_, rfl⟩
        have hwz : ws.size = n := by rw [← hws, bstr_size, List.length_take]; omega
        have hwb : ws.data.toList = d.take n := by rw [← hws, bytes_bstr]
        have HCW := Lib.hid (fun (W : World) (h : RdP W xa xc qs) => implCodeOfWord_yes o l m xa xc qs b lst ws W h HKQ.out (by unfold maxLen; omega) c (by rw [hwb]; exact hc))
        rw [codeV_yes hc0] at HCW
        rw [hwd, hws] at HLW
        have HWS := Lib.hid (show bstr (anyW l qs lst c) = ws by rw [hw0, hws])
        have v4 : (ws.toList != ws.toList) = false := by simp
        have v5 : (c != c) = false := by simp
        have hex : rs.extract n rs.size = bstr (d.drop n) := by
          rw [← bstr_bytes (rs.extract n rs.size), ext_drop, ← HRS.out, bytes_bstr]
        rw [hds] at hex
        have hdl : (d.drop n).length ≤ 60 := by rw [List.length_drop]; omega
        clear hcc hgk hnext hkv hdf hwd hws hwb hw0 hc hn hok
        go_wp2_with fail
        refine wp_region_pt 10 (fun w' => ∃ y, w' = plus _ y) (Plan.quiet 0 (Plan.quiet 1 (Plan.quiet 2 (Plan.quiet 3 (Plan.quiet 4 (Plan.one 5 (Plan.quiet 6 (Plan.quiet 7 (Plan.quiet 8 (Plan.quiet 9 (Plan.one 10 Plan.done))))))))))) (by kernel_rfl) (by kernel_rfl) (⟨_, drew_is_plus _⟩) ?_
        refine wpPt_val rfl rfl ?_
        apply Exists.intro
        refine ⟨fun w' hS => ?_, ?_⟩
        focus (obtain ⟨y3, rfl⟩ := hS; simp [go_sem, ↓IntWalk.iteOmega, cG, cx] <;> first | done | exact rfl | (rw [IntWalk.i64_in _ (by omega)]; exact rfl) | trace_state)
        refine wpPt_val rfl rfl ?_
        apply Exists.intro
        refine ⟨fun w' hS => ?_, ?_⟩
        focus (obtain ⟨y3, rfl⟩ := hS; simp [go_sem, ↓IntWalk.iteOmega, cG, cx] <;> first | done | exact rfl | (rw [IntWalk.i64_in _ (by omega)]; exact rfl) | trace_state)
        refine wpPt_val rfl rfl ?_
        apply Exists.intro
        refine ⟨fun w' hS => ?_, ?_⟩
        focus (obtain ⟨y3, rfl⟩ := hS; simp [go_sem, ↓IntWalk.iteOmega, cG, cx] <;> first | done | exact rfl | (rw [IntWalk.i64_in _ (by omega)]; exact rfl) | trace_state)
        refine wpPt_val rfl rfl ?_
        apply Exists.intro
        refine ⟨fun w' hS => ?_, ?_⟩
        focus (obtain ⟨y3, rfl⟩ := hS; simp [go_sem, ↓IntWalk.iteOmega, cG, cx] <;> first | done | exact rfl | (rw [IntWalk.i64_in _ (by omega)]; exact rfl) | trace_state)
        refine wpPt_val rfl rfl ?_
        apply Exists.intro
        refine ⟨fun w' hS => ?_, ?_⟩
        focus (obtain ⟨y3, rfl⟩ := hS; simp [go_sem, ↓IntWalk.iteOmega, cG, cx] <;> first | done | exact rfl | (rw [IntWalk.i64_in _ (by omega)]; exact rfl) | trace_state)
        refine wpPt_one rfl rfl (fun K hK => ?_)
        go_simp
        refine (implWordOf_yes o l m xa xc qs b lst c _ (by (try unfold RdP); repeat (first | (with_reducible exact HXA.out) | (with_reducible apply rd_seq) | (with_reducible apply Rd.plus) | (with_reducible apply Rd.alloc) | (with_reducible apply Rd.drew) | (with_reducible apply Rd.drewN))) HKQ.out).mono ?_
        rintro e w' ⟨rfl, y6, rfl⟩
        rw [HFB.out, wofV_yes, HWS.out]
        refine hK _ _ (fun hkn => (by repeat (first | exact More.refl _ | (with_reducible apply more_seq) | (with_reducible apply more_draw) | apply More.plus | apply More.alloc | apply More.drew))) ?_
        clear hK K
        refine wpPt_val rfl rfl ?_
        apply Exists.intro
        refine ⟨fun w' hS => ?_, ?_⟩
        focus (obtain ⟨y3, rfl⟩ := hS; simp [go_sem, ↓IntWalk.iteOmega, cG, cx] <;> first | done | exact rfl | (rw [IntWalk.i64_in _ (by omega)]; exact rfl) | trace_state)
        refine wpPt_val rfl rfl ?_
        apply Exists.intro
        refine ⟨fun w' hS => ?_, ?_⟩
        focus (obtain ⟨y3, rfl⟩ := hS; simp [go_sem, ↓IntWalk.iteOmega, cG, cx] <;> first | done | exact rfl | (rw [IntWalk.i64_in _ (by omega)]; exact rfl) | trace_state)
        refine wpPt_val rfl rfl ?_
        apply Exists.intro
        refine ⟨fun w' hS => ?_, ?_⟩
        focus (obtain ⟨y3, rfl⟩ := hS; simp [go_sem, ↓IntWalk.iteOmega, cG, cx] <;> first | done | exact rfl | (rw [IntWalk.i64_in _ (by omega)]; exact rfl) | trace_state)
        refine wpPt_val rfl rfl ?_
        apply Exists.intro
        refine ⟨fun w' hS => ?_, ?_⟩
        focus (obtain ⟨y3, rfl⟩ := hS; simp [go_sem, ↓IntWalk.iteOmega, cG, cx] <;> first | done | exact rfl | (rw [IntWalk.i64_in _ (by omega)]; exact rfl) | trace_state)
        refine wpPt_one rfl rfl (fun K hK => ?_)
        go_simp
        refine hK _ _ (fun hkn => absurd hkn (by decide)) ?_
        clear hK K
        refine NoPanic.normal ?_
        go_wp2_with fail
        refine (HCW.out _ (by (try unfold RdP); repeat (first | (with_reducible exact HXA.out) | (with_reducible apply rd_seq) | (with_reducible apply Rd.plus) | (with_reducible apply Rd.alloc) | (with_reducible apply Rd.drew) | (with_reducible apply Rd.drewN)))).mono ?_
        rintro e w' ⟨rfl, y7, rfl⟩
        go_wp2_with fail
        refine (HLW.out _ (by (try unfold RdP); repeat (first | (with_reducible exact HXA.out) | (with_reducible apply rd_seq) | (with_reducible apply Rd.plus) | (with_reducible apply Rd.alloc) | (with_reducible apply Rd.drew) | (with_reducible apply Rd.drewN)))).mono ?_
        rintro e w' ⟨rfl, y9, rfl⟩
        go_wp2_with fail
        refine wpn (fun Y => Y.heap[bx]? = some (.cells #[.int .i64 o, .int .i64 l, .int .i64 m, .slice xa qs.length xc, .int .i64 b, .int .i64 lst] 27 (0, 0)) ∧
          Y.heap[bk]? = some (.cells #[.int .i64 o, .int .i64 l, .int .i64 m, .slice pa ps.length pc, .int .i64 b, .int .i64 last] 27 (0, 0)) ∧
          Rd encP Y xa xc qs ∧ Rd encI Y (some ⟨bb, off, none⟩) uc G ∧ Y.cell? ⟨bb, off + k, none⟩ = some (.int .i64 (c)) ∧ Below w.heap.size w Y) ⟨(by repeat (first | (with_reducible exact HBX.out) | (with_reducible apply blk_seq) | (with_reducible apply blk_draw) | (with_reducible apply blk_plus) | (with_reducible apply blk_alloc) | (with_reducible apply blk_drew) | (with_reducible refine blk_patch ?_ (by omega)) | exact HBX.out)), (by repeat (first | (with_reducible exact HBK.out) | (with_reducible apply blk_seq) | (with_reducible apply blk_draw) | (with_reducible apply blk_plus) | (with_reducible apply blk_alloc) | (with_reducible apply blk_drew) | (with_reducible refine blk_patch ?_ (by omega)) | exact HBK.out)), (by (try unfold RdP); repeat (first | (with_reducible exact HXA.out) | (with_reducible apply rd_seq) | (with_reducible apply Rd.plus) | (with_reducible apply Rd.alloc) | (with_reducible apply Rd.drew) | (with_reducible apply Rd.drewN))), (by (try unfold RdP); repeat (first | (with_reducible exact HGR.out) | (with_reducible apply rd_seq) | (with_reducible apply Rd.plus) | (with_reducible apply Rd.alloc) | (with_reducible apply Rd.drew) | (with_reducible apply Rd.drewN))), more_cell (by repeat (first | exact More.refl _ | apply More.plus | apply More.alloc | apply More.drew | apply More.drewN)) hbb cG, (by repeat (first | (with_reducible exact HB.out) | refine below_plus ?_ (by first | omega | (simp <;> omega)) _ | refine Below.alloc ?_ (by first | omega | (simp <;> omega)) _ | refine below_patch ?_ (by omega) _ | refine Below.drew ?_))⟩ ?_
        clear HXA HGR HB HBX HBK cx ck zk zx cG hbb
        rintro Y ⟨hbxY, hbkY, hRY, hGY, cG, hBY⟩
        have zx := (Array.getElem?_eq_some_iff.1 hbxY).1
        have cx := cell_of hbxY
        have HXA := Lib.hid hRY
        have HGR := Lib.hid hGY
        have HB := Lib.hid hBY
        have HBX := Lib.hid hbxY
        have HBK := Lib.hid hbkY
        have zw2 := hBY.size
        have hbbx : bb ≠ bx := HUX.out ⟨bb, off, none⟩ rfl (by omega)
        clear hbxY hbkY hRY hGY hBY
        refine wp_region_pt 10 (fun w' => w'.cell? ⟨bb, off + k, none⟩ = some (.int .i64 (c))) (Plan.quiet 1 (Plan.quiet 2 (Plan.quiet 3 (Plan.quiet 4 (Plan.one 0 (Plan.one 5 (Plan.quiet 6 (Plan.quiet 7 (Plan.quiet 8 (Plan.one 9 Plan.done)))))))))) (by kernel_rfl) (by kernel_rfl) (cG) ?_
        refine wpPt_val rfl rfl ?_
        apply Exists.intro
        refine ⟨fun w' hS => ?_, ?_⟩
        focus (have rS := hS; simp [go_sem, ↓IntWalk.iteOmega, rS] <;> first | done | exact rfl | (rw [IntWalk.i64_in _ (by omega)]; exact rfl) | trace_state)
        refine wpPt_val rfl rfl ?_
        apply Exists.intro
        refine ⟨fun w' hS => ?_, ?_⟩
        focus (have rS := hS; simp [go_sem, ↓IntWalk.iteOmega, rS] <;> first | done | exact rfl | (rw [IntWalk.i64_in _ (by omega)]; exact rfl) | trace_state)
        refine wpPt_val rfl rfl ?_
        apply Exists.intro
        refine ⟨fun w' hS => ?_, ?_⟩
        focus (have rS := hS; simp [go_sem, ↓IntWalk.iteOmega, rS] <;> first | done | exact rfl | (rw [IntWalk.i64_in _ (by omega)]; exact rfl) | trace_state)
        refine wpPt_val rfl rfl ?_
        apply Exists.intro
        refine ⟨fun w' hS => ?_, ?_⟩
        focus (have rS := hS; simp [go_sem, ↓IntWalk.iteOmega, rS] <;> first | done | exact rfl | (rw [IntWalk.i64_in _ (by omega)]; exact rfl) | trace_state)
        refine wpPt_one rfl rfl (fun K hK => ?_)
        go_simp
        refine hK _ _ (fun hkn => cG) ?_
        clear hK K
        refine wpPt_one rfl rfl (fun K hK => ?_)
        go_simp
        refine (HAF.out _ (by (try unfold RdP); repeat (first | (with_reducible exact HXA.out) | (with_reducible apply rd_seq) | (with_reducible apply Rd.plus) | (with_reducible apply Rd.alloc) | (with_reducible apply Rd.drew) | (with_reducible apply Rd.drewN)))).mono ?_
        rintro e w8 ⟨na, nc, rfl, hown, y8, hw8⟩
        have HO8 := Lib.hid hown
        have hblk8 := (show w8.heap[bx]? = some (.cells #[.int .i64 o, .int .i64 l, .int .i64 m, .slice xa qs.length xc, .int .i64 b, .int .i64 lst] 27 (0, 0)) from by rw [hw8]; exact (by repeat (first | (with_reducible exact HBX.out) | (with_reducible apply blk_seq) | (with_reducible apply blk_draw) | (with_reducible apply blk_plus) | (with_reducible apply blk_alloc) | (with_reducible apply blk_drew) | (with_reducible refine blk_patch ?_ (by omega)) | exact HBX.out)))
        have HK8 := Lib.hid (show w8.heap[bk]? = some (.cells #[.int .i64 o, .int .i64 l, .int .i64 m, .slice pa ps.length pc, .int .i64 b, .int .i64 last] 27 (0, 0)) from by rw [hw8]; exact (by repeat (first | (with_reducible exact HBK.out) | (with_reducible apply blk_seq) | (with_reducible apply blk_draw) | (with_reducible apply blk_plus) | (with_reducible apply blk_alloc) | (with_reducible apply blk_drew) | (with_reducible refine blk_patch ?_ (by omega)) | exact HBK.out)))
        have HG8 := Lib.hid (show Rd encI w8 (some ⟨bb, off, none⟩) uc G from by rw [hw8]; exact (by (try unfold RdP); repeat (first | (with_reducible exact HGR.out) | (with_reducible apply rd_seq) | (with_reducible apply Rd.plus) | (with_reducible apply Rd.alloc) | (with_reducible apply Rd.drew) | (with_reducible apply Rd.drewN))))
        have HB8 := Lib.hid (show Below w.heap.size w w8 from by rw [hw8]; exact (by repeat (first | (with_reducible exact HB.out) | refine below_plus ?_ (by first | omega | (simp <;> omega)) _ | refine Below.alloc ?_ (by first | omega | (simp <;> omega)) _ | refine below_patch ?_ (by omega) _ | refine Below.drew ?_)))
        have HC8 := Lib.hid (show w8.cell? ⟨bb, off + k, none⟩ = some (.int .i64 (c)) from by
        rcases rdI_open HG8.out with ⟨_, _, z3 | ⟨b9, off9, h9, hbb9, hcc9⟩⟩
        · omega
        · cases h9; exact hcc9 k _ HGK.out)
        have s8 := fun i v => setCell_patch hblk8 i v
        have f8 := free_of hblk8
        have r8 := cell_of hblk8
        have z8 : bx < w8.heap.size := (Array.getElem?_eq_some_iff.1 hblk8).1
        have hoz := fun A hA => (own_lt hown A hA).1
        simp at hoz
        clear hown hw8
        refine hK _ _ (fun hkn => HC8.out) ?_
        clear hK K
        refine wpPt_val rfl rfl ?_
        apply Exists.intro
        refine ⟨fun w' hS => ?_, ?_⟩
        focus (have rS := hS; simp [go_sem, ↓IntWalk.iteOmega, rS] <;> first | done | exact rfl | (rw [IntWalk.i64_in _ (by omega)]; exact rfl) | trace_state)
        refine wpPt_val rfl rfl ?_
        apply Exists.intro
        refine ⟨fun w' hS => ?_, ?_⟩
        focus (have rS := hS; simp [go_sem, ↓IntWalk.iteOmega, rS] <;> first | done | exact rfl | (rw [IntWalk.i64_in _ (by omega)]; exact rfl) | trace_state)
        refine wpPt_val rfl rfl ?_
        apply Exists.intro
        refine ⟨fun w' hS => ?_, ?_⟩
        focus (have rS := hS; simp [go_sem, ↓IntWalk.iteOmega, rS] <;> first | done | exact rfl | (rw [IntWalk.i64_in _ (by omega)]; exact rfl) | trace_state)
        refine wpPt_one rfl rfl (fun K hK => ?_)
        go_simp
        refine hK _ _ (fun hkn => (World.cell?_of_block (patch_other _ _ _ hbbx)).trans HC8.out) ?_
        clear hK K
        refine NoPanic.normal ?_
        go_wp2_with fail
        have hox : Off na bx := fun A hA => by have := hoz A hA; omega
        go_roundw
        case rel => exact ⟨k + 1, aftP l m qs lst c, c, d.drop n, na, nc, HNX.out, by omega, hdl, rfl, by go_num, (by rw [patch_at _ _ _ z8] <;> simp), by rw [patch_other _ _ _ (by omega)]; exact HK8.out, (own_patch HO8.out hox).rd, fun A hA _ => hox A hA, rd_patch HG8.out _ _ (fun A hA => HUX.out A hA (by omega)), below_patch HB8.out (by omega) _⟩
        case measure => simp [intOf]; omega
    · have hde := HDN.out k qs lst d HGS.out (by omega)
      have he1 : rs.toList.isEmpty = true := by
        rw [isEmpty_size, decide_eq_true_eq, hds, hde]
        rfl
      clear hde
      go_wp2_with fail
      go_ret
      exact ⟨rfl, (by repeat (first | (with_reducible exact HB.out) | refine below_plus ?_ (by first | omega | (simp <;> omega)) _ | refine Below.alloc ?_ (by first | omega | (simp <;> omega)) _ | refine below_patch ?_ (by omega) _ | refine Below.drew ?_))⟩

end Go.Proofs.Ytlihhlihcjncoaa
