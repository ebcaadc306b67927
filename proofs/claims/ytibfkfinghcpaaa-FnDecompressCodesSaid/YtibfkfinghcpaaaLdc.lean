/- The law DecompressCodes: the data of codes are literals, and the walk. -/
import Derived.Test.YtibfkfinghcpaaaDru
import Derived.Test.YtibfkfinghcpaaaSog
import Derived.Test.YtibfkfinghcpaaaUnd
namespace Go.Proofs.Ytibfkfinghcpaaa
open Go.RowKit
set_option linter.unusedVariables false
set_option linter.unusedSimpArgs false

theorem any_lits {o l m base last c : Int} {ps : List Pr} (h : KV o l m ps base last) (hc : Okc l m ps.length last c) : ∀ x ∈ anyW l ps last c, (x.toNat : Int) < two l := by
  obtain ⟨_, _, _, _, t1, t2, _, _⟩ := h.lim.bds
  rcases hc with hc | ⟨hg, rfl⟩
  · rw [any_hw hc]
    exact W_lits h.ok t1 t2 _ c hc rfl
  · have hl : hw l ps.length last = true := by
      rcases h.last with ⟨rfl, _⟩ | h
      · exact absurd rfl (grB_iff.1 hg).1
      · exact h
    rw [any_nw]
    intro x hx
    rcases List.mem_append.1 hx with h1 | h1
    · exact W_lits h.ok t1 t2 _ last hl rfl x h1
    · exact W_lits h.ok t1 t2 _ last hl rfl x (List.mem_of_mem_take h1)

theorem wlk_lits {o l m : Int} {b : Nat} : ∀ (cs : List Int) (ps : List Pr) (last : Int) (W : List Int) (D : List UInt8) (W' : List Int) (D' : List UInt8), KV o l m ps (b : Int) last → (∀ x ∈ D, (x.toNat : Int) < two l) → wlk l m b cs ps last W D = some (W', D') → ∀ x ∈ D', (x.toNat : Int) < two l
  | [], ps, last, W, D, W', D', hk, hD, h => by
    rw [wlk_nil] at h
    cases h
    exact hD
  | c :: cs, ps, last, W, D, W', D', hk, hD, h => by
    by_cases h1 : c = two l + 1
    · subst h1
      rw [wlk_end] at h
      split at h
      · cases h; exact hD
      · cases h
    · by_cases h2 : c = two l
      · subst h2
        rw [wlk_clear] at h
        exact wlk_lits cs _ _ _ _ _ _ (by simpa using hk.cleared) hD h
      · by_cases h3 : Okc l m ps.length last c ∧ D.length + (anyW l ps last c).length ≤ 2000
        · rw [wlk_word h3.1 h3.2] at h
          refine wlk_lits cs _ _ _ _ _ _ (hk.after h3.1) (fun x hx => ?_) h
          rcases List.mem_append.1 hx with h4 | h4
          · exact hD x h4
          · exact any_lits hk h3.1 x h4
        · rw [wlk_bad h2 h1 h3] at h
          cases h

theorem unR_fits {o l m : Int} {b : Nat} {ps : List Pr} {last : Int} {s : ByteArray} (hk : kvb o l m ps (b : Int) last = true) : dfB o l m (bstr (unR o l m b ps last s).D) = true := by
  obtain ⟨⟨W, hW⟩, _, h3, _⟩ := unR_facts (s := s) hk
  have hkv := kvb_iff.1 hk
  have hl := wlk_lits _ _ _ _ _ _ _ hkv (by simp) hW
  unfold dfB litB isLit
  simp only [Bool.and_eq_true, decide_eq_true_eq, List.all_eq_true, bstr_size, bytes_bstr]
  exact ⟨hkv.s, by omega, fun x hx => hl x hx⟩

set_option maxRecDepth 100000 in
set_option maxHeartbeats 2000000 in
theorem DrawDecompress_any (a : Option Addr) (cap : Nat) (bs : List UInt8) (w : World) (hr : Rd encB w a cap bs) :
    Calls Try.prog 22 #[.slice a bs.length cap] w (RetKs w) := by
  go_enter Try.func22, Try.ntmps22
  go_wp2_with fail
  refine (DrawUnpackCodes_at a cap bs _ (by repeat (first | exact hr | apply rd_seq | apply Rd.plus | apply Rd.alloc | apply Rd.drew | apply Rd.drewN | refine rd_patch ?_ _ _ (by intro A hA; first | (cases hA; show _ ≠ _; omega) | (have := hal A hA; omega))))).mono ?_
  rintro e w' ⟨o, l, m, pa, pc, ps, base, last, s, rfl, hl3, hs5, hrd, ⟨x1, rfl⟩, hoff⟩
  simp at hoff
  have HR := Lib.hid (show Rd encP _ pa pc ps from hrd)
  clear hrd
  go_wp2_with fail
  exact bodyPost_ret (v := .tuple #[.agg #[.int .i64 o, .int .i64 l, .int .i64 m, .slice pa ps.length pc, .int .i64 base, .int .i64 last], .string s]) (by simp [results, Try.results22, go_sem, ↓IntWalk.iteOmega]) rfl ⟨o, l, m, pa, pc, ps, base, last, s, rfl, hl3, hs5, rd_sn (D1 := w.heap.size) (D2 := w.heap.size) HR.out (by repeat (first | (with_reducible exact sn_refl _ _ _) | (with_reducible apply sn_plus) | (with_reducible apply sn_patch) | (with_reducible apply sn_drew) | (with_reducible refine sn_right ?_ (by first | exact .inl rfl | exact .inr rfl | omega) _) | (with_reducible refine sn_left ?_ (by first | exact .inl rfl | exact .inr rfl | omega) _) | (with_reducible apply sn_alloc) | (with_reducible refine sn_alloc2 ?_ (by simp <;> omega) _ _))) (fun X hX => ⟨by have := hoff X hX; omega, by have := hoff X hX; omega⟩), below_more (by repeat (first | exact Below.refl _ _ | refine below_plus ?_ (by first | omega | (simp <;> omega)) _ | refine Below.alloc ?_ (by first | omega | (simp <;> omega)) _ | refine below_patch ?_ (by omega) _ | refine Below.drew ?_))⟩

set_option maxRecDepth 100000 in
set_option maxHeartbeats 4000000 in
theorem lawDecompressCodes_any (a : Option Addr) (cap : Nat) (bs : List UInt8) (w : World) (hr : Rd encB w a cap bs) :
    Calls Try.prog 5 #[.slice a bs.length cap] w (fun e w' => e = .returned (.bool true) ∧ Below w.heap.size w w') := by
  have g1 := hr.1
  have g2 := hr.2.1
  by_cases h1 : bs.length ≤ 1048576
  case neg =>
    go_enter Try.func5, Try.ntmps5
    go_wp2
    go_ret
    exact ⟨rfl, (by repeat (first | exact Below.refl _ _ | refine below_plus ?_ (by first | omega | (simp <;> omega)) _ | refine Below.alloc ?_ (by first | omega | (simp <;> omega)) _ | refine below_patch ?_ (by omega) _ | refine Below.drew ?_))⟩
  go_enter Try.func5, Try.ntmps5
  go_wp2_with fail
  refine (DrawDecompress_any a cap bs _ (by repeat (first | exact hr | apply rd_seq | apply Rd.plus | apply Rd.alloc | apply Rd.drew | apply Rd.drewN | refine rd_patch ?_ _ _ (by intro A hA; first | (cases hA; show _ ≠ _; omega) | (have := hal A hA; omega))))).mono ?_
  rintro e w' ⟨o, l, m, pa, pc, ps, base, last, s, rfl, hl3, hs5, hrd, x1, rfl⟩
  have hm : s.size ≤ maxLen := by unfold maxLen; omega
  have HR := Lib.hid (show Rd encP _ pa pc ps from hrd)
  clear hrd
  by_cases hbad : kvb o l m ps base last = false ∨ 4000 < s.size
  · have HI := Lib.hid (fun (W : World) (h : RdP W pa pc ps) => implDecompress_no o l m pa pc ps base last s W h hm hbad)
    have HS := Lib.hid (fun (W : World) (h : RdP W pa pc ps) => specDecompress_no o l m pa pc ps base last s W h hm hbad)
    clear hbad
    go_wp2_with fail
    refine (HI.out _ (by (try unfold RdP); repeat (first | (with_reducible exact HR.out) | (with_reducible apply rd_seq) | (with_reducible apply Rd.plus) | (with_reducible apply Rd.alloc) | (with_reducible apply Rd.drew) | (with_reducible apply Rd.drewN)))).mono ?_
    rintro e w' ⟨rfl, y1, rfl⟩
    go_wp2_with fail
    refine (HS.out _ (by (try unfold RdP); repeat (first | (with_reducible exact HR.out) | (with_reducible apply rd_seq) | (with_reducible apply Rd.plus) | (with_reducible apply Rd.alloc) | (with_reducible apply Rd.drew) | (with_reducible apply Rd.drewN)))).mono ?_
    rintro e w' ⟨rfl, y2, rfl⟩
    go_wp2_with fail
    go_ret
    exact ⟨rfl, (by repeat (first | exact Below.refl _ _ | refine below_plus ?_ (by first | omega | (simp <;> omega)) _ | refine Below.alloc ?_ (by first | omega | (simp <;> omega)) _ | refine below_patch ?_ (by omega) _ | refine Below.drew ?_))⟩
  have hk : kvb o l m ps base last = true := by
    cases hk : kvb o l m ps base last
    · exact absurd (.inl hk) hbad
    · rfl
  have hsz : s.size ≤ 4000 := by
    rcases Nat.lt_or_ge 4000 s.size with h1 | h1
    · exact absurd (.inr h1) hbad
    · exact h1
  have hb0 := (kvb_iff.1 hk).b0
  obtain ⟨b, rfl⟩ : ∃ b : Nat, base = b := ⟨base.toNat, by omega⟩
  obtain ⟨⟨W, hW⟩, h2, h3, h4⟩ := unR_facts (s := s) hk
  have hfit := unR_fits (s := s) hk
  have he4 : (unR o l m b ps last s).e ≤ 3 := (rdc_e _ _ _ _ _ _).2
  obtain ⟨R, hR⟩ : ∃ R, unR o l m b ps last s = R := ⟨_, rfl⟩
  rw [hR] at hW h2 h3 h4 hfit he4
  obtain ⟨y, hy⟩ : ∃ y, bstr R.D = y := ⟨_, rfl⟩
  have hyz : y.size ≤ 2000 := by rw [← hy, bstr_size]; omega
  rw [hy] at hfit
  have HI := Lib.hid (fun (W : World) (h : RdP W pa pc ps) => implDecompress_yes o l m pa pc ps b last s W h hk hsz R hR)
  have HS := Lib.hid (fun (W : World) (h : RdP W pa pc ps) => specDecompress_yes o l m pa pc ps b last s W h hk hsz R hR)
  have HU := Lib.hid (fun (W : World) (h : RdP W pa pc ps) => implUnpackCodes_yes o l m pa pc ps b last s W h hk hsz R hR)
  have HC := Lib.hid (fun (V : World) (ia : Option Addr) (ic : Nat) (h1 : RdP V pa pc ps) (h2' : Rd encI V ia ic R.C) => implCodesData_yes o l m pa pc ps b last ia ic R.C V h1 h2' hk h2 b rfl W _ hW)
  rw [hy] at HI HS HC
  have HF := Lib.hid hfit
  have v1 : (R.e == 4) = false := by simp; omega
  have v2 : (R.e != R.e) = false := by simp
  have v3 : (usedV s.size R != usedV s.size R) = false := by simp
  have v4 : (R.e == R.e) = true := by simp
  have v5 : (usedV s.size R == usedV s.size R) = true := by simp
  clear hbad hk hW hR hy hfit
  go_wp2_with fail
  refine (HI.out _ (by (try unfold RdP); repeat (first | (with_reducible exact HR.out) | (with_reducible apply rd_seq) | (with_reducible apply Rd.plus) | (with_reducible apply Rd.alloc) | (with_reducible apply Rd.drew) | (with_reducible apply Rd.drewN)))).mono ?_
  rintro e w' ⟨rfl, y1, rfl⟩
  go_wp2_with fail
  refine (HS.out _ (by (try unfold RdP); repeat (first | (with_reducible exact HR.out) | (with_reducible apply rd_seq) | (with_reducible apply Rd.plus) | (with_reducible apply Rd.alloc) | (with_reducible apply Rd.drew) | (with_reducible apply Rd.drewN)))).mono ?_
  rintro e w' ⟨rfl, y2, rfl⟩
  go_wp2_with fail
  refine (HU.out _ (by (try unfold RdP); repeat (first | (with_reducible exact HR.out) | (with_reducible apply rd_seq) | (with_reducible apply Rd.plus) | (with_reducible apply Rd.alloc) | (with_reducible apply Rd.drew) | (with_reducible apply Rd.drewN)))).mono ?_
  rintro e w' ⟨ia, ic, rfl, hown, y3, rfl⟩
  (try simp only [plus_plus] at hown)
  have HG := Lib.hid (show Rd encI _ ia ic R.C from hown.rd)
  clear hown
  go_wp2_with fail
  refine (HC.out _ ia ic (by (try unfold RdP); repeat (first | (with_reducible exact HR.out) | (with_reducible apply rd_seq) | (with_reducible apply Rd.plus) | (with_reducible apply Rd.alloc) | (with_reducible apply Rd.drew) | (with_reducible apply Rd.drewN))) (by (try unfold RdP); repeat (first | (with_reducible exact HG.out) | (with_reducible apply rd_seq) | (with_reducible apply Rd.plus) | (with_reducible apply Rd.alloc) | (with_reducible apply Rd.drew) | (with_reducible apply Rd.drewN)))).mono ?_
  rintro e w' ⟨rfl, y4, rfl⟩
  go_wp2_with fail
  refine (DataFits_any o l m y _ (by unfold maxLen; omega)).mono ?_
  rintro e w' ⟨rfl, y5, rfl⟩
  rw [HF.out]
  go_wp2_with fail
  go_ret
  exact ⟨rfl, (by repeat (first | exact Below.refl _ _ | refine below_plus ?_ (by first | omega | (simp <;> omega)) _ | refine Below.alloc ?_ (by first | omega | (simp <;> omega)) _ | refine below_patch ?_ (by omega) _ | refine Below.drew ?_))⟩

end Go.Proofs.Ytibfkfinghcpaaa
