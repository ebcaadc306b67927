/- The law Greedy: the walk. -/
import Derived.Test.YtlihhlihcjncoaaDrl
import Derived.Test.YtlihhlihcjncoaaSog
import Derived.Test.YtlihhlihcjncoaaWkp
import Derived.Test.YtlihhlihcjncoaaTrd
namespace Go.Proofs.Ytlihhlihcjncoaa
open Go.RowKit
set_option linter.unusedVariables false
set_option linter.unusedSimpArgs false

theorem greL_wlk2 {o l m last : Int} {b : Nat} {ps : List Pr} {s : ByteArray} (hkv : KV o l m ps (b : Int) last) (hd : dfB o l m s = true) : ∃ W, wlk l m b (greL l m b ps s.data.toList) ps last [] [] = some (W, s.data.toList) := by
  have hT : Tx o l m (b : Int) (ps.take b) (-1) s.data.toList := ⟨by simpa using hkv.cleared, by rw [bstr_bytes]; exact hd⟩
  have hz := dfB_len hd
  obtain ⟨W, hW⟩ := gre_wlk (b := b) s.data.toList.length (ps.take b) (-1) s.data.toList [wd l m ps.length last] [] hT (Nat.le_refl _) (by rw [bytes_len]; simp; omega)
  refine ⟨W, ?_⟩
  unfold greL
  rw [wlk_clear]
  simpa using hW

set_option maxRecDepth 100000 in
set_option maxHeartbeats 4000000 in
theorem lawGreedy_any (a : Option Addr) (cap : Nat) (bs : List UInt8) (w : World) (hr : Rd encB w a cap bs) :
    Calls Try.prog 11 #[.slice a bs.length cap] w (fun e w' => e = .returned (.bool true) ∧ Below w.heap.size w w') := by
  have g1 := hr.1
  have g2 := hr.2.1
  by_cases h1 : bs.length ≤ 1048576
  case neg =>
    go_enter Try.func11, Try.ntmps11
    go_wp2
    go_ret
    exact ⟨rfl, (by repeat (first | exact Below.refl _ _ | refine below_plus ?_ (by first | omega | (simp <;> omega)) _ | refine Below.alloc ?_ (by first | omega | (simp <;> omega)) _ | refine below_patch ?_ (by omega) _ | refine Below.drew ?_))⟩
  go_enter Try.func11, Try.ntmps11
  go_wp2_with fail
  refine (DrawGreedyCodes_any a cap bs _ (by repeat (first | exact hr | apply rd_seq | apply Rd.plus | apply Rd.alloc | apply Rd.drew | apply Rd.drewN | refine rd_patch ?_ _ _ (by intro A hA; first | (cases hA; show _ ≠ _; omega) | (have := hal A hA; omega))))).mono ?_
  rintro e w' ⟨o, l, m, pa, pc, ps, base, last, s, rfl, hl3, hs5, hrd, x1, rfl⟩
  have hm : s.size ≤ maxLen := by unfold maxLen; omega
  have HR := Lib.hid (show Rd encP _ pa pc ps from hrd)
  clear hrd
  by_cases hbad : kvb o l m ps base last = false ∨ dfB o l m s = false
  · have HI := Lib.hid (fun (W : World) (h : RdP W pa pc ps) => implGreedyCodes_no o l m pa pc ps base last s W h hm hbad)
    have HS := Lib.hid (fun (W : World) (h : RdP W pa pc ps) => specGreedyCodes_no o l m pa pc ps base last s W h hm hbad)
    cases hk : kvb o l m ps base last
    · have HK := Lib.hid hk
      clear hk hbad
      go_wp2_with fail
      refine (HI.out _ (by (try unfold RdP); repeat (first | (with_reducible exact HR.out) | (with_reducible apply rd_seq) | (with_reducible apply Rd.plus) | (with_reducible apply Rd.alloc) | (with_reducible apply Rd.drew) | (with_reducible apply Rd.drewN)))).mono ?_
      rintro e w2 ⟨ia, ic, rfl, hown, y1, hw2⟩
      have HT3 := Lib.hid (show w2.heap[w.heap.size + x1.n]? = some (.cells #[.int .i64 o, .int .i64 l, .int .i64 m, .slice pa ps.length pc, .int .i64 base, .int .i64 last] 27 (0, 0)) from by rw [hw2]; exact blk_plus (push_new _ _ _ (by simp)) _)
      have HR2 := Lib.hid (show Rd encP w2 pa pc ps from by rw [hw2]; exact (by (try unfold RdP); repeat (first | (with_reducible exact HR.out) | (with_reducible apply rd_seq) | (with_reducible apply Rd.plus) | (with_reducible apply Rd.alloc) | (with_reducible apply Rd.drew) | (with_reducible apply Rd.drewN))))
      have HBW := Lib.hid (show Below w.heap.size w w2 from by rw [hw2]; exact (by repeat (first | exact Below.refl _ _ | refine below_plus ?_ (by first | omega | (simp <;> omega)) _ | refine Below.alloc ?_ (by first | omega | (simp <;> omega)) _ | refine below_patch ?_ (by omega) _ | refine Below.drew ?_)))
      have HG1 := Lib.hid hown.rd
      have r3 := cell_of HT3.out
      have hz3 : w.heap.size + x1.n < w2.heap.size := (Array.getElem?_eq_some_iff.1 HT3.out).1
      clear hown hw2
      go_wp2_with fail
      refine (HS.out _ (by (try unfold RdP); repeat (first | (with_reducible exact HR2.out) | (with_reducible apply rd_seq) | (with_reducible apply Rd.plus) | (with_reducible apply Rd.alloc) | (with_reducible apply Rd.drew) | (with_reducible apply Rd.drewN)))).mono ?_
      rintro e w' ⟨ja, jc, rfl, hown, y2, rfl⟩
      have HG2 := Lib.hid hown.rd
      clear hown
      go_wp2_with fail
      refine (KnownValid_any o l m pa pc ps base last _ (by (try unfold RdP); repeat (first | (with_reducible exact HR2.out) | (with_reducible apply rd_seq) | (with_reducible apply Rd.plus) | (with_reducible apply Rd.alloc) | (with_reducible apply Rd.drew) | (with_reducible apply Rd.drewN)))).mono ?_
      rintro e w' ⟨rfl, y3, rfl⟩
      rw [HK.out]
      go_wp2_with fail
      refine (soInts_yes ia ja ic jc [] _ (by (try unfold RdP); repeat (first | (with_reducible exact HG1.out) | (with_reducible apply rd_seq) | (with_reducible apply Rd.plus) | (with_reducible apply Rd.alloc) | (with_reducible apply Rd.drew) | (with_reducible apply Rd.drewN))) (by (try unfold RdP); repeat (first | (with_reducible exact HG2.out) | (with_reducible apply rd_seq) | (with_reducible apply Rd.plus) | (with_reducible apply Rd.alloc) | (with_reducible apply Rd.drew) | (with_reducible apply Rd.drewN)))).mono ?_
      rintro e w' ⟨rfl, y4, rfl⟩
      go_wp2_with fail
      refine (soInts_yes ia ja ic jc [] _ (by (try unfold RdP); repeat (first | (with_reducible exact HG1.out) | (with_reducible apply rd_seq) | (with_reducible apply Rd.plus) | (with_reducible apply Rd.alloc) | (with_reducible apply Rd.drew) | (with_reducible apply Rd.drewN))) (by (try unfold RdP); repeat (first | (with_reducible exact HG2.out) | (with_reducible apply rd_seq) | (with_reducible apply Rd.plus) | (with_reducible apply Rd.alloc) | (with_reducible apply Rd.drew) | (with_reducible apply Rd.drewN)))).mono ?_
      rintro e w' ⟨rfl, y5, rfl⟩
      go_wp2_with fail
      go_ret
      exact ⟨rfl, (by repeat (first | (with_reducible exact HBW.out) | refine below_plus ?_ (by first | omega | (simp <;> omega)) _ | refine Below.alloc ?_ (by first | omega | (simp <;> omega)) _ | refine below_patch ?_ (by omega) _ | refine Below.drew ?_))⟩
    · have HK := Lib.hid hk
      have hdf : dfB o l m s = false := hbad.resolve_left (fun h => by rw [hk] at h; cases h)
      have HDF := Lib.hid hdf
      clear hk hbad hdf
      go_wp2_with fail
      refine (HI.out _ (by (try unfold RdP); repeat (first | (with_reducible exact HR.out) | (with_reducible apply rd_seq) | (with_reducible apply Rd.plus) | (with_reducible apply Rd.alloc) | (with_reducible apply Rd.drew) | (with_reducible apply Rd.drewN)))).mono ?_
      rintro e w2 ⟨ia, ic, rfl, hown, y1, hw2⟩
      have HT3 := Lib.hid (show w2.heap[w.heap.size + x1.n]? = some (.cells #[.int .i64 o, .int .i64 l, .int .i64 m, .slice pa ps.length pc, .int .i64 base, .int .i64 last] 27 (0, 0)) from by rw [hw2]; exact blk_plus (push_new _ _ _ (by simp)) _)
      have HR2 := Lib.hid (show Rd encP w2 pa pc ps from by rw [hw2]; exact (by (try unfold RdP); repeat (first | (with_reducible exact HR.out) | (with_reducible apply rd_seq) | (with_reducible apply Rd.plus) | (with_reducible apply Rd.alloc) | (with_reducible apply Rd.drew) | (with_reducible apply Rd.drewN))))
      have HBW := Lib.hid (show Below w.heap.size w w2 from by rw [hw2]; exact (by repeat (first | exact Below.refl _ _ | refine below_plus ?_ (by first | omega | (simp <;> omega)) _ | refine Below.alloc ?_ (by first | omega | (simp <;> omega)) _ | refine below_patch ?_ (by omega) _ | refine Below.drew ?_)))
      have HG1 := Lib.hid hown.rd
      have r3 := cell_of HT3.out
      have hz3 : w.heap.size + x1.n < w2.heap.size := (Array.getElem?_eq_some_iff.1 HT3.out).1
      clear hown hw2
      go_wp2_with fail
      refine (HS.out _ (by (try unfold RdP); repeat (first | (with_reducible exact HR2.out) | (with_reducible apply rd_seq) | (with_reducible apply Rd.plus) | (with_reducible apply Rd.alloc) | (with_reducible apply Rd.drew) | (with_reducible apply Rd.drewN)))).mono ?_
      rintro e w' ⟨ja, jc, rfl, hown, y2, rfl⟩
      have HG2 := Lib.hid hown.rd
      clear hown
      go_wp2_with fail
      refine (KnownValid_any o l m pa pc ps base last _ (by (try unfold RdP); repeat (first | (with_reducible exact HR2.out) | (with_reducible apply rd_seq) | (with_reducible apply Rd.plus) | (with_reducible apply Rd.alloc) | (with_reducible apply Rd.drew) | (with_reducible apply Rd.drewN)))).mono ?_
      rintro e w' ⟨rfl, y3, rfl⟩
      rw [HK.out]
      go_wp2_with fail
      refine (DataFits_any o l m s _ hm).mono ?_
      rintro e w' ⟨rfl, y6, rfl⟩
      rw [HDF.out]
      go_wp2_with fail
      refine (soInts_yes ia ja ic jc [] _ (by (try unfold RdP); repeat (first | (with_reducible exact HG1.out) | (with_reducible apply rd_seq) | (with_reducible apply Rd.plus) | (with_reducible apply Rd.alloc) | (with_reducible apply Rd.drew) | (with_reducible apply Rd.drewN))) (by (try unfold RdP); repeat (first | (with_reducible exact HG2.out) | (with_reducible apply rd_seq) | (with_reducible apply Rd.plus) | (with_reducible apply Rd.alloc) | (with_reducible apply Rd.drew) | (with_reducible apply Rd.drewN)))).mono ?_
      rintro e w' ⟨rfl, y4, rfl⟩
      go_wp2_with fail
      refine (soInts_yes ia ja ic jc [] _ (by (try unfold RdP); repeat (first | (with_reducible exact HG1.out) | (with_reducible apply rd_seq) | (with_reducible apply Rd.plus) | (with_reducible apply Rd.alloc) | (with_reducible apply Rd.drew) | (with_reducible apply Rd.drewN))) (by (try unfold RdP); repeat (first | (with_reducible exact HG2.out) | (with_reducible apply rd_seq) | (with_reducible apply Rd.plus) | (with_reducible apply Rd.alloc) | (with_reducible apply Rd.drew) | (with_reducible apply Rd.drewN)))).mono ?_
      rintro e w' ⟨rfl, y5, rfl⟩
      go_wp2_with fail
      go_ret
      exact ⟨rfl, (by repeat (first | (with_reducible exact HBW.out) | refine below_plus ?_ (by first | omega | (simp <;> omega)) _ | refine Below.alloc ?_ (by first | omega | (simp <;> omega)) _ | refine below_patch ?_ (by omega) _ | refine Below.drew ?_))⟩
  have hk : kvb o l m ps base last = true := by
    cases hk : kvb o l m ps base last
    · exact absurd (.inl hk) hbad
    · rfl
  have hd : dfB o l m s = true := by
    cases hd : dfB o l m s
    · exact absurd (.inr hd) hbad
    · rfl
  have hkv := kvb_iff.1 hk
  have hs := hkv.s
  obtain ⟨b, rfl⟩ : ∃ b : Nat, base = b := ⟨base.toNat, by have := hkv.b0; omega⟩
  obtain ⟨W, hW⟩ := greL_wlk2 hkv hd
  obtain ⟨G, hG⟩ : ∃ G, greL l m b ps s.data.toList = G := ⟨_, rfl⟩
  have hgl : G.length ≤ 3100 := by rw [← hG]; exact greL_len2 hkv (by rw [bstr_bytes]; exact hd) (by rw [bytes_len]; exact dfB_len hd)
  obtain ⟨M, hM⟩ : ∃ M, G = two l :: (M ++ [two l + 1]) := ⟨_, by rw [← hG]; rfl⟩
  rw [hG] at hW
  have HI := Lib.hid (fun (W : World) (h : RdP W pa pc ps) => implGreedyCodes_yes o l m pa pc ps b last s W h hm hk hd b rfl G hG)
  have HS := Lib.hid (fun (W : World) (h : RdP W pa pc ps) => specGreedyCodes_yes o l m pa pc ps b last s W h hm hk hd b rfl G hG)
  have HCD := Lib.hid (fun (V : World) (ia : Option Addr) (ic : Nat) (h1 : RdP V pa pc ps) (h2 : Rd encI V ia ic G) => implCodesData_yes o l m pa pc ps b last ia ic G V h1 h2 hk hgl b rfl W _ hW)
  rw [bstr_bytes] at HCD
  have HK := Lib.hid hk
  have HDF := Lib.hid hd
  have HM := Lib.hid hM
  obtain ⟨base, hbe⟩ : ∃ z : Int, (b : Int) = z := ⟨_, rfl⟩
  rw [hbe] at HI HS HCD HK ⊢
  clear hbad hk hd hkv hW hG hM hbe
  go_wp2_with fail
  refine (HI.out _ (by (try unfold RdP); repeat (first | (with_reducible exact HR.out) | (with_reducible apply rd_seq) | (with_reducible apply Rd.plus) | (with_reducible apply Rd.alloc) | (with_reducible apply Rd.drew) | (with_reducible apply Rd.drewN)))).mono ?_
  rintro e w2 ⟨ia, ic, rfl, hown, y1, hw2⟩
  have HT3 := Lib.hid (show w2.heap[w.heap.size + x1.n]? = some (.cells #[.int .i64 o, .int .i64 l, .int .i64 m, .slice pa ps.length pc, .int .i64 base, .int .i64 last] 27 (0, 0)) from by rw [hw2]; exact blk_plus (push_new _ _ _ (by simp)) _)
  have HR2 := Lib.hid (show Rd encP w2 pa pc ps from by rw [hw2]; exact (by (try unfold RdP); repeat (first | (with_reducible exact HR.out) | (with_reducible apply rd_seq) | (with_reducible apply Rd.plus) | (with_reducible apply Rd.alloc) | (with_reducible apply Rd.drew) | (with_reducible apply Rd.drewN))))
  have HBW := Lib.hid (show Below w.heap.size w w2 from by rw [hw2]; exact (by repeat (first | exact Below.refl _ _ | refine below_plus ?_ (by first | omega | (simp <;> omega)) _ | refine Below.alloc ?_ (by first | omega | (simp <;> omega)) _ | refine below_patch ?_ (by omega) _ | refine Below.drew ?_)))
  have HG1 := Lib.hid hown.rd
  have r3 := cell_of HT3.out
  have hz3 : w.heap.size + x1.n < w2.heap.size := (Array.getElem?_eq_some_iff.1 HT3.out).1
  clear hown hw2
  go_wp2_with fail
  refine (HS.out _ (by (try unfold RdP); repeat (first | (with_reducible exact HR2.out) | (with_reducible apply rd_seq) | (with_reducible apply Rd.plus) | (with_reducible apply Rd.alloc) | (with_reducible apply Rd.drew) | (with_reducible apply Rd.drewN)))).mono ?_
  rintro e w' ⟨ja, jc, rfl, hown, y2, rfl⟩
  have HG2 := Lib.hid hown.rd
  clear hown
  go_wp2_with fail
  refine (KnownValid_any o l m pa pc ps base last _ (by (try unfold RdP); repeat (first | (with_reducible exact HR2.out) | (with_reducible apply rd_seq) | (with_reducible apply Rd.plus) | (with_reducible apply Rd.alloc) | (with_reducible apply Rd.drew) | (with_reducible apply Rd.drewN)))).mono ?_
  rintro e w' ⟨rfl, y3, rfl⟩
  rw [HK.out]
  go_wp2_with fail
  refine (DataFits_any o l m s _ hm).mono ?_
  rintro e w' ⟨rfl, y6, rfl⟩
  rw [HDF.out]
  go_wp2_with fail
  refine (soInts_yes ia ja ic jc G _ (by (try unfold RdP); repeat (first | (with_reducible exact HG1.out) | (with_reducible apply rd_seq) | (with_reducible apply Rd.plus) | (with_reducible apply Rd.alloc) | (with_reducible apply Rd.drew) | (with_reducible apply Rd.drewN))) (by (try unfold RdP); repeat (first | (with_reducible exact HG2.out) | (with_reducible apply rd_seq) | (with_reducible apply Rd.plus) | (with_reducible apply Rd.alloc) | (with_reducible apply Rd.drew) | (with_reducible apply Rd.drewN)))).mono ?_
  rintro e w' ⟨rfl, y4, rfl⟩
  go_wp2_with fail
  refine (HCD.out _ ia ic (by (try unfold RdP); repeat (first | (with_reducible exact HR2.out) | (with_reducible apply rd_seq) | (with_reducible apply Rd.plus) | (with_reducible apply Rd.alloc) | (with_reducible apply Rd.drew) | (with_reducible apply Rd.drewN))) (by (try unfold RdP); repeat (first | (with_reducible exact HG1.out) | (with_reducible apply rd_seq) | (with_reducible apply Rd.plus) | (with_reducible apply Rd.alloc) | (with_reducible apply Rd.drew) | (with_reducible apply Rd.drewN)))).mono ?_
  rintro e w' ⟨rfl, y7, rfl⟩
  have hgm : G.length = M.length + 2 := by rw [HM.out]; simp
  have e9 : ((G.length : Int) - 1).toNat = M.length + 1 := by omega
  have hg2 : (2 : Int) ≤ (G.length : Int) := by omega
  rcases (rdI_open HG1.out) with ⟨z1, z2, z3 | ⟨bb, off, hia, hbb, hcc⟩⟩
  · omega
  have c0 := hcc 0 (two l) (by rw [HM.out]; rfl)
  have cL := hcc (M.length + 1) (two l + 1) (by rw [HM.out]; simp)
  subst hia
  clear hcc hgm
  have c00 := c0
  simp only [Nat.add_zero] at c00
  go_wp2_with fail
  (refine wp_region_calm (by kernel_rfl) (by kernel_rfl) ?_
   repeat (first | go_big_quiet_skip | (go_big_quiet_want; go_big_quiet_op; first | go_big_quiet_on | (apply Exists.intro; refine ⟨fun _ => ?_, ?_⟩; (focus ((first | (go_at_call 38; first | refine calm_of (ClearCode_yes _ _ _ hs _) | refine calm_seq (ClearCode_yes _ _ _ hs _)) | (go_at_call 44; first | refine calm_of (EndCode_yes _ _ _ hs _) | refine calm_seq (EndCode_yes _ _ _ hs _))))); go_big_quiet_on)))
   refine wpQuiet_nil ?_
   intro _ hw'
   obtain ⟨xq, hw''⟩ := hw'
   subst hw'')
  go_wp2
  go_ret
  exact ⟨rfl, (by repeat (first | (with_reducible exact HBW.out) | refine below_plus ?_ (by first | omega | (simp <;> omega)) _ | refine Below.alloc ?_ (by first | omega | (simp <;> omega)) _ | refine below_patch ?_ (by omega) _ | refine Below.drew ?_))⟩

end Go.Proofs.Ytlihhlihcjncoaa
