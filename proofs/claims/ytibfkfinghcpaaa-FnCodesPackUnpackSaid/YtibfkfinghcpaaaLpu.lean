/- The law CodesPackUnpack: the walk. -/
import Derived.Test.YtibfkfinghcpaaaDrp
import Derived.Test.YtibfkfinghcpaaaGp
import Derived.Test.YtibfkfinghcpaaaPks
import Derived.Test.YtibfkfinghcpaaaGs
namespace Go.Proofs.Ytibfkfinghcpaaa
open Go.RowKit
set_option linter.unusedVariables false
set_option linter.unusedSimpArgs false

/-- what packing gives, in the program and in the reference -/
theorem pack_ex (o l m : Int) (ps : List Pr) (base last : Int) (is : List Int) (hz : is.length ≤ 9223372036854775807) : ∃ (r1 : ByteArray) (r2 : Bool),
    (∀ (W : World) (a : Option Addr) (cap : Nat) (ia : Option Addr) (icap : Nat), RdP W a cap ps → Rd encI W ia icap is → Calls Try.prog 20 #[.agg #[.int .i64 o, .int .i64 l, .int .i64 m, .slice a ps.length cap, .int .i64 base, .int .i64 last], .slice ia is.length icap] W (Ret W (.tuple #[.string r1, .bool r2]))) ∧
    (∀ (W : World) (a : Option Addr) (cap : Nat) (ia : Option Addr) (icap : Nat), RdP W a cap ps → Rd encI W ia icap is → Calls Try.prog 19 #[.agg #[.int .i64 o, .int .i64 l, .int .i64 m, .slice a ps.length cap, .int .i64 base, .int .i64 last], .slice ia is.length icap] W (Ret W (.tuple #[.string r1, .bool r2]))) ∧
    (r2 = false ∨ ∃ (b : Nat) (V : List Int) (D : List UInt8), r2 = true ∧ base = b ∧ kvb o l m ps (b : Int) last = true ∧ is.length ≤ 3100 ∧ wlk l m b is ps last [] [] = some (V, D) ∧ bstr (pckL o (cbits o is V)) = r1) := by
  by_cases h : kvb o l m ps base last = false ∨ 3100 < is.length
  · exact ⟨⟨#[]⟩, false, (fun W a cap ia icap hr hri => specPackCodes_of_no o l m a cap ps base last ia icap is W hr hri fun W a cap ia icap hr hri => l2All_no o l m a cap ps base last ia icap is W hr hz h),
      (fun W a cap ia icap hr hri => PackCodes_of_none o l m a cap ps base last ia icap is W hr hri fun W a cap ia icap hr hri => walkCodes_no o l m a cap ps base last ia icap is W hr hz h), .inl rfl⟩
  · have hk : kvb o l m ps base last = true := by
      cases hk : kvb o l m ps base last
      · exact absurd (.inl hk) h
      · rfl
    have hil : is.length ≤ 3100 := by omega
    have hb0 := (kvb_iff.1 hk).b0
    obtain ⟨b, rfl⟩ : ∃ b : Nat, base = b := ⟨base.toNat, by omega⟩
    cases hR : wlk l m b is ps last [] [] with
    | none =>
      exact ⟨⟨#[]⟩, false, (fun W a cap ia icap hr hri => specPackCodes_of_no o l m a cap ps b last ia icap is W hr hri fun W a cap ia icap hr hri => l2All_of o l m a cap ps b last ia icap is W hr hri hk hil none hR),
        (fun W a cap ia icap hr hri => PackCodes_of_none o l m a cap ps b last ia icap is W hr hri fun W a cap ia icap hr hri => walkCodes_yes o l m a cap ps b last ia icap is W hr hri hk hil b rfl none hR), .inl rfl⟩
    | some q =>
      obtain ⟨V, D⟩ := q
      exact ⟨_, true, (fun W a cap ia icap hr hri => specPackCodes_yes o l m a cap ps b last ia icap is W hr hri hk hil V D hR),
        (fun W a cap ia icap hr hri => PackCodes_yes o l m a cap ps b last ia icap is W hr hri hk hil b rfl V D hR), .inr ⟨b, V, D, rfl, rfl, hk, hil, hR, rfl⟩⟩

theorem last_at {cs : List Int} {x : Int} (h : cs.getLast? = some x) : ∃ j, cs.length = j + 1 ∧ cs[j]? = some x := by
  rw [List.getLast?_eq_getElem?] at h
  have h1 := (List.getElem?_eq_some_iff.1 h).1
  exact ⟨cs.length - 1, by omega, h⟩

set_option maxRecDepth 100000 in
set_option maxHeartbeats 6000000 in
theorem lawCodesPackUnpack_any (a : Option Addr) (cap : Nat) (bs : List UInt8) (w : World) (hr : Rd encB w a cap bs) :
    Calls Try.prog 4 #[.slice a bs.length cap] w (fun e w' => e = .returned (.bool true) ∧ Below w.heap.size w w') := by
  have g1 := hr.1
  have g2 := hr.2.1
  by_cases h1 : bs.length ≤ 1048576
  case neg =>
    go_enter Try.func4, Try.ntmps4
    go_wp2
    go_ret
    exact ⟨rfl, (by repeat (first | exact Below.refl _ _ | refine below_plus ?_ (by first | omega | (simp <;> omega)) _ | refine Below.alloc ?_ (by first | omega | (simp <;> omega)) _ | refine below_patch ?_ (by omega) _ | refine Below.drew ?_))⟩
  go_enter Try.func4, Try.ntmps4
  go_wp2_with fail
  refine (DrawPackCodes_any a cap bs _ (by repeat (first | exact hr | apply rd_seq | apply Rd.plus | apply Rd.alloc | apply Rd.drew | apply Rd.drewN | refine rd_patch ?_ _ _ (by intro A hA; first | (cases hA; show _ ≠ _; omega) | (have := hal A hA; omega))))).mono ?_
  rintro e w' ⟨o, l, m, pa, pc, ps, base, last, A, c, kk, cs, rfl, hkk, hl3, hk5, hrd, hrc, _, _, x1, rfl⟩
  have HR := Lib.hid (show Rd encP _ pa pc ps from hrd)
  have HC := Lib.hid hrc
  clear hrd hrc
  obtain ⟨r1, r2, HS, HI, hcase⟩ := pack_ex o l m ps base last cs (by omega)
  rw [hkk] at HS HI
  have HS := Lib.hid HS
  have HI := Lib.hid HI
  have e1 : (r1.toList != r1.toList) = false := by simp
  have e2 : (r2 != r2) = false := by simp
  have e3 : (r1.toList == r1.toList) = true := by simp
  have e4 : (r2 == r2) = true := by simp
  rcases hcase with rfl | ⟨b, V, D, rfl, rfl, hk, hil, hW, hS⟩
  · clear hkk
    go_wp2_with fail
    refine (HI.out _ pa pc A c (by (try unfold RdP); repeat (first | (with_reducible exact HR.out) | (with_reducible apply rd_seq) | (with_reducible apply Rd.plus) | (with_reducible apply Rd.alloc) | (with_reducible apply Rd.drew) | (with_reducible apply Rd.drewN))) (by (try unfold RdP); repeat (first | (with_reducible exact HC.out) | (with_reducible apply rd_seq) | (with_reducible apply Rd.plus) | (with_reducible apply Rd.alloc) | (with_reducible apply Rd.drew) | (with_reducible apply Rd.drewN)))).mono ?_
    rintro e w' ⟨rfl, y1, rfl⟩
    go_wp2_with fail
    refine (HS.out _ pa pc A c (by (try unfold RdP); repeat (first | (with_reducible exact HR.out) | (with_reducible apply rd_seq) | (with_reducible apply Rd.plus) | (with_reducible apply Rd.alloc) | (with_reducible apply Rd.drew) | (with_reducible apply Rd.drewN))) (by (try unfold RdP); repeat (first | (with_reducible exact HC.out) | (with_reducible apply rd_seq) | (with_reducible apply Rd.plus) | (with_reducible apply Rd.alloc) | (with_reducible apply Rd.drew) | (with_reducible apply Rd.drewN)))).mono ?_
    rintro e w' ⟨rfl, y2, rfl⟩
    go_wp2_with fail
    refine wp_nm2 (fun Y => Y.heap[w.heap.size + x1.n]? = some (.cells #[.int .i64 o, .int .i64 l, .int .i64 m, .slice pa ps.length pc, .int .i64 base, .int .i64 last] 27 (0, 0)) ∧ Rd encP Y pa pc ps ∧ Rd encI Y A c cs ∧ Below w.heap.size w Y) ⟨?_, (by (try unfold RdP); repeat (first | (with_reducible exact HR.out) | (with_reducible apply rd_seq) | (with_reducible apply Rd.plus) | (with_reducible apply Rd.alloc) | (with_reducible apply Rd.drew) | (with_reducible apply Rd.drewN))), (by (try unfold RdP); repeat (first | (with_reducible exact HC.out) | (with_reducible apply rd_seq) | (with_reducible apply Rd.plus) | (with_reducible apply Rd.alloc) | (with_reducible apply Rd.drew) | (with_reducible apply Rd.drewN))), (by repeat (first | exact Below.refl _ _ | refine below_plus ?_ (by first | omega | (simp <;> omega)) _ | refine Below.alloc ?_ (by first | omega | (simp <;> omega)) _ | refine below_patch ?_ (by omega) _ | refine Below.drew ?_))⟩ ?_
    · (repeat (first | exact push_new _ _ _ (by simp <;> omega) | apply blk_plus | apply blk_alloc | apply blk_drew))
    generalize w.heap.size + x1.n = bk
    clear HR HC HI HS
    rintro Y ⟨hbk, hRY, hCY, hBY⟩
    have zk := (Array.getElem?_eq_some_iff.1 hbk).1
    have ck := cell_of hbk
    have HR := Lib.hid hRY
    have HC := Lib.hid hCY
    have HB := Lib.hid hBY
    have zw := hBY.size
    clear hbk hRY hCY hBY
    (refine wp_region_calm (by kernel_rfl) (by kernel_rfl) ?_
     repeat (first | go_big_quiet_skip | (go_big_quiet_want; go_big_quiet_op; first | go_big_quiet_on | (apply Exists.intro; refine ⟨fun _ => ?_, ?_⟩; (focus (fail)); go_big_quiet_on)))
     refine wpQuiet_nil ?_
     intro _ hw'
     obtain ⟨xq, hw''⟩ := hw'
     subst hw'')
    go_wp2_with fail
    go_ret
    exact ⟨rfl, (by repeat (first | (with_reducible exact HB.out) | refine below_plus ?_ (by first | omega | (simp <;> omega)) _ | refine Below.alloc ?_ (by first | omega | (simp <;> omega)) _ | refine below_patch ?_ (by omega) _ | refine Below.drew ?_))⟩
  have hs := (kvb_iff.1 hk).s
  rcases hlast : cs.getLast? with _ | x
  · have e5 : ((kk : Int) == 0) = true := by
      have : cs = [] := List.getLast?_eq_none_iff.1 hlast
      subst this
      simp at hkk ⊢
      omega
    clear hkk hW hS hk
    generalize hbase : (b : Int) = base at *
    clear hbase
    go_wp2_with fail
    refine (HI.out _ pa pc A c (by (try unfold RdP); repeat (first | (with_reducible exact HR.out) | (with_reducible apply rd_seq) | (with_reducible apply Rd.plus) | (with_reducible apply Rd.alloc) | (with_reducible apply Rd.drew) | (with_reducible apply Rd.drewN))) (by (try unfold RdP); repeat (first | (with_reducible exact HC.out) | (with_reducible apply rd_seq) | (with_reducible apply Rd.plus) | (with_reducible apply Rd.alloc) | (with_reducible apply Rd.drew) | (with_reducible apply Rd.drewN)))).mono ?_
    rintro e w' ⟨rfl, y1, rfl⟩
    go_wp2_with fail
    refine (HS.out _ pa pc A c (by (try unfold RdP); repeat (first | (with_reducible exact HR.out) | (with_reducible apply rd_seq) | (with_reducible apply Rd.plus) | (with_reducible apply Rd.alloc) | (with_reducible apply Rd.drew) | (with_reducible apply Rd.drewN))) (by (try unfold RdP); repeat (first | (with_reducible exact HC.out) | (with_reducible apply rd_seq) | (with_reducible apply Rd.plus) | (with_reducible apply Rd.alloc) | (with_reducible apply Rd.drew) | (with_reducible apply Rd.drewN)))).mono ?_
    rintro e w' ⟨rfl, y2, rfl⟩
    go_wp2_with fail
    refine wp_nm2 (fun Y => Y.heap[w.heap.size + x1.n]? = some (.cells #[.int .i64 o, .int .i64 l, .int .i64 m, .slice pa ps.length pc, .int .i64 base, .int .i64 last] 27 (0, 0)) ∧ Rd encP Y pa pc ps ∧ Rd encI Y A c cs ∧ Below w.heap.size w Y) ⟨?_, (by (try unfold RdP); repeat (first | (with_reducible exact HR.out) | (with_reducible apply rd_seq) | (with_reducible apply Rd.plus) | (with_reducible apply Rd.alloc) | (with_reducible apply Rd.drew) | (with_reducible apply Rd.drewN))), (by (try unfold RdP); repeat (first | (with_reducible exact HC.out) | (with_reducible apply rd_seq) | (with_reducible apply Rd.plus) | (with_reducible apply Rd.alloc) | (with_reducible apply Rd.drew) | (with_reducible apply Rd.drewN))), (by repeat (first | exact Below.refl _ _ | refine below_plus ?_ (by first | omega | (simp <;> omega)) _ | refine Below.alloc ?_ (by first | omega | (simp <;> omega)) _ | refine below_patch ?_ (by omega) _ | refine Below.drew ?_))⟩ ?_
    · (repeat (first | exact push_new _ _ _ (by simp <;> omega) | apply blk_plus | apply blk_alloc | apply blk_drew))
    generalize w.heap.size + x1.n = bk
    clear HR HC HI HS
    rintro Y ⟨hbk, hRY, hCY, hBY⟩
    have zk := (Array.getElem?_eq_some_iff.1 hbk).1
    have ck := cell_of hbk
    have HR := Lib.hid hRY
    have HC := Lib.hid hCY
    have HB := Lib.hid hBY
    have zw := hBY.size
    clear hbk hRY hCY hBY
    (refine wp_region_calm (by kernel_rfl) (by kernel_rfl) ?_
     repeat (first | go_big_quiet_skip | (go_big_quiet_want; go_big_quiet_op; first | go_big_quiet_on | (apply Exists.intro; refine ⟨fun _ => ?_, ?_⟩; (focus (fail)); go_big_quiet_on)))
     refine wpQuiet_nil ?_
     intro _ hw'
     obtain ⟨xq, hw''⟩ := hw'
     subst hw'')
    go_wp2_with fail
    go_ret
    exact ⟨rfl, (by repeat (first | (with_reducible exact HB.out) | refine below_plus ?_ (by first | omega | (simp <;> omega)) _ | refine Below.alloc ?_ (by first | omega | (simp <;> omega)) _ | refine below_patch ?_ (by omega) _ | refine Below.drew ?_))⟩
  obtain ⟨j, hj, hx⟩ := last_at hlast
  have e5 : ((kk : Int) == 0) = false := by simp; omega
  have e6 : IntKind.i64.wrap ((kk : Int) - 1) = (j : Int) := by rw [IntWalk.i64_in _ (by omega)]; omega
  have hjk : j < kk := by omega
  by_cases hxe : x = two l + 1
  · subst hxe
    have e7 : (two l + 1 != two l + 1) = false := by simp
    obtain ⟨p1, p2, p3, p4, p5⟩ := unR_pack hk hW hlast hil hS
    have HU := Lib.hid (fun (W : World) (h : RdP W pa pc ps) => implUnpackCodes_yes o l m pa pc ps b last r1 W h hk p1 _ rfl)
    rw [p2, p4, p5] at HU
    rw [hkk] at hj hil
    clear hW hS hk p2 p3 p4 p5 hlast
    have HX := Lib.hid hx
    clear hx hj
    generalize hbase : (b : Int) = base at *
    clear hbase
    have HKK := Lib.hid hkk
    clear hkk
    go_wp2_with fail
    refine (HI.out _ pa pc A c (by (try unfold RdP); repeat (first | (with_reducible exact HR.out) | (with_reducible apply rd_seq) | (with_reducible apply Rd.plus) | (with_reducible apply Rd.alloc) | (with_reducible apply Rd.drew) | (with_reducible apply Rd.drewN))) (by (try unfold RdP); repeat (first | (with_reducible exact HC.out) | (with_reducible apply rd_seq) | (with_reducible apply Rd.plus) | (with_reducible apply Rd.alloc) | (with_reducible apply Rd.drew) | (with_reducible apply Rd.drewN)))).mono ?_
    rintro e w' ⟨rfl, y1, rfl⟩
    go_wp2_with fail
    refine (HS.out _ pa pc A c (by (try unfold RdP); repeat (first | (with_reducible exact HR.out) | (with_reducible apply rd_seq) | (with_reducible apply Rd.plus) | (with_reducible apply Rd.alloc) | (with_reducible apply Rd.drew) | (with_reducible apply Rd.drewN))) (by (try unfold RdP); repeat (first | (with_reducible exact HC.out) | (with_reducible apply rd_seq) | (with_reducible apply Rd.plus) | (with_reducible apply Rd.alloc) | (with_reducible apply Rd.drew) | (with_reducible apply Rd.drewN)))).mono ?_
    rintro e w' ⟨rfl, y2, rfl⟩
    go_wp2_with fail
    refine wp_nm2 (fun Y => Y.heap[w.heap.size + x1.n]? = some (.cells #[.int .i64 o, .int .i64 l, .int .i64 m, .slice pa ps.length pc, .int .i64 base, .int .i64 last] 27 (0, 0)) ∧ Rd encP Y pa pc ps ∧ Rd encI Y A c cs ∧ Below w.heap.size w Y) ⟨?_, (by (try unfold RdP); repeat (first | (with_reducible exact HR.out) | (with_reducible apply rd_seq) | (with_reducible apply Rd.plus) | (with_reducible apply Rd.alloc) | (with_reducible apply Rd.drew) | (with_reducible apply Rd.drewN))), (by (try unfold RdP); repeat (first | (with_reducible exact HC.out) | (with_reducible apply rd_seq) | (with_reducible apply Rd.plus) | (with_reducible apply Rd.alloc) | (with_reducible apply Rd.drew) | (with_reducible apply Rd.drewN))), (by repeat (first | exact Below.refl _ _ | refine below_plus ?_ (by first | omega | (simp <;> omega)) _ | refine Below.alloc ?_ (by first | omega | (simp <;> omega)) _ | refine below_patch ?_ (by omega) _ | refine Below.drew ?_))⟩ ?_
    · (repeat (first | exact push_new _ _ _ (by simp <;> omega) | apply blk_plus | apply blk_alloc | apply blk_drew))
    generalize w.heap.size + x1.n = bk
    clear HR HC HI HS
    rintro Y ⟨hbk, hRY, hCY, hBY⟩
    have zk := (Array.getElem?_eq_some_iff.1 hbk).1
    have ck := cell_of hbk
    have HR := Lib.hid hRY
    have HC := Lib.hid hCY
    have HB := Lib.hid hBY
    have zw := hBY.size
    clear hbk hRY hCY hBY
    rcases (rdI_open HC.out).2.2 with h9 | ⟨b1, off, rfl, hb, hc⟩
    · exact absurd hjk (by have := HC.out.1; have := HKK.out; omega)
    have c1 := hc j _ HX.out
    clear hc
    (refine wp_region_calm (by kernel_rfl) (by kernel_rfl) ?_
     repeat (first | go_big_quiet_skip | (go_big_quiet_want; go_big_quiet_op; first | go_big_quiet_on | (apply Exists.intro; refine ⟨fun _ => ?_, ?_⟩; (focus ((go_at_call 21; first | refine calm_of (EndCode_yes _ _ _ hs _) | refine calm_seq (EndCode_yes _ _ _ hs _)))); go_big_quiet_on)))
     refine wpQuiet_nil ?_
     intro _ hw'
     obtain ⟨xq, hw''⟩ := hw'
     subst hw'')
    go_wp2_with fail
    refine (HU.out _ (by (try unfold RdP); repeat (first | (with_reducible exact HR.out) | (with_reducible apply rd_seq) | (with_reducible apply Rd.plus) | (with_reducible apply Rd.alloc) | (with_reducible apply Rd.drew) | (with_reducible apply Rd.drewN)))).mono ?_
    rintro e w' ⟨ia, ic, rfl, hown, y3, rfl⟩
    (try simp only [plus_plus] at hown)
    have HG := Lib.hid (show Rd encI _ ia ic _ from hown.rd)
    clear hown
    go_wp2_with fail
    have HSI : ∀ (W : World), Rd encI W ia ic cs → Rd encI W (some ⟨b1, off, none⟩) c cs → Calls Try.prog 16 #[.slice ia cs.length ic, .slice (some ⟨b1, off, none⟩) kk c] W (Ret W (.bool true)) := by
      rw [← HKK.out]
      exact fun W h1 h2 => soInts_yes _ _ _ _ cs W h1 h2
    refine (HSI _ (by (try unfold RdP); repeat (first | (with_reducible exact HG.out) | (with_reducible apply rd_seq) | (with_reducible apply Rd.plus) | (with_reducible apply Rd.alloc) | (with_reducible apply Rd.drew) | (with_reducible apply Rd.drewN))) (by (try unfold RdP); repeat (first | (with_reducible exact HC.out) | (with_reducible apply rd_seq) | (with_reducible apply Rd.plus) | (with_reducible apply Rd.alloc) | (with_reducible apply Rd.drew) | (with_reducible apply Rd.drewN)))).mono ?_
    rintro e w' ⟨rfl, y4, rfl⟩
    go_wp2_with fail
    go_ret
    exact ⟨rfl, (by repeat (first | (with_reducible exact HB.out) | refine below_plus ?_ (by first | omega | (simp <;> omega)) _ | refine Below.alloc ?_ (by first | omega | (simp <;> omega)) _ | refine below_patch ?_ (by omega) _ | refine Below.drew ?_))⟩
  · have e7 : (x != two l + 1) = true := by simpa using hxe
    have HX := Lib.hid hx
    clear hx hj hxe hW hS hk hlast
    generalize hbase : (b : Int) = base at *
    clear hbase
    have HKK := Lib.hid hkk
    clear hkk
    go_wp2_with fail
    refine (HI.out _ pa pc A c (by (try unfold RdP); repeat (first | (with_reducible exact HR.out) | (with_reducible apply rd_seq) | (with_reducible apply Rd.plus) | (with_reducible apply Rd.alloc) | (with_reducible apply Rd.drew) | (with_reducible apply Rd.drewN))) (by (try unfold RdP); repeat (first | (with_reducible exact HC.out) | (with_reducible apply rd_seq) | (with_reducible apply Rd.plus) | (with_reducible apply Rd.alloc) | (with_reducible apply Rd.drew) | (with_reducible apply Rd.drewN)))).mono ?_
    rintro e w' ⟨rfl, y1, rfl⟩
    go_wp2_with fail
    refine (HS.out _ pa pc A c (by (try unfold RdP); repeat (first | (with_reducible exact HR.out) | (with_reducible apply rd_seq) | (with_reducible apply Rd.plus) | (with_reducible apply Rd.alloc) | (with_reducible apply Rd.drew) | (with_reducible apply Rd.drewN))) (by (try unfold RdP); repeat (first | (with_reducible exact HC.out) | (with_reducible apply rd_seq) | (with_reducible apply Rd.plus) | (with_reducible apply Rd.alloc) | (with_reducible apply Rd.drew) | (with_reducible apply Rd.drewN)))).mono ?_
    rintro e w' ⟨rfl, y2, rfl⟩
    go_wp2_with fail
    refine wp_nm2 (fun Y => Y.heap[w.heap.size + x1.n]? = some (.cells #[.int .i64 o, .int .i64 l, .int .i64 m, .slice pa ps.length pc, .int .i64 base, .int .i64 last] 27 (0, 0)) ∧ Rd encP Y pa pc ps ∧ Rd encI Y A c cs ∧ Below w.heap.size w Y) ⟨?_, (by (try unfold RdP); repeat (first | (with_reducible exact HR.out) | (with_reducible apply rd_seq) | (with_reducible apply Rd.plus) | (with_reducible apply Rd.alloc) | (with_reducible apply Rd.drew) | (with_reducible apply Rd.drewN))), (by (try unfold RdP); repeat (first | (with_reducible exact HC.out) | (with_reducible apply rd_seq) | (with_reducible apply Rd.plus) | (with_reducible apply Rd.alloc) | (with_reducible apply Rd.drew) | (with_reducible apply Rd.drewN))), (by repeat (first | exact Below.refl _ _ | refine below_plus ?_ (by first | omega | (simp <;> omega)) _ | refine Below.alloc ?_ (by first | omega | (simp <;> omega)) _ | refine below_patch ?_ (by omega) _ | refine Below.drew ?_))⟩ ?_
    · (repeat (first | exact push_new _ _ _ (by simp <;> omega) | apply blk_plus | apply blk_alloc | apply blk_drew))
    generalize w.heap.size + x1.n = bk
    clear HR HC HI HS
    rintro Y ⟨hbk, hRY, hCY, hBY⟩
    have zk := (Array.getElem?_eq_some_iff.1 hbk).1
    have ck := cell_of hbk
    have HR := Lib.hid hRY
    have HC := Lib.hid hCY
    have HB := Lib.hid hBY
    have zw := hBY.size
    clear hbk hRY hCY hBY
    rcases (rdI_open HC.out).2.2 with h9 | ⟨b1, off, rfl, hb, hc⟩
    · exact absurd hjk (by have := HC.out.1; have := HKK.out; omega)
    have c1 := hc j _ HX.out
    clear hc
    (refine wp_region_calm (by kernel_rfl) (by kernel_rfl) ?_
     repeat (first | go_big_quiet_skip | (go_big_quiet_want; go_big_quiet_op; first | go_big_quiet_on | (apply Exists.intro; refine ⟨fun _ => ?_, ?_⟩; (focus ((go_at_call 21; first | refine calm_of (EndCode_yes _ _ _ hs _) | refine calm_seq (EndCode_yes _ _ _ hs _)))); go_big_quiet_on)))
     refine wpQuiet_nil ?_
     intro _ hw'
     obtain ⟨xq, hw''⟩ := hw'
     subst hw'')
    go_wp2_with fail
    go_ret
    exact ⟨rfl, (by repeat (first | (with_reducible exact HB.out) | refine below_plus ?_ (by first | omega | (simp <;> omega)) _ | refine Below.alloc ?_ (by first | omega | (simp <;> omega)) _ | refine below_patch ?_ (by omega) _ | refine Below.drew ?_))⟩

end Go.Proofs.Ytibfkfinghcpaaa
