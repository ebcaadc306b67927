/- The reference's ReadAll. -/
import Derived.Test.YtibfkfinghcpaaaRap
namespace Go.Proofs.Ytibfkfinghcpaaa
open Go.RowKit
set_option linter.unusedVariables false
set_option linter.unusedSimpArgs false

theorem rdv_bits {o l m : Int} {b : Nat} {x : Rdr} (h : Rdv o l m b x) : x.sb.size ≤ 11 := by
  obtain ⟨hkv, hrv⟩ := rdb_parts h
  have := (wd_pos hkv).2
  rcases hrv.e with h1 | h1
  · have := h1.2.1; omega
  · omega

/-- what ReadAll gives -/
def raV (T : Option (Rdr × ByteArray × Int)) : Value := .tuple #[.string (raD T), .int .i64 (raE T), .int .i64 (raN T)]

theorem rdS_cell {w : World} {b off cap : Nat} {us : List ByteArray} (h : Rd encS w (some ⟨b, off, none⟩) cap us) {k : Nat} {u : ByteArray} (hu : us[k]? = some u) : w.cell? ⟨b, off + k, none⟩ = some (.string u) := by
  have hk := (List.getElem?_eq_some_iff.1 hu).1
  obtain ⟨h1, h2, h3⟩ := RdS.open h
  rcases h3 with h3 | ⟨b', off', h3, hb, hc⟩
  · omega
  · cases h3
    exact hc k u hu

theorem rdS_some {w : World} {sa : Option Addr} {cap : Nat} {us : List ByteArray} (h : Rd encS w sa cap us) (h0 : 0 < us.length) : ∃ b off, sa = some ⟨b, off, none⟩ := by
  obtain ⟨h1, h2, h3⟩ := RdS.open h
  rcases h3 with h3 | ⟨b', off', h3, hb, hc⟩
  · omega
  · exact ⟨b', off', h3⟩

theorem wp_nmQ {P : Program} {c : Code} {Q : Exit → Act → World → Prop} {a : Act} {W : World} (F : World → Prop) (hF : F W) (h : ∀ X, F X → c.wp P Q a X) : c.wp P Q a W := h W hF

set_option maxRecDepth 100000 in
set_option maxHeartbeats 2000000 in
theorem specReadAll_no (o l m : Int) (a : Option Addr) (cap : Nat) (ps : List Pr) (base last : Int) (sa : Option Addr) (scap : Nat) (us : List ByteArray) (w : World) (hr : RdP w a cap ps) (hsc : us.length ≤ 2000000) (hk : kvb o l m ps base last = false) :
    Calls Try.prog 43 #[.agg #[.int .i64 o, .int .i64 l, .int .i64 m, .slice a ps.length cap, .int .i64 base, .int .i64 last], .slice sa us.length scap] w (Ret w (raV none)) := by
  have HR := Lib.hid (show Rd encP w a cap ps from hr)
  clear hr
  go_enter Try.func43, Try.ntmps43
  go_wp2_with fail
  refine (specNewReader_no o l m a cap ps base last _ (by (try unfold RdP); repeat (first | (with_reducible exact HR.out) | (with_reducible apply rd_seq) | (with_reducible apply Rd.plus) | (with_reducible apply Rd.alloc) | (with_reducible apply Rd.drew) | (with_reducible apply Rd.drewN))) hk).mono ?_
  rintro e w' ⟨rfl, x1, rfl⟩
  go_wp2_with fail
  go_loopw [8, 9, 10, 11] (fun p q t i wr => p = .bool false ∧ q = .string ⟨#[]⟩ ∧ t = .int .i64 0 ∧ i = .int .i64 0 ∧ More w wr) (fun _ _ _ _ _ => 0)
  case atStart => exact ⟨rfl, rfl, rfl, rfl, (by repeat (first | exact More.refl _ | apply More.plus | apply More.alloc | apply More.drew | apply More.drewN))⟩
  case round =>
    obtain ⟨rfl, rfl, rfl, rfl, y, rfl⟩ := hrel
    go_wp2_with fail
    all_goals exact bodyPost_ret (v := .tuple #[.string ⟨#[]⟩, .int .i64 4, .int .i64 0]) (by simp [results, Try.results43, go_sem, ↓IntWalk.iteOmega]) rfl ⟨rfl, (by repeat (first | exact More.refl _ | apply More.plus | apply More.alloc | apply More.drew | apply More.drewN))⟩

set_option maxRecDepth 100000 in
set_option maxHeartbeats 4000000 in
theorem specReadAll_yes (o l m : Int) (a : Option Addr) (cap : Nat) (ps : List Pr) (b : Nat) (last : Int) (sa : Option Addr) (scap : Nat) (us : List ByteArray) (w : World) (hr : RdP w a cap ps) (hs : Rd encS w sa scap us) (hz : us.length + sumZ us ≤ 1048576) (hk : kvb o l m ps b last = true) (T : Option (Rdr × ByteArray × Int)) (hT : raL o l m b us (rd0 ps last) ⟨#[]⟩ 0 = T) :
    Calls Try.prog 43 #[.agg #[.int .i64 o, .int .i64 l, .int .i64 m, .slice a ps.length cap, .int .i64 b, .int .i64 last], .slice sa us.length scap] w (Ret w (raV T)) := by
  have HR := Lib.hid (show Rd encP w a cap ps from hr)
  have HS := Lib.hid hs
  have HLT := Lib.hid (fun Y hY hc => rd_lt hs Y hY hc)
  have hcap := hs.1
  have H0 := Lib.hid (RaI.zero (us := us) hk hT)
  clear hr hs hT
  go_enter Try.func43, Try.ntmps43
  go_wp2_with fail
  refine (specNewReader_yes o l m a cap ps b last _ (by (try unfold RdP); repeat (first | (with_reducible exact HR.out) | (with_reducible apply rd_seq) | (with_reducible apply Rd.plus) | (with_reducible apply Rd.alloc) | (with_reducible apply Rd.drew) | (with_reducible apply Rd.drewN))) hk).mono ?_
  rintro e w' ⟨a1, c1, rfl, hown, x1, rfl⟩
  have HQ := Lib.hid (show Rd encP _ a1 c1 ps from hown.rd)
  clear hown
  go_wp2_with fail
  refine wp_nmQ (fun X => KQ w X (w.heap.size + 1 + x1.n) (.cells #[.int .i64 o, .int .i64 l, .int .i64 m, .slice a1 ps.length c1, .int .i64 b, .int .i64 last, .string ⟨#[]⟩, .int .i64 0, .int .i64 0, .int .i64 1] 50 (0, 0)) sa scap us a1 c1 ps) ⟨(by repeat (first | (with_reducible exact push_new _ _ _ rfl) | (with_reducible exact push_new _ _ _ (by simp)) | (with_reducible apply blk_plus) | (with_reducible apply blk_alloc) | (with_reducible apply blk_drew) | (with_reducible refine blk_patch ?_ (by omega)))), (by repeat (first | (with_reducible exact HS.out) | apply Rd.plus | apply Rd.alloc | apply Rd.drew)), (by (try unfold RdP); repeat (first | (with_reducible exact HQ.out) | (with_reducible apply rd_seq) | (with_reducible apply Rd.plus) | (with_reducible apply Rd.alloc) | (with_reducible apply Rd.drew) | (with_reducible apply Rd.drewN))), (fun Y hY hc => by have := HLT.out Y hY hc; omega), (by repeat (first | exact Below.refl _ _ | refine below_plus ?_ (by first | omega | (simp <;> omega)) _ | refine Below.alloc ?_ (by first | omega | (simp <;> omega)) _ | refine below_patch ?_ (by omega) _ | refine Below.drew ?_)), by omega⟩ ?_
  generalize w.heap.size + 1 + x1.n = D
  intro X hX
  have HX := Lib.hid hX
  clear hX HQ HR HS HLT
  go_loopw [8, 9, 10, 11] (fun p q t i wr => (∃ (k : Nat) (x : Rdr) (d : ByteArray) (n : Int) (A : Option Addr) (cc : Nat), RaI o l m b us T k x d n ∧ p = .bool true ∧ q = .string d ∧ t = .int .i64 n ∧ i = .int .i64 k ∧ KQ w wr D (.cells #[.int .i64 o, .int .i64 l, .int .i64 m, .slice A x.ps.length cc, .int .i64 b, .int .i64 x.last, .string x.sb, .int .i64 x.z, .int .i64 x.c, .int .i64 x.e] 50 (0, 0)) sa scap us A cc x.ps) ∨ (∃ (k : Nat), T = none ∧ p = .bool false ∧ i = .int .i64 k ∧ k ≤ us.length ∧ More w wr)) (fun _ _ _ i _ => us.length - (intOf i).toNat)
  case atStart => exact .inl ⟨0, rd0 ps last, ⟨#[]⟩, 0, a1, c1, H0.out, rfl, rfl, rfl, rfl, HX.out⟩
  case round =>
    clear H0 HX
    rcases hrel with ⟨k, x, d, n, A, cc, hI, rfl, rfl, rfl, rfl, hKQ⟩ | ⟨k, hT, rfl, rfl, hk9, y, rfl⟩
    · have hkl := hI.le
      rcases dec (k < us.length) with ⟨hlt, blt⟩ | ⟨hlt, blt⟩
      · obtain ⟨u, hu⟩ : ∃ p, us[k]? = some p := ⟨us[k], List.getElem?_eq_getElem hlt⟩
        obtain ⟨sb0, so0, rfl⟩ := rdS_some hKQ.rs (by omega)
        have huz := sumZ_step us k u hu
        have hum := sumZ_mono us (k + 1)
        have hn0 := hI.n0
        have hn1 := hI.n1
        have hdz := hI.dsz
        have HK := Lib.hid hKQ
        have rB := cell_of HK.out.blk
        have zB := HK.out.lt
        have lB := HK.out.low
        have hk0 : (0 : Int) ≤ (k : Int) := by omega
        have hk3 : (k : Int) < (us.length : Int) := by omega
        by_cases h4 : u.size ≤ 4000
        · have HI2 := Lib.hid (hI.step hu h4)
          have F2 := rfx (u := u) hI.ok h4
          have hm0 := F2.used0
          have hm1 := F2.used1
          have hre := F2.reads
          have hd2 := (hI.step hu h4).dsz
          rw [ByteArray.size_append] at hd2
          obtain ⟨Z, hZ⟩ : ∃ Z, rsX o l m b x u = Z := ⟨_, rfl⟩
          obtain ⟨d2, hd2e⟩ : ∃ Z, rsD o l m b x u = Z := ⟨_, rfl⟩
          obtain ⟨n2, hn2e⟩ : ∃ Z, rsU o l m b x u = Z := ⟨_, rfl⟩
          rw [hZ, hd2e, hn2e] at hre HI2
          rw [hd2e] at hd2
          rw [hn2e] at hm0 hm1
          clear F2 hZ hd2e hn2e hI hKQ
          obtain ⟨ts, la1, sb1, z2, c2, e3⟩ := x
          obtain ⟨vs, la2, sb2, z3, c3, e4⟩ := Z
          have HJ := Lib.hid hre.1
          clear hre
          go_wp2_with fail
          refine wp_region_pt 15 (fun w' => Rd encS w' (some ⟨sb0, so0, none⟩) scap us) (Plan.quiet 1 (Plan.quiet 2 (Plan.quiet 3 (Plan.quiet 4 (Plan.one 0 (Plan.one 5 (Plan.quiet 6 (Plan.quiet 7 (Plan.quiet 8 (Plan.quiet 9 (Plan.quiet 10 (Plan.one 11 (Plan.quiet 12 (Plan.quiet 13 (Plan.quiet 14 Plan.done))))))))))))))) (by kernel_rfl) (by kernel_rfl) (Rd.drew HK.out.rs) ?_
          refine wpPt_val rfl rfl ?_
          apply Exists.intro
          refine ⟨fun w' hS => ?_, ?_⟩
          focus (have cS := rdS_cell hS hu; simp [go_sem, ↓IntWalk.iteOmega, cS, hk0, hk3] <;> first | done | exact rfl | (rw [IntWalk.i64_in _ (by omega)]; exact rfl) | trace_state)
          refine wpPt_val rfl rfl ?_
          apply Exists.intro
          refine ⟨fun w' hS => ?_, ?_⟩
          focus (have cS := rdS_cell hS hu; simp [go_sem, ↓IntWalk.iteOmega, cS, hk0, hk3] <;> first | done | exact rfl | (rw [IntWalk.i64_in _ (by omega)]; exact rfl) | trace_state)
          refine wpPt_val rfl rfl ?_
          apply Exists.intro
          refine ⟨fun w' hS => ?_, ?_⟩
          focus (have cS := rdS_cell hS hu; simp [go_sem, ↓IntWalk.iteOmega, cS, hk0, hk3] <;> first | done | exact rfl | (rw [IntWalk.i64_in _ (by omega)]; exact rfl) | trace_state)
          refine wpPt_val rfl rfl ?_
          apply Exists.intro
          refine ⟨fun w' hS => ?_, ?_⟩
          focus (have cS := rdS_cell hS hu; simp [go_sem, ↓IntWalk.iteOmega, cS, hk0, hk3] <;> first | done | exact rfl | (rw [IntWalk.i64_in _ (by omega)]; exact rfl) | trace_state)
          refine wpPt_one rfl rfl (fun K hK => ?_)
          go_simp
          (try simp [go_sem, ↓IntWalk.iteOmega, rB])
          refine hK _ _ (fun hkn => (by repeat (first | (with_reducible exact HK.out.rs) | apply Rd.plus | apply Rd.drew | apply Rd.alloc))) ?_
          clear hK K
          refine wpPt_one rfl rfl (fun K hK => ?_)
          go_simp
          refine (HJ.out _ _ _ (by (try unfold RdP); repeat (first | (with_reducible exact HK.out.ra) | (with_reducible apply rd_seq) | (with_reducible apply Rd.plus) | (with_reducible apply Rd.alloc) | (with_reducible apply Rd.drew) | (with_reducible apply Rd.drewN)))).mono ?_
          rintro e w8 ⟨ta, tc, rfl, hown, x8, rfl⟩
          have f7 := free_of HK.out.blk
          have s7 := fun i v => setCell_patch HK.out.blk i v
          have H8 := Lib.hid (KQ.step (cur := #[.int .i64 o, .int .i64 l, .int .i64 m, .slice ta vs.length tc, .int .i64 b, .int .i64 la2, .string sb2, .int .i64 z3, .int .i64 c3, .int .i64 e4]) (t := 50) HK.out hown)
          clear hown
          refine hK _ _ (fun hkn => (by repeat (first | (with_reducible exact HK.out.rs) | apply Rd.plus | apply Rd.drew | apply Rd.alloc))) ?_
          clear hK K
          refine wpPt_val rfl rfl ?_
          apply Exists.intro
          refine ⟨fun w' hS => ?_, ?_⟩
          focus (have cS := rdS_cell hS hu; simp [go_sem, ↓IntWalk.iteOmega, cS, hk0, hk3] <;> first | done | exact rfl | (rw [IntWalk.i64_in _ (by omega)]; exact rfl) | trace_state)
          refine wpPt_val rfl rfl ?_
          apply Exists.intro
          refine ⟨fun w' hS => ?_, ?_⟩
          focus (have cS := rdS_cell hS hu; simp [go_sem, ↓IntWalk.iteOmega, cS, hk0, hk3] <;> first | done | exact rfl | (rw [IntWalk.i64_in _ (by omega)]; exact rfl) | trace_state)
          refine wpPt_val rfl rfl ?_
          apply Exists.intro
          refine ⟨fun w' hS => ?_, ?_⟩
          focus (have cS := rdS_cell hS hu; simp [go_sem, ↓IntWalk.iteOmega, cS, hk0, hk3] <;> first | done | exact rfl | (rw [IntWalk.i64_in _ (by omega)]; exact rfl) | trace_state)
          refine wpPt_val rfl rfl ?_
          apply Exists.intro
          refine ⟨fun w' hS => ?_, ?_⟩
          focus (have cS := rdS_cell hS hu; simp [go_sem, ↓IntWalk.iteOmega, cS, hk0, hk3] <;> first | done | exact rfl | (rw [IntWalk.i64_in _ (by omega)]; exact rfl) | trace_state)
          refine wpPt_val rfl rfl ?_
          apply Exists.intro
          refine ⟨fun w' hS => ?_, ?_⟩
          focus (have cS := rdS_cell hS hu; simp [go_sem, ↓IntWalk.iteOmega, cS, hk0, hk3] <;> first | done | exact rfl | (rw [IntWalk.i64_in _ (by omega)]; exact rfl) | trace_state)
          refine wpPt_one rfl rfl (fun K hK => ?_)
          go_simp
          refine hK _ _ (fun hkn => (by repeat (first | (with_reducible exact H8.out.rs) | apply Rd.plus | apply Rd.drew | apply Rd.alloc))) ?_
          clear hK K
          refine wpPt_val rfl rfl ?_
          apply Exists.intro
          refine ⟨fun w' hS => ?_, ?_⟩
          focus (have cS := rdS_cell hS hu; simp [go_sem, ↓IntWalk.iteOmega, cS, hk0, hk3] <;> first | done | exact rfl | (rw [IntWalk.i64_in _ (by omega)]; exact rfl) | trace_state)
          refine wpPt_val rfl rfl ?_
          apply Exists.intro
          refine ⟨fun w' hS => ?_, ?_⟩
          focus (have cS := rdS_cell hS hu; simp [go_sem, ↓IntWalk.iteOmega, cS, hk0, hk3] <;> first | done | exact rfl | (rw [IntWalk.i64_in _ (by omega)]; exact rfl) | trace_state)
          refine wpPt_val rfl rfl ?_
          apply Exists.intro
          refine ⟨fun w' hS => ?_, ?_⟩
          focus (have cS := rdS_cell hS hu; simp [go_sem, ↓IntWalk.iteOmega, cS, hk0, hk3] <;> first | done | exact rfl | (rw [IntWalk.i64_in _ (by omega)]; exact rfl) | trace_state)
          refine NoPanic.normal ?_
          go_wp2_with fail
          go_roundw
          case rel => exact .inl ⟨k + 1, _, _, _, ta, tc, HI2.out, rfl, rfl, rfl, by go_num, H8.out.more (by repeat (first | exact More.refl _ | apply More.plus | apply More.alloc | apply More.drew | apply More.drewN))⟩
          case measure => simp [intOf]; omega
        · have hTn := hI.fail hu (by omega)
          have hsb := rdv_bits hI.ok
          have hre := (reads_no (o := o) (l := l) (m := m) (ps := x.ps) (base := b) (last := x.last) (sb := x.sb) (z := x.z) (c := x.c) (e := x.e) (u := u) (by unfold maxLen; omega) (by unfold maxLen; omega) (.inr (by omega))).1
          clear hI hKQ
          obtain ⟨ts, la1, sb1, z2, c2, e3⟩ := x
          have HJ := Lib.hid hre
          clear hre
          go_wp2_with fail
          refine wp_region_pt 15 (fun w' => Rd encS w' (some ⟨sb0, so0, none⟩) scap us) (Plan.quiet 1 (Plan.quiet 2 (Plan.quiet 3 (Plan.quiet 4 (Plan.one 0 (Plan.one 5 (Plan.quiet 6 (Plan.quiet 7 (Plan.quiet 8 (Plan.quiet 9 (Plan.quiet 10 (Plan.one 11 (Plan.quiet 12 (Plan.quiet 13 (Plan.quiet 14 Plan.done))))))))))))))) (by kernel_rfl) (by kernel_rfl) (Rd.drew HK.out.rs) ?_
          refine wpPt_val rfl rfl ?_
          apply Exists.intro
          refine ⟨fun w' hS => ?_, ?_⟩
          focus (have cS := rdS_cell hS hu; simp [go_sem, ↓IntWalk.iteOmega, cS, hk0, hk3] <;> first | done | exact rfl | (rw [IntWalk.i64_in _ (by omega)]; exact rfl) | trace_state)
          refine wpPt_val rfl rfl ?_
          apply Exists.intro
          refine ⟨fun w' hS => ?_, ?_⟩
          focus (have cS := rdS_cell hS hu; simp [go_sem, ↓IntWalk.iteOmega, cS, hk0, hk3] <;> first | done | exact rfl | (rw [IntWalk.i64_in _ (by omega)]; exact rfl) | trace_state)
          refine wpPt_val rfl rfl ?_
          apply Exists.intro
          refine ⟨fun w' hS => ?_, ?_⟩
          focus (have cS := rdS_cell hS hu; simp [go_sem, ↓IntWalk.iteOmega, cS, hk0, hk3] <;> first | done | exact rfl | (rw [IntWalk.i64_in _ (by omega)]; exact rfl) | trace_state)
          refine wpPt_val rfl rfl ?_
          apply Exists.intro
          refine ⟨fun w' hS => ?_, ?_⟩
          focus (have cS := rdS_cell hS hu; simp [go_sem, ↓IntWalk.iteOmega, cS, hk0, hk3] <;> first | done | exact rfl | (rw [IntWalk.i64_in _ (by omega)]; exact rfl) | trace_state)
          refine wpPt_one rfl rfl (fun K hK => ?_)
          go_simp
          (try simp [go_sem, ↓IntWalk.iteOmega, rB])
          refine hK _ _ (fun hkn => (by repeat (first | (with_reducible exact HK.out.rs) | apply Rd.plus | apply Rd.drew | apply Rd.alloc))) ?_
          clear hK K
          refine wpPt_one rfl rfl (fun K hK => ?_)
          go_simp
          refine (HJ.out _ _ _ (by (try unfold RdP); repeat (first | (with_reducible exact HK.out.ra) | (with_reducible apply rd_seq) | (with_reducible apply Rd.plus) | (with_reducible apply Rd.alloc) | (with_reducible apply Rd.drew) | (with_reducible apply Rd.drewN)))).mono ?_
          rintro e w8 ⟨ta, tc, rfl, hown, x8, rfl⟩
          have f7 := free_of HK.out.blk
          have s7 := fun i v => setCell_patch HK.out.blk i v
          have H8 := Lib.hid (KQ.step (cur := #[.int .i64 0, .int .i64 0, .int .i64 0, .slice ta 0 tc, .int .i64 0, .int .i64 0, .string ⟨#[]⟩, .int .i64 0, .int .i64 0, .int .i64 0]) (t := 50) HK.out hown)
          clear hown
          refine hK _ _ (fun hkn => (by repeat (first | (with_reducible exact HK.out.rs) | apply Rd.plus | apply Rd.drew | apply Rd.alloc))) ?_
          clear hK K
          refine wpPt_val rfl rfl ?_
          apply Exists.intro
          refine ⟨fun w' hS => ?_, ?_⟩
          focus (have cS := rdS_cell hS hu; simp [go_sem, ↓IntWalk.iteOmega, cS, hk0, hk3] <;> first | done | exact rfl | (rw [IntWalk.i64_in _ (by omega)]; exact rfl) | trace_state)
          refine wpPt_val rfl rfl ?_
          apply Exists.intro
          refine ⟨fun w' hS => ?_, ?_⟩
          focus (have cS := rdS_cell hS hu; simp [go_sem, ↓IntWalk.iteOmega, cS, hk0, hk3] <;> first | done | exact rfl | (rw [IntWalk.i64_in _ (by omega)]; exact rfl) | trace_state)
          refine wpPt_val rfl rfl ?_
          apply Exists.intro
          refine ⟨fun w' hS => ?_, ?_⟩
          focus (have cS := rdS_cell hS hu; simp [go_sem, ↓IntWalk.iteOmega, cS, hk0, hk3] <;> first | done | exact rfl | (rw [IntWalk.i64_in _ (by omega)]; exact rfl) | trace_state)
          refine wpPt_val rfl rfl ?_
          apply Exists.intro
          refine ⟨fun w' hS => ?_, ?_⟩
          focus (have cS := rdS_cell hS hu; simp [go_sem, ↓IntWalk.iteOmega, cS, hk0, hk3] <;> first | done | exact rfl | (rw [IntWalk.i64_in _ (by omega)]; exact rfl) | trace_state)
          refine wpPt_val rfl rfl ?_
          apply Exists.intro
          refine ⟨fun w' hS => ?_, ?_⟩
          focus (have cS := rdS_cell hS hu; simp [go_sem, ↓IntWalk.iteOmega, cS, hk0, hk3] <;> first | done | exact rfl | (rw [IntWalk.i64_in _ (by omega)]; exact rfl) | trace_state)
          refine wpPt_one rfl rfl (fun K hK => ?_)
          go_simp
          refine hK _ _ (fun hkn => (by repeat (first | (with_reducible exact H8.out.rs) | apply Rd.plus | apply Rd.drew | apply Rd.alloc))) ?_
          clear hK K
          refine wpPt_val rfl rfl ?_
          apply Exists.intro
          refine ⟨fun w' hS => ?_, ?_⟩
          focus (have cS := rdS_cell hS hu; simp [go_sem, ↓IntWalk.iteOmega, cS, hk0, hk3] <;> first | done | exact rfl | (rw [IntWalk.i64_in _ (by omega)]; exact rfl) | trace_state)
          refine wpPt_val rfl rfl ?_
          apply Exists.intro
          refine ⟨fun w' hS => ?_, ?_⟩
          focus (have cS := rdS_cell hS hu; simp [go_sem, ↓IntWalk.iteOmega, cS, hk0, hk3] <;> first | done | exact rfl | (rw [IntWalk.i64_in _ (by omega)]; exact rfl) | trace_state)
          refine wpPt_val rfl rfl ?_
          apply Exists.intro
          refine ⟨fun w' hS => ?_, ?_⟩
          focus (have cS := rdS_cell hS hu; simp [go_sem, ↓IntWalk.iteOmega, cS, hk0, hk3] <;> first | done | exact rfl | (rw [IntWalk.i64_in _ (by omega)]; exact rfl) | trace_state)
          refine NoPanic.normal ?_
          go_wp2_with fail
          go_roundw
          case rel => exact .inr ⟨k + 1, hTn, rfl, by go_num, by omega, below_more (by repeat (first | (with_reducible exact H8.out.bel) | refine below_plus ?_ (by first | omega | (simp <;> omega)) _ | refine Below.alloc ?_ (by first | omega | (simp <;> omega)) _ | refine below_patch ?_ (by omega) _ | refine Below.drew ?_))⟩
          case measure => simp [intOf]; omega
      · obtain rfl : k = us.length := by omega
        have hT := hI.done
        have hn0 := hI.n0
        have hn1 := hI.n1
        have HK := Lib.hid hKQ
        have rB := cell_of HK.out.blk
        have zB := HK.out.lt
        have lB := HK.out.low
        have hbel := HK.out.bel
        clear hI hKQ
        go_wp2_with fail
        refine wp_region_pt 6 (fun w' => w'.heap[D]? = some (.cells #[.int .i64 o, .int .i64 l, .int .i64 m, .slice A x.ps.length cc, .int .i64 b, .int .i64 x.last, .string x.sb, .int .i64 x.z, .int .i64 x.c, .int .i64 x.e] 50 (0, 0))) (Plan.quiet 0 (Plan.quiet 1 (Plan.quiet 2 (Plan.quiet 3 (Plan.quiet 4 (Plan.quiet 5 (Plan.one 6 Plan.done))))))) (by kernel_rfl) (by kernel_rfl) (blk_drew HK.out.blk) ?_
        refine wpPt_val rfl rfl ?_
        apply Exists.intro
        refine ⟨fun w' hS => ?_, ?_⟩
        focus (have rS := cell_of hS; simp [go_sem, ↓IntWalk.iteOmega, rS] <;> first | done | exact rfl | (rw [IntWalk.i64_in _ (by omega)]; exact rfl) | trace_state)
        refine wpPt_val rfl rfl ?_
        apply Exists.intro
        refine ⟨fun w' hS => ?_, ?_⟩
        focus (have rS := cell_of hS; simp [go_sem, ↓IntWalk.iteOmega, rS] <;> first | done | exact rfl | (rw [IntWalk.i64_in _ (by omega)]; exact rfl) | trace_state)
        refine wpPt_val rfl rfl ?_
        apply Exists.intro
        refine ⟨fun w' hS => ?_, ?_⟩
        focus (have rS := cell_of hS; simp [go_sem, ↓IntWalk.iteOmega, rS] <;> first | done | exact rfl | (rw [IntWalk.i64_in _ (by omega)]; exact rfl) | trace_state)
        refine wpPt_val rfl rfl ?_
        apply Exists.intro
        refine ⟨fun w' hS => ?_, ?_⟩
        focus (have rS := cell_of hS; simp [go_sem, ↓IntWalk.iteOmega, rS] <;> first | done | exact rfl | (rw [IntWalk.i64_in _ (by omega)]; exact rfl) | trace_state)
        refine wpPt_val rfl rfl ?_
        apply Exists.intro
        refine ⟨fun w' hS => ?_, ?_⟩
        focus (have rS := cell_of hS; simp [go_sem, ↓IntWalk.iteOmega, rS] <;> first | done | exact rfl | (rw [IntWalk.i64_in _ (by omega)]; exact rfl) | trace_state)
        refine wpPt_val rfl rfl ?_
        apply Exists.intro
        refine ⟨fun w' hS => ?_, ?_⟩
        focus (have rS := cell_of hS; simp [go_sem, ↓IntWalk.iteOmega, rS] <;> first | done | exact rfl | (rw [IntWalk.i64_in _ (by omega)]; exact rfl) | trace_state)
        refine wpPt_one rfl rfl (fun K hK => ?_)
        go_simp
        refine hK _ _ (fun hkn => absurd hkn (by decide)) ?_
        clear hK K
        refine NoPanic.normal ?_
        go_wp2_with fail
        subst hT
        exact bodyPost_ret (v := .tuple #[.string d, .int .i64 x.e, .int .i64 n]) (by simp [results, Try.results43, go_sem, ↓IntWalk.iteOmega]) rfl ⟨rfl, below_more (by repeat (first | (with_reducible exact hbel) | refine below_plus ?_ (by first | omega | (simp <;> omega)) _ | refine Below.alloc ?_ (by first | omega | (simp <;> omega)) _ | refine below_patch ?_ (by omega) _ | refine Below.drew ?_))⟩
    · subst hT
      go_wp2_with fail
      all_goals exact bodyPost_ret (v := .tuple #[.string ⟨#[]⟩, .int .i64 4, .int .i64 0]) (by simp [results, Try.results43, go_sem, ↓IntWalk.iteOmega]) rfl ⟨rfl, (by repeat (first | exact More.refl _ | apply More.plus | apply More.alloc | apply More.drew | apply More.drewN))⟩

end Go.Proofs.Ytibfkfinghcpaaa
