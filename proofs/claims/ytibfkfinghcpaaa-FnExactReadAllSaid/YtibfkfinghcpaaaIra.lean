/- The program's ReadAll. -/
import Derived.Test.YtibfkfinghcpaaaRas
import Derived.Test.YtibfkfinghcpaaaBld
namespace Go.Proofs.Ytibfkfinghcpaaa
open Go.RowKit
set_option linter.unusedVariables false
set_option linter.unusedSimpArgs false

set_option maxRecDepth 100000 in
set_option maxHeartbeats 2000000 in
theorem implReadAll_no (o l m : Int) (a : Option Addr) (cap : Nat) (ps : List Pr) (base last : Int) (sa : Option Addr) (scap : Nat) (us : List ByteArray) (w : World) (hr : RdP w a cap ps) (hk : kvb o l m ps base last = false) :
    Calls Try.prog 42 #[.agg #[.int .i64 o, .int .i64 l, .int .i64 m, .slice a ps.length cap, .int .i64 base, .int .i64 last], .slice sa us.length scap] w (Ret w (raV none)) := by
  have HR := Lib.hid (show Rd encP w a cap ps from hr)
  clear hr
  go_enter Try.func42, Try.ntmps42
  go_wp2_with fail
  refine (implNewReader_no o l m a cap ps base last _ (by (try unfold RdP); repeat (first | (with_reducible exact HR.out) | (with_reducible apply rd_seq) | (with_reducible apply Rd.plus) | (with_reducible apply Rd.alloc) | (with_reducible apply Rd.drew) | (with_reducible apply Rd.drewN))) hk).mono ?_
  rintro e w' ⟨rfl, x1, rfl⟩
  go_wp2_with fail
  exact bodyPost_ret (v := .tuple #[.string ⟨#[]⟩, .int .i64 4, .int .i64 0]) (by simp [results, Try.results42, go_sem, ↓IntWalk.iteOmega]) rfl ⟨rfl, (by repeat (first | exact More.refl _ | apply More.plus | apply More.alloc | apply More.drew | apply More.drewN))⟩

/-- the builder beside a reader's block -/
structure KU (w wr : World) (D b : Nat) (kb : Obj) (p : Value) (sa : Option Addr) (scap : Nat) (us : List ByteArray) (A : Option Addr) (c : Nat) (ts : List Pr) (xs : List UInt8) (G : Option Addr) (gc : Nat) : Prop where
  q : KQ w wr D kb sa scap us A c ts
  fit : ∀ Y, A = some Y → Y.block < wr.heap.size
  bld : wr.heap[b]? = some (.cells #[p, .slice G xs.length gc] 116 (0, 0))
  self : p = .pointer none ∨ p = .pointer (some ⟨b, 0, none⟩)
  row : Own encB 5 wr G gc xs b
  apart : ∀ Y Z, A = some Y → G = some Z → Y.block ≠ Z.block
  offb : ∀ Y, A = some Y → Y.block ≠ b
  offs : ∀ Y, sa = some Y → 0 < scap → Y.block < D
  offg : Off G b
  lt : D < b

theorem rd_grewR {α : Type} {E : Enc α} {A : Option Addr} {w w' : World} {a : Option Addr} {cap : Nat} {xs : List α} (h : Rd E w a cap xs) (hg : Grew A w w') (ha : ∀ X Y, A = some X → a = some Y → X.block ≠ Y.block) : Rd E w' a cap xs :=
  h.of_block fun Y hY hl => ⟨by have := hg.size; omega, hg.block _ hl fun X hX e => ha X Y hX hY e⟩

theorem rd_grewQ {α : Type} {E : Enc α} {w w' : World} {A a : Option Addr} {cap : Nat} {xs : List α} (h : Rd E w a cap xs) (hg : Grew A w w') (hb : ∀ X Y, A = some X → a = some Y → 0 < cap → X.block ≠ Y.block) : Rd E w' a cap xs := by
  rcases Nat.eq_zero_or_pos cap with h0 | h0
  · exact ⟨h.1, h.2.1, .inl h0⟩
  · exact rd_grewR h hg fun X Y hX hY => hb X Y hX hY h0

section
variable {w wr w' : World} {D b : Nat} {kb : Obj} {p : Value} {sa : Option Addr} {scap : Nat} {us : List ByteArray} {A : Option Addr} {c : Nat} {ts : List Pr} {xs : List UInt8} {G : Option Addr} {gc : Nat}

theorem KU.ltb (h : KU w wr D b kb p sa scap us A c ts xs G gc) : b < wr.heap.size := (Array.getElem?_eq_some_iff.1 h.bld).1

theorem KU.more (h : KU w wr D b kb p sa scap us A c ts xs G gc) (hm : More wr w') : KU w w' D b kb p sa scap us A c ts xs G gc := by
  have hq := h.q.more hm
  obtain ⟨x, rfl⟩ := hm
  exact ⟨hq, fun Y hY => by have := h.fit Y hY; simp; omega, blk_plus h.bld x, h.self, Own.plus h.row x, h.apart, h.offb, h.offs, h.offg, h.lt⟩

/-- the reader's block turned, and pairs of a call's own -/
theorem KU.step {x : Ext} {cur : Array Value} {t : TypeId} {pa2 : Option Addr} {pc2 : Nat} {vs : List Pr} (h : KU w wr D b kb p sa scap us A c ts xs G gc) (hown : Own encP 137 (Go.Proofs.Ytibfkfinghcpaaa.plus wr x) pa2 pc2 vs wr.heap.size) :
    KU w (Go.Proofs.Ytibfkfinghcpaaa.plus (patch wr D (.cells cur t)) x) D b (.cells cur t) p sa scap us pa2 pc2 vs xs G gc := by
  have hlo2 := own_lt hown
  have hlog := own_lt h.row
  have hltb := h.ltb
  have hlt := h.lt
  refine ⟨h.q.step hown, fun Y hY => by have := (hlo2 Y hY).2; simp at this ⊢; omega, blk_plus ((patch_other _ _ _ (by omega)).trans h.bld) x, h.self, Own.plus (own_patch h.row (fun X hX e => by have := (hlog X hX).1; omega)) x, fun Y Z hY hZ e => ?_, fun Y hY e => ?_, h.offs, h.offg, h.lt⟩
  · have := (hlo2 Y hY).1
    have := (hlog Z hZ).2
    omega
  · have := (hlo2 Y hY).1
    omega

/-- a text written -/
theorem KU.wrote {w2 : World} {s : ByteArray} {G' : Option Addr} {gc' : Nat} (h : KU w wr D b kb p sa scap us A c ts xs G gc) (hg : Grew G (patch wr b (.cells #[.pointer (some ⟨b, 0, none⟩), .slice G xs.length gc] 116 (0, 0))) w2)
    (hown : Own encB 5 w2 G' gc' (xs ++ s.data.toList) b) (hx : Nxt G G' wr.heap.size) :
    KU w (patch w2 b (.cells #[.pointer (some ⟨b, 0, none⟩), .slice G' (xs ++ s.data.toList).length gc'] 116 (0, 0))) D b kb (.pointer (some ⟨b, 0, none⟩)) sa scap us A c ts (xs ++ s.data.toList) G' gc' := by
  have hlog := own_lt h.row
  have hltb := h.ltb
  have hlt := h.lt
  have hlow := h.q.low
  have hsz := hg.size
  simp at hsz
  have hoff' : Off G' b := hx.off h.offg (by omega)
  refine ⟨⟨?_, ?_, ?_, h.q.off, ?_, h.q.low⟩, fun Y hY => by have := h.fit Y hY; simp; omega, patch_at _ _ _ (by omega), .inr rfl, own_patch hown hoff', fun Y Z hY hZ e => ?_, h.offb, h.offs, hoff', h.lt⟩
  · exact (patch_other _ _ _ (by omega)).trans (blk_grew hg ((patch_other _ _ _ (by omega)).trans h.q.blk) (fun X hX e => by have := (hlog X hX).1; omega))
  · exact rd_patchQ (rd_grewQ (rd_patchQ h.q.rs _ _ (fun Y hY hc => by have := h.offs Y hY hc; omega)) hg (fun X Y hX hY hc => by have := (hlog X hX).1; have := h.offs Y hY hc; omega)) _ _ (fun Y hY hc => by have := h.offs Y hY hc; omega)
  · exact rd_patchQ (rd_grewQ (rd_patchQ h.q.ra _ _ (fun Y hY hc => h.offb Y hY)) hg (fun X Y hX hY hc => (h.apart Y X hY hX).symm)) _ _ (fun Y hY hc => h.offb Y hY)
  · exact below_patch ((below_patch h.q.bel (by omega) _).trans (hg.below (B := w.heap.size) (by simp; omega) (fun X hX => by have := (hlog X hX).1; omega))) (by omega) _
  · rcases hx Z hZ with ⟨X, hX, he⟩ | he
    · exact h.apart Y X hY hX (by omega)
    · have := h.fit Y hY
      omega

end

set_option maxRecDepth 100000 in
set_option maxHeartbeats 4000000 in
theorem implReadAll_yes (o l m : Int) (a : Option Addr) (cap : Nat) (ps : List Pr) (b : Nat) (last : Int) (sa : Option Addr) (scap : Nat) (us : List ByteArray) (w : World) (hr : RdP w a cap ps) (hs : Rd encS w sa scap us) (hz : us.length + sumZ us ≤ 1048576) (hk : kvb o l m ps b last = true) (T : Option (Rdr × ByteArray × Int)) (hT : raL o l m b us (rd0 ps last) ⟨#[]⟩ 0 = T) :
    Calls Try.prog 42 #[.agg #[.int .i64 o, .int .i64 l, .int .i64 m, .slice a ps.length cap, .int .i64 b, .int .i64 last], .slice sa us.length scap] w (Ret w (raV T)) := by
  have HR := Lib.hid (show Rd encP w a cap ps from hr)
  have HS := Lib.hid hs
  have HLT := Lib.hid (fun Y hY hc => rd_lt hs Y hY hc)
  have hcap := hs.1
  have H0 := Lib.hid (RaI.zero (us := us) hk hT)
  clear hr hs hT
  go_enter Try.func42, Try.ntmps42
  go_wp2_with fail
  refine (implNewReader_yes o l m a cap ps b last _ (by (try unfold RdP); repeat (first | (with_reducible exact HR.out) | (with_reducible apply rd_seq) | (with_reducible apply Rd.plus) | (with_reducible apply Rd.alloc) | (with_reducible apply Rd.drew) | (with_reducible apply Rd.drewN))) hk).mono ?_
  rintro e w' ⟨a1, c1, rfl, hown, x1, rfl⟩
  have HQ := Lib.hid (show Rd encP _ a1 c1 ps from hown.rd)
  have hlo := own_lt hown
  simp at hlo
  clear hown
  go_wp2_with fail
  refine wp_nmQ (fun X => KU w X (w.heap.size + 1 + x1.n) (w.heap.size + 1 + x1.n + 1) (.cells #[.int .i64 o, .int .i64 l, .int .i64 m, .slice a1 ps.length c1, .int .i64 b, .int .i64 last, .string ⟨#[]⟩, .int .i64 0, .int .i64 0, .int .i64 1] 50 (0, 0)) (.pointer none) sa scap us a1 c1 ps [] none 0) ⟨⟨(by repeat (first | (with_reducible exact push_new _ _ _ rfl) | (with_reducible exact push_new _ _ _ (by simp)) | (with_reducible apply blk_plus) | (with_reducible apply blk_alloc) | (with_reducible apply blk_drew) | (with_reducible refine blk_patch ?_ (by omega)))), (by repeat (first | (with_reducible exact HS.out) | apply Rd.plus | apply Rd.alloc | apply Rd.drew)), (by (try unfold RdP); repeat (first | (with_reducible exact HQ.out) | (with_reducible apply rd_seq) | (with_reducible apply Rd.plus) | (with_reducible apply Rd.alloc) | (with_reducible apply Rd.drew) | (with_reducible apply Rd.drewN))), (fun Y hY hc => by have := HLT.out Y hY hc; omega), (by repeat (first | exact Below.refl _ _ | refine below_plus ?_ (by first | omega | (simp <;> omega)) _ | refine Below.alloc ?_ (by first | omega | (simp <;> omega)) _ | refine below_patch ?_ (by omega) _ | refine Below.drew ?_)), by omega⟩, (fun Y hY => by have := hlo Y hY; simp; omega), (by show _ = some (Obj.cells #[.pointer none, .slice none 0 0] 116 (0, 0)); exact (by repeat (first | (with_reducible exact push_new _ _ _ rfl) | (with_reducible exact push_new _ _ _ (by simp)) | (with_reducible apply blk_plus) | (with_reducible apply blk_alloc) | (with_reducible apply blk_drew) | (with_reducible refine blk_patch ?_ (by omega))))), .inl rfl, .inl ⟨rfl, rfl, rfl⟩, (fun _ _ _ h => by cases h), (fun Y hY => by have := hlo Y hY; omega), (fun Y hY hc => by have := HLT.out Y hY hc; omega), (fun X hX => by cases hX), by omega⟩ ?_
  generalize w.heap.size + 1 + x1.n + 1 = Bk
  generalize w.heap.size + 1 + x1.n = D
  intro X hX
  have HX := Lib.hid hX
  clear hX HQ HR HS HLT hlo
  go_loopw [10, 24] (fun q i wr => ∃ (k : Nat) (x : Rdr) (d : ByteArray) (n : Int) (A : Option Addr) (cc : Nat) (p : Value) (G : Option Addr) (gc : Nat), RaI o l m b us T k x d n ∧ q = .int .i64 n ∧ i = .int .i64 k ∧ KU w wr D Bk (.cells #[.int .i64 o, .int .i64 l, .int .i64 m, .slice A x.ps.length cc, .int .i64 b, .int .i64 x.last, .string x.sb, .int .i64 x.z, .int .i64 x.c, .int .i64 x.e] 50 (0, 0)) p sa scap us A cc x.ps d.data.toList G gc) (fun _ i _ => us.length - (intOf i).toNat)
  case atStart => exact ⟨0, rd0 ps last, ⟨#[]⟩, 0, a1, c1, _, none, 0, H0.out, rfl, rfl, HX.out⟩
  case round =>
    clear H0 HX
    obtain ⟨k, x, d, n, A, cc, p, G, gc, hI, rfl, rfl, hKU⟩ := hrel
    have hkl := hI.le
    have HK := Lib.hid hKU
    have rB := cell_of HK.out.q.blk
    have zB := HK.out.q.lt
    have zC := HK.out.ltb
    have lB := HK.out.q.low
    have lC := HK.out.lt
    have hn0 := hI.n0
    have hn1 := hI.n1
    have hdz := hI.dsz
    rcases dec (k < us.length) with ⟨hlt, blt⟩ | ⟨hlt, blt⟩
    · obtain ⟨u, hu⟩ : ∃ p, us[k]? = some p := ⟨us[k], List.getElem?_eq_getElem hlt⟩
      obtain ⟨sb0, so0, rfl⟩ := rdS_some hKU.q.rs (by omega)
      have cS := rdS_cell HK.out.q.rs hu
      have huz := sumZ_step us k u hu
      have hum := sumZ_mono us (k + 1)
      have hk0 : (0 : Int) ≤ (k : Int) := by omega
      have hk3 : (k : Int) < (us.length : Int) := by omega
      by_cases h4 : u.size ≤ 4000
      · have HI2 := Lib.hid (hI.step hu h4)
        have F2 := rfx (u := u) hI.ok h4
        have hm0 := F2.used0
        have hm1 := F2.used1
        have hre := F2.reads
        have hd2 := (hI.step hu h4).dsz
        rw [ByteArray.size_append] at hd2
        obtain ⟨Z, hZ⟩ : ∃ Z, rsX o l m b x u = Z := ⟨_, rfl⟩
        obtain ⟨d2, hd2e⟩ : ∃ Z, rsD o l m b x u = Z := ⟨_, rfl⟩
        obtain ⟨n2, hn2e⟩ : ∃ Z, rsU o l m b x u = Z := ⟨_, rfl⟩
        rw [hZ, hd2e, hn2e] at hre HI2
        rw [hd2e] at hd2
        rw [hn2e] at hm0 hm1
        clear F2 hZ hd2e hn2e hI hKU
        obtain ⟨ts, la1, sb1, z2, c2, e3⟩ := x
        obtain ⟨vs, la2, sb2, z3, c3, e4⟩ := Z
        have HJ := Lib.hid hre.2
        clear hre
        go_wp2_with fail
        refine (HJ.out _ _ _ (by (try unfold RdP); repeat (first | (with_reducible exact HK.out.q.ra) | (with_reducible apply rd_seq) | (with_reducible apply Rd.plus) | (with_reducible apply Rd.alloc) | (with_reducible apply Rd.drew) | (with_reducible apply Rd.drewN)))).mono ?_
        rintro e w8 ⟨ta, tc, rfl, hown, x8, rfl⟩
        have f7 := free_of HK.out.q.blk
        have s7 := fun i v => setCell_patch HK.out.q.blk i v
        have H8 := Lib.hid (KU.step (cur := #[.int .i64 o, .int .i64 l, .int .i64 m, .slice ta vs.length tc, .int .i64 b, .int .i64 la2, .string sb2, .int .i64 z3, .int .i64 c3, .int .i64 e4]) (t := 50) HK.out hown)
        clear hown
        go_wp2_with fail
        have hln : d.data.toList.length = d.size := by simp
        refine (bld_write Bk p H8.out.self _ _ _ Bk d2 _ H8.out.bld H8.out.row H8.out.offg (by have := H8.out.ltb; omega) (by omega)).mono ?_
        rintro e w9 ⟨rfl, G2, gc2, w2, hg, rfl, hown2, hx⟩
        have h9 := KU.wrote H8.out hg hown2 hx
        rw [show (d.data.toList ++ d2.data.toList).length = d.size + d2.size from by simp] at h9
        have H9 := Lib.hid h9
        clear hg hown2 hx h9
        go_wp2_with fail
        go_roundw
        case rel =>
          refine ⟨k + 1, _, _, _, ta, tc, .pointer (some ⟨Bk, 0, none⟩), G2, gc2, HI2.out, rfl, by go_num, ?_⟩
          rw [show (d ++ d2).data.toList = d.data.toList ++ d2.data.toList from by simp]
          exact H9.out.more (by repeat (first | exact More.refl _ | apply More.plus | apply More.alloc | apply More.drew | apply More.drewN))
        case measure => simp [intOf]; omega
      · have hTn := hI.fail hu (by omega)
        have hsb := rdv_bits hI.ok
        have hre := (reads_no (o := o) (l := l) (m := m) (ps := x.ps) (base := b) (last := x.last) (sb := x.sb) (z := x.z) (c := x.c) (e := x.e) (u := u) (by unfold maxLen; omega) (by unfold maxLen; omega) (.inr (by omega))).2
        clear hI hKU
        obtain ⟨ts, la1, sb1, z2, c2, e3⟩ := x
        have HJ := Lib.hid hre
        clear hre
        go_wp2_with fail
        refine (HJ.out _ _ _ (by (try unfold RdP); repeat (first | (with_reducible exact HK.out.q.ra) | (with_reducible apply rd_seq) | (with_reducible apply Rd.plus) | (with_reducible apply Rd.alloc) | (with_reducible apply Rd.drew) | (with_reducible apply Rd.drewN)))).mono ?_
        rintro e w8 ⟨ta, tc, rfl, hown, x8, rfl⟩
        have f7 := free_of HK.out.q.blk
        have s7 := fun i v => setCell_patch HK.out.q.blk i v
        have H8 := Lib.hid (KU.step (cur := #[.int .i64 0, .int .i64 0, .int .i64 0, .slice ta 0 tc, .int .i64 0, .int .i64 0, .string ⟨#[]⟩, .int .i64 0, .int .i64 0, .int .i64 0]) (t := 50) HK.out hown)
        clear hown
        go_wp2_with fail
        subst hTn
        exact bodyPost_ret (v := .tuple #[.string ⟨#[]⟩, .int .i64 4, .int .i64 0]) (by simp [results, Try.results42, go_sem, ↓IntWalk.iteOmega]) rfl ⟨rfl, below_more H8.out.q.bel⟩
    · obtain rfl : k = us.length := by omega
      have hT := hI.done
      clear hI hKU
      go_wp2_with fail
      refine wp_region_pt 6 (fun w' => w'.heap[D]? = some (.cells #[.int .i64 o, .int .i64 l, .int .i64 m, .slice A x.ps.length cc, .int .i64 b, .int .i64 x.last, .string x.sb, .int .i64 x.z, .int .i64 x.c, .int .i64 x.e] 50 (0, 0))) (Plan.quiet 1 (Plan.quiet 2 (Plan.quiet 3 (Plan.one 0 (Plan.quiet 4 (Plan.quiet 5 (Plan.one 6 Plan.done))))))) (by kernel_rfl) (by kernel_rfl) (blk_drew HK.out.q.blk) ?_
      refine wpPt_val rfl rfl ?_
      apply Exists.intro
      refine ⟨fun w' hS => ?_, ?_⟩
      focus (have rS := cell_of hS; simp [go_sem, ↓IntWalk.iteOmega, rS] <;> first | done | exact rfl | (rw [IntWalk.i64_in _ (by omega)]; exact rfl) | trace_state)
      refine wpPt_val rfl rfl ?_
      apply Exists.intro
      refine ⟨fun w' hS => ?_, ?_⟩
      focus (have rS := cell_of hS; simp [go_sem, ↓IntWalk.iteOmega, rS] <;> first | done | exact rfl | (rw [IntWalk.i64_in _ (by omega)]; exact rfl) | trace_state)
      refine wpPt_val rfl rfl ?_
      apply Exists.intro
      refine ⟨fun w' hS => ?_, ?_⟩
      focus (have rS := cell_of hS; simp [go_sem, ↓IntWalk.iteOmega, rS] <;> first | done | exact rfl | (rw [IntWalk.i64_in _ (by omega)]; exact rfl) | trace_state)
      refine wpPt_one rfl rfl (fun K hK => ?_)
      go_simp
      refine (bld_string Bk p HK.out.self _ _ _ _ (blk_drew HK.out.bld) (Own.drew HK.out.row) HK.out.offg).mono ?_
      rintro e w5 ⟨rfl, hbl5⟩
      have HB5 := Lib.hid hbl5
      clear hbl5
      refine hK _ _ (fun hkn => blk_below HB5.out (blk_drew HK.out.q.blk) (by omega)) ?_
      clear hK K
      refine wpPt_val rfl rfl ?_
      apply Exists.intro
      refine ⟨fun w' hS => ?_, ?_⟩
      focus (have rS := cell_of hS; simp [go_sem, ↓IntWalk.iteOmega, rS] <;> first | done | exact rfl | (rw [IntWalk.i64_in _ (by omega)]; exact rfl) | trace_state)
      refine wpPt_val rfl rfl ?_
      apply Exists.intro
      refine ⟨fun w' hS => ?_, ?_⟩
      focus (have rS := cell_of hS; simp [go_sem, ↓IntWalk.iteOmega, rS] <;> first | done | exact rfl | (rw [IntWalk.i64_in _ (by omega)]; exact rfl) | trace_state)
      refine wpPt_one rfl rfl (fun K hK => ?_)
      go_simp
      refine hK _ _ (fun hkn => absurd hkn (by decide)) ?_
      clear hK K
      refine NoPanic.normal ?_
      go_wp2_with fail
      subst hT
      exact bodyPost_ret (v := .tuple #[.string d, .int .i64 x.e, .int .i64 n]) (by simp [results, Try.results42, go_sem, ↓IntWalk.iteOmega]) rfl ⟨rfl, below_more ((Below.drew HK.out.q.bel).trans (HB5.out.mono (by omega)))⟩

end Go.Proofs.Ytibfkfinghcpaaa
