/- Lemmas and walks, part Gx. -/
import Derived.Test.YtibfkfinghcpaaaGv
import Derived.Test.YtibfkfinghcpaaaTss
import Derived.Test.YtibfkfinghcpaaaShelfB
import Derived.Test.YtibfkfinghcpaaaAps
import Derived.Test.YtibfkfinghcpaaaGb
import Derived.Test.YtibfkfinghcpaaaUnc

/- Reading in parts: a function over a list of parts, in plain Lean. -/
namespace Go.Proofs.Ytibfkfinghcpaaa
open Go.RowKit
set_option linter.unusedVariables false
set_option linter.unusedSimpArgs false

/-- what is read from parts -/
noncomputable def raL (o l m : Int) (b : Nat) : List ByteArray → Rdr → ByteArray → Int → Option (Rdr × ByteArray × Int)
  | [], x, d, n => some (x, d, n)
  | u :: us, x, d, n => if 4000 < u.size then none else raL o l m b us (rsX o l m b x u) (d ++ rsD o l m b x u) (n + rsU o l m b x u)

def raD : Option (Rdr × ByteArray × Int) → ByteArray
  | none => ⟨#[]⟩
  | some t => t.2.1

def raE : Option (Rdr × ByteArray × Int) → Int
  | none => 4
  | some t => t.1.e

def raN : Option (Rdr × ByteArray × Int) → Int
  | none => 0
  | some t => t.2.2

/-- the reader that begins -/
def rd0 (ps : List Pr) (last : Int) : Rdr := ⟨ps, last, ⟨#[]⟩, 0, 0, 1⟩

/-- behind the first k parts -/
structure RaI (o l m : Int) (b : Nat) (us : List ByteArray) (T : Option (Rdr × ByteArray × Int)) (k : Nat) (x : Rdr) (d : ByteArray) (n : Int) : Prop where
  le : k ≤ us.length
  ok : Rdv o l m b x
  siz : x.z = d.size
  n0 : 0 ≤ n
  n1 : n ≤ sumZ (us.take k)
  tot : raL o l m b (us.drop k) x d n = T

section
variable {o l m : Int} {b : Nat} {us : List ByteArray} {T : Option (Rdr × ByteArray × Int)} {k : Nat} {x : Rdr} {d : ByteArray} {n : Int} {u : ByteArray}

theorem RaI.dsz (h : RaI o l m b us T k x d n) : d.size ≤ 2000 := by
  have h1 := (rdb_parts h.ok).2.z1
  have h2 := h.siz
  omega

theorem RaI.step (h : RaI o l m b us T k x d n) (hu : us[k]? = some u) (h4 : u.size ≤ 4000) : RaI o l m b us T (k + 1) (rsX o l m b x u) (d ++ rsD o l m b x u) (n + rsU o l m b x u) := by
  have F := rfx (u := u) h.ok h4
  have hk := (List.getElem?_eq_some_iff.1 hu).1
  have h0 := F.used0
  have h1 := F.used1
  have h2 := h.n0
  have h3 := h.n1
  have hs := sumZ_step us k u hu
  refine ⟨hk, F.ok, ?_, by omega, by omega, ?_⟩
  · rw [F.siz, h.siz, ByteArray.size_append]
    omega
  · have ht := h.tot
    rw [List.drop_eq_getElem_cons hk, (List.getElem?_eq_some_iff.1 hu).2] at ht
    unfold raL at ht
    rwa [if_neg (by omega)] at ht

theorem RaI.fail (h : RaI o l m b us T k x d n) (hu : us[k]? = some u) (h4 : 4000 < u.size) : T = none := by
  have hk := (List.getElem?_eq_some_iff.1 hu).1
  have ht := h.tot
  rw [List.drop_eq_getElem_cons hk, (List.getElem?_eq_some_iff.1 hu).2] at ht
  unfold raL at ht
  rw [if_pos h4] at ht
  exact ht.symm

theorem RaI.done (h : RaI o l m b us T us.length x d n) : T = some (x, d, n) := by
  have ht := h.tot
  rw [List.drop_length] at ht
  exact ht.symm

end

theorem rd0_ok {o l m : Int} {b : Nat} {ps : List Pr} {last : Int} (hk : kvb o l m ps b last = true) : Rdv o l m b (rd0 ps last) := by
  unfold Rdv rd0 rdb
  show (kvb o l m ps b last && rvb l m ps.length last ⟨#[]⟩ 0 0 1) = true
  rw [hk, Bool.true_and]
  refine rvb_iff.2 ⟨bitsB_bv.2 ⟨by decide, fun x hx => by simp at hx⟩, by decide, by decide, by decide, by decide, .inl ⟨rfl, ?_, by decide⟩⟩
  have := (wd_pos (kvb_iff.1 hk)).1
  show ((0 : Nat) : Int) < _
  omega

theorem RaI.zero {o l m : Int} {b : Nat} {us : List ByteArray} {ps : List Pr} {last : Int} {T : Option (Rdr × ByteArray × Int)} (hk : kvb o l m ps b last = true) (hT : raL o l m b us (rd0 ps last) ⟨#[]⟩ 0 = T) : RaI o l m b us T 0 (rd0 ps last) ⟨#[]⟩ 0 :=
  ⟨Nat.zero_le _, rd0_ok hk, rfl, Int.le_refl _, by simp [sumZ], by rw [List.drop_zero]; exact hT⟩

theorem rd_patchQ {α : Type} {E : Enc α} {w : World} {a : Option Addr} {cap : Nat} {xs : List α} (h : Rd E w a cap xs) (b : Nat) (o : Obj) (hb : ∀ A, a = some A → 0 < cap → A.block ≠ b) : Rd E (patch w b o) a cap xs := by
  rcases Nat.eq_zero_or_pos cap with h0 | h0
  · exact ⟨h.1, h.2.1, .inl h0⟩
  · exact rd_patch h b o fun A hA => hb A hA h0

/-- a reader's block (D) and the parts -/
structure KQ (w wr : World) (D : Nat) (kb : Obj) (pa : Option Addr) (pcap : Nat) (us : List ByteArray) (A : Option Addr) (c : Nat) (ts : List Pr) : Prop where
  blk : wr.heap[D]? = some kb
  rs : Rd encS wr pa pcap us
  ra : Rd encP wr A c ts
  off : ∀ Y, pa = some Y → 0 < pcap → Y.block ≠ D
  bel : Below w.heap.size w wr
  low : w.heap.size ≤ D

section
variable {w wr w' : World} {D : Nat} {kb : Obj} {pa : Option Addr} {pcap : Nat} {us : List ByteArray} {A : Option Addr} {c : Nat} {ts : List Pr}

theorem KQ.lt (h : KQ w wr D kb pa pcap us A c ts) : D < wr.heap.size := (Array.getElem?_eq_some_iff.1 h.blk).1

theorem KQ.more (h : KQ w wr D kb pa pcap us A c ts) (hm : More wr w') : KQ w w' D kb pa pcap us A c ts := by
  obtain ⟨x, rfl⟩ := hm
  have h1 := h.lt
  have h2 := h.low
  exact ⟨blk_plus h.blk x, Rd.plus h.rs x, Rd.plus h.ra x, h.off, below_plus h.bel (by omega) x, h.low⟩

/-- the block turned, and pairs of a call's own -/
theorem KQ.step {x : Ext} {cur : Array Value} {t : TypeId} {pa2 : Option Addr} {pc2 : Nat} {vs : List Pr} (h : KQ w wr D kb pa pcap us A c ts) (hown : Own encP 137 (Go.Proofs.Ytibfkfinghcpaaa.plus wr x) pa2 pc2 vs wr.heap.size) :
    KQ w (Go.Proofs.Ytibfkfinghcpaaa.plus (patch wr D (.cells cur t)) x) D (.cells cur t) pa pcap us pa2 pc2 vs := by
  have hlt := h.lt
  have hlow := h.low
  have hlo2 := own_lt hown
  have hown2 := own_swap (w2 := patch wr D (.cells cur t)) hown (by simp) (by simp)
  exact ⟨blk_plus (patch_at _ _ _ hlt) x, Rd.plus (rd_patchQ h.rs _ _ h.off) x, hown2.rd, h.off, below_plus (below_patch h.bel (by omega) _) (by simp; omega) x, hlow⟩

end

end Go.Proofs.Ytibfkfinghcpaaa

/- The reference's ReadAll. -/
namespace Go.Proofs.Ytibfkfinghcpaaa
open Go.RowKit
set_option linter.unusedVariables false
set_option linter.unusedSimpArgs false

theorem rdv_bits {o l m : Int} {b : Nat} {x : Rdr} (h : Rdv o l m b x) : x.sb.size ≤ 11 := by
  obtain ⟨hkv, hrv⟩ := rdb_parts h
  have := (wd_pos hkv).2
  rcases hrv.e with h1 | h1
  · have := h1.2.1; omega
  · omega

/-- what ReadAll gives -/
def raV (T : Option (Rdr × ByteArray × Int)) : Value := .tuple #[.string (raD T), .int .i64 (raE T), .int .i64 (raN T)]

theorem rdS_cell {w : World} {b off cap : Nat} {us : List ByteArray} (h : Rd encS w (some ⟨b, off, none⟩) cap us) {k : Nat} {u : ByteArray} (hu : us[k]? = some u) : w.cell? ⟨b, off + k, none⟩ = some (.string u) := by
  have hk := (List.getElem?_eq_some_iff.1 hu).1
  obtain ⟨h1, h2, h3⟩ := RdS.open h
  rcases h3 with h3 | ⟨b', off', h3, hb, hc⟩
  · omega
  · cases h3
    exact hc k u hu

theorem rdS_some {w : World} {sa : Option Addr} {cap : Nat} {us : List ByteArray} (h : Rd encS w sa cap us) (h0 : 0 < us.length) : ∃ b off, sa = some ⟨b, off, none⟩ := by
  obtain ⟨h1, h2, h3⟩ := RdS.open h
  rcases h3 with h3 | ⟨b', off', h3, hb, hc⟩
  · omega
  · exact ⟨b', off', h3⟩

theorem wp_nmQ {P : Program} {c : Code} {Q : Exit → Act → World → Prop} {a : Act} {W : World} (F : World → Prop) (hF : F W) (h : ∀ X, F X → c.wp P Q a X) : c.wp P Q a W := h W hF

set_option maxRecDepth 100000 in
set_option maxHeartbeats 2000000 in
theorem specReadAll_no (o l m : Int) (a : Option Addr) (cap : Nat) (ps : List Pr) (base last : Int) (sa : Option Addr) (scap : Nat) (us : List ByteArray) (w : World) (hr : RdP w a cap ps) (hsc : us.length ≤ 2000000) (hk : kvb o l m ps base last = false) :
    Calls Try.prog 43 #[.agg #[.int .i64 o, .int .i64 l, .int .i64 m, .slice a ps.length cap, .int .i64 base, .int .i64 last], .slice sa us.length scap] w (Ret w (raV none)) := by
  have HR := Lib.hid (show Rd encP w a cap ps from hr)
  clear hr
  go_enter Try.func43, Try.ntmps43
  go_wp2_with fail
  refine (specNewReader_no o l m a cap ps base last _ (by (try unfold RdP); repeat (first | (with_reducible exact HR.out) | (with_reducible apply rd_seq) | (with_reducible apply Rd.plus) | (with_reducible apply Rd.alloc) | (with_reducible apply Rd.drew) | (with_reducible apply Rd.drewN))) hk).mono ?_
  rintro e w' ⟨rfl, x1, rfl⟩
  go_wp2_with fail
  go_loopw [8, 9, 10, 11] (fun p q t i wr => p = .bool false ∧ q = .string ⟨#[]⟩ ∧ t = .int .i64 0 ∧ i = .int .i64 0 ∧ More w wr) (fun _ _ _ _ _ => 0)
  case atStart => exact ⟨rfl, rfl, rfl, rfl, (by repeat (first | exact More.refl _ | apply More.plus | apply More.alloc | apply More.drew | apply More.drewN))⟩
  case round =>
    obtain ⟨rfl, rfl, rfl, rfl, y, rfl⟩ := hrel
    go_wp2_with fail
    all_goals exact bodyPost_ret (v := .tuple #[.string ⟨#[]⟩, .int .i64 4, .int .i64 0]) (by simp [results, Try.results43, go_sem, ↓IntWalk.iteOmega]) rfl ⟨rfl, (by repeat (first | exact More.refl _ | apply More.plus | apply More.alloc | apply More.drew | apply More.drewN))⟩

set_option maxRecDepth 100000 in
set_option maxHeartbeats 4000000 in
theorem specReadAll_yes (o l m : Int) (a : Option Addr) (cap : Nat) (ps : List Pr) (b : Nat) (last : Int) (sa : Option Addr) (scap : Nat) (us : List ByteArray) (w : World) (hr : RdP w a cap ps) (hs : Rd encS w sa scap us) (hz : us.length + sumZ us ≤ 1048576) (hk : kvb o l m ps b last = true) (T : Option (Rdr × ByteArray × Int)) (hT : raL o l m b us (rd0 ps last) ⟨#[]⟩ 0 = T) :
    Calls Try.prog 43 #[.agg #[.int .i64 o, .int .i64 l, .int .i64 m, .slice a ps.length cap, .int .i64 b, .int .i64 last], .slice sa us.length scap] w (Ret w (raV T)) := by
  have HR := Lib.hid (show Rd encP w a cap ps from hr)
  have HS := Lib.hid hs
  have HLT := Lib.hid (fun Y hY hc => rd_lt hs Y hY hc)
  have hcap := hs.1
  have H0 := Lib.hid (RaI.zero (us := us) hk hT)
  clear hr hs hT
  go_enter Try.func43, Try.ntmps43
  go_wp2_with fail
  refine (specNewReader_yes o l m a cap ps b last _ (by (try unfold RdP); repeat (first | (with_reducible exact HR.out) | (with_reducible apply rd_seq) | (with_reducible apply Rd.plus) | (with_reducible apply Rd.alloc) | (with_reducible apply Rd.drew) | (with_reducible apply Rd.drewN))) hk).mono ?_
  rintro e w' ⟨a1, c1, rfl, hown, x1, rfl⟩
  have HQ := Lib.hid (show Rd encP _ a1 c1 ps from hown.rd)
  clear hown
  go_wp2_with fail
  refine wp_nmQ (fun X => KQ w X (w.heap.size + 1 + x1.n) (.cells #[.int .i64 o, .int .i64 l, .int .i64 m, .slice a1 ps.length c1, .int .i64 b, .int .i64 last, .string ⟨#[]⟩, .int .i64 0, .int .i64 0, .int .i64 1] 50 (0, 0)) sa scap us a1 c1 ps) ⟨(by repeat (first | (with_reducible exact push_new _ _ _ rfl) | (with_reducible exact push_new _ _ _ (by simp)) | (with_reducible apply blk_plus) | (with_reducible apply blk_alloc) | (with_reducible apply blk_drew) | (with_reducible refine blk_patch ?_ (by omega)))), (by repeat (first | (with_reducible exact HS.out) | apply Rd.plus | apply Rd.alloc | apply Rd.drew)), (by (try unfold RdP); repeat (first | (with_reducible exact HQ.out) | (with_reducible apply rd_seq) | (with_reducible apply Rd.plus) | (with_reducible apply Rd.alloc) | (with_reducible apply Rd.drew) | (with_reducible apply Rd.drewN))), (fun Y hY hc => by have := HLT.out Y hY hc; omega), (by repeat (first | exact Below.refl _ _ | refine below_plus ?_ (by first | omega | (simp <;> omega)) _ | refine Below.alloc ?_ (by first | omega | (simp <;> omega)) _ | refine below_patch ?_ (by omega) _ | refine Below.drew ?_)), by omega⟩ ?_
  generalize w.heap.size + 1 + x1.n = D
  intro X hX
  have HX := Lib.hid hX
  clear hX HQ HR HS HLT
  go_loopw [8, 9, 10, 11] (fun p q t i wr => (∃ (k : Nat) (x : Rdr) (d : ByteArray) (n : Int) (A : Option Addr) (cc : Nat), RaI o l m b us T k x d n ∧ p = .bool true ∧ q = .string d ∧ t = .int .i64 n ∧ i = .int .i64 k ∧ KQ w wr D (.cells #[.int .i64 o, .int .i64 l, .int .i64 m, .slice A x.ps.length cc, .int .i64 b, .int .i64 x.last, .string x.sb, .int .i64 x.z, .int .i64 x.c, .int .i64 x.e] 50 (0, 0)) sa scap us A cc x.ps) ∨ (∃ (k : Nat), T = none ∧ p = .bool false ∧ i = .int .i64 k ∧ k ≤ us.length ∧ More w wr)) (fun _ _ _ i _ => us.length - (intOf i).toNat)
  case atStart => exact .inl ⟨0, rd0 ps last, ⟨#[]⟩, 0, a1, c1, H0.out, rfl, rfl, rfl, rfl, HX.out⟩
  case round =>
    clear H0 HX
    rcases hrel with ⟨k, x, d, n, A, cc, hI, rfl, rfl, rfl, rfl, hKQ⟩ | ⟨k, hT, rfl, rfl, hk9, y, rfl⟩
    · have hkl := hI.le
      rcases dec (k < us.length) with ⟨hlt, blt⟩ | ⟨hlt, blt⟩
      · obtain ⟨u, hu⟩ : ∃ p, us[k]? = some p := ⟨us[k], List.getElem?_eq_getElem hlt⟩
        obtain ⟨sb0, so0, rfl⟩ := rdS_some hKQ.rs (by omega)
        have huz := sumZ_step us k u hu
        have hum := sumZ_mono us (k + 1)
        have hn0 := hI.n0
        have hn1 := hI.n1
        have hdz := hI.dsz
        have HK := Lib.hid hKQ
        have rB := cell_of HK.out.blk
        have zB := HK.out.lt
        have lB := HK.out.low
        have hk0 : (0 : Int) ≤ (k : Int) := by omega
        have hk3 : (k : Int) < (us.length : Int) := by omega
        by_cases h4 : u.size ≤ 4000
        · have HI2 := Lib.hid (hI.step hu h4)
          have F2 := rfx (u := u) hI.ok h4
          have hm0 := F2.used0
          have hm1 := F2.used1
          have hre := F2.reads
          have hd2 := (hI.step hu h4).dsz
          rw [ByteArray.size_append] at hd2
          obtain ⟨Z, hZ⟩ : ∃ Z, rsX o l m b x u = Z := ⟨_, rfl⟩
          obtain ⟨d2, hd2e⟩ : ∃ Z, rsD o l m b x u = Z := ⟨_, rfl⟩
          obtain ⟨n2, hn2e⟩ : ∃ Z, rsU o l m b x u = Z := ⟨_, rfl⟩
          rw [hZ, hd2e, hn2e] at hre HI2
          rw [hd2e] at hd2
          rw [hn2e] at hm0 hm1
          clear F2 hZ hd2e hn2e hI hKQ
          obtain ⟨ts, la1, sb1, z2, c2, e3⟩ := x
          obtain ⟨vs, la2, sb2, z3, c3, e4⟩ := Z
          have HJ := Lib.hid hre.1
          clear hre
          go_wp2_with fail
          refine wp_region_pt 15 (fun w' => Rd encS w' (some ⟨sb0, so0, none⟩) scap us) (Plan.quiet 1 (Plan.quiet 2 (Plan.quiet 3 (Plan.quiet 4 (Plan.one 0 (Plan.one 5 (Plan.quiet 6 (Plan.quiet 7 (Plan.quiet 8 (Plan.quiet 9 (Plan.quiet 10 (Plan.one 11 (Plan.quiet 12 (Plan.quiet 13 (Plan.quiet 14 Plan.done))))))))))))))) (by kernel_rfl) (by kernel_rfl) (Rd.drew HK.out.rs) ?_
          refine wpPt_val rfl rfl ?_
          apply Exists.intro
          refine ⟨fun w' hS => ?_, ?_⟩
          focus (have cS := rdS_cell hS hu; simp [go_sem, ↓IntWalk.iteOmega, cS, hk0, hk3] <;> first | done | exact rfl | (rw [IntWalk.i64_in _ (by omega)]; exact rfl) | trace_state)
          refine wpPt_val rfl rfl ?_
          apply Exists.intro
          refine ⟨fun w' hS => ?_, ?_⟩
          focus (have cS := rdS_cell hS hu; simp [go_sem, ↓IntWalk.iteOmega, cS, hk0, hk3] <;> first | done | exact rfl | (rw [IntWalk.i64_in _ (by omega)]; exact rfl) | trace_state)
          refine wpPt_val rfl rfl ?_
          apply Exists.intro
          refine ⟨fun w' hS => ?_, ?_⟩
          focus (have cS := rdS_cell hS hu; simp [go_sem, ↓IntWalk.iteOmega, cS, hk0, hk3] <;> first | done | exact rfl | (rw [IntWalk.i64_in _ (by omega)]; exact rfl) | trace_state)
          refine wpPt_val rfl rfl ?_
          apply Exists.intro
          refine ⟨fun w' hS => ?_, ?_⟩
          focus (have cS := rdS_cell hS hu; simp [go_sem, ↓IntWalk.iteOmega, cS, hk0, hk3] <;> first | done | exact rfl | (rw [IntWalk.i64_in _ (by omega)]; exact rfl) | trace_state)
          refine wpPt_one rfl rfl (fun K hK => ?_)
          go_simp
          (try simp [go_sem, ↓IntWalk.iteOmega, rB])
          refine hK _ _ (fun hkn => (by repeat (first | (with_reducible exact HK.out.rs) | apply Rd.plus | apply Rd.drew | apply Rd.alloc))) ?_
          clear hK K
          refine wpPt_one rfl rfl (fun K hK => ?_)
          go_simp
          refine (HJ.out _ _ _ (by (try unfold RdP); repeat (first | (with_reducible exact HK.out.ra) | (with_reducible apply rd_seq) | (with_reducible apply Rd.plus) | (with_reducible apply Rd.alloc) | (with_reducible apply Rd.drew) | (with_reducible apply Rd.drewN)))).mono ?_
          rintro e w8 ⟨ta, tc, rfl, hown, x8, rfl⟩
          have f7 := free_of HK.out.blk
          have s7 := fun i v => setCell_patch HK.out.blk i v
          have H8 := Lib.hid (KQ.step (cur := #[.int .i64 o, .int .i64 l, .int .i64 m, .slice ta vs.length tc, .int .i64 b, .int .i64 la2, .string sb2, .int .i64 z3, .int .i64 c3, .int .i64 e4]) (t := 50) HK.out hown)
          clear hown
          refine hK _ _ (fun hkn => (by repeat (first | (with_reducible exact HK.out.rs) | apply Rd.plus | apply Rd.drew | apply Rd.alloc))) ?_
          clear hK K
          refine wpPt_val rfl rfl ?_
          apply Exists.intro
          refine ⟨fun w' hS => ?_, ?_⟩
          focus (have cS := rdS_cell hS hu; simp [go_sem, ↓IntWalk.iteOmega, cS, hk0, hk3] <;> first | done | exact rfl | (rw [IntWalk.i64_in _ (by omega)]; exact rfl) | trace_state)
          refine wpPt_val rfl rfl ?_
          apply Exists.intro
          refine ⟨fun w' hS => ?_, ?_⟩
          focus (have cS := rdS_cell hS hu; simp [go_sem, ↓IntWalk.iteOmega, cS, hk0, hk3] <;> first | done | exact rfl | (rw [IntWalk.i64_in _ (by omega)]; exact rfl) | trace_state)
          refine wpPt_val rfl rfl ?_
          apply Exists.intro
          refine ⟨fun w' hS => ?_, ?_⟩
          focus (have cS := rdS_cell hS hu; simp [go_sem, ↓IntWalk.iteOmega, cS, hk0, hk3] <;> first | done | exact rfl | (rw [IntWalk.i64_in _ (by omega)]; exact rfl) | trace_state)
          refine wpPt_val rfl rfl ?_
          apply Exists.intro
          refine ⟨fun w' hS => ?_, ?_⟩
          focus (have cS := rdS_cell hS hu; simp [go_sem, ↓IntWalk.iteOmega, cS, hk0, hk3] <;> first | done | exact rfl | (rw [IntWalk.i64_in _ (by omega)]; exact rfl) | trace_state)
          refine wpPt_val rfl rfl ?_
          apply Exists.intro
          refine ⟨fun w' hS => ?_, ?_⟩
          focus (have cS := rdS_cell hS hu; simp [go_sem, ↓IntWalk.iteOmega, cS, hk0, hk3] <;> first | done | exact rfl | (rw [IntWalk.i64_in _ (by omega)]; exact rfl) | trace_state)
          refine wpPt_one rfl rfl (fun K hK => ?_)
          go_simp
          refine hK _ _ (fun hkn => (by repeat (first | (with_reducible exact H8.out.rs) | apply Rd.plus | apply Rd.drew | apply Rd.alloc))) ?_
          clear hK K
          refine wpPt_val rfl rfl ?_
          apply Exists.intro
          refine ⟨fun w' hS => ?_, ?_⟩
          focus (have cS := rdS_cell hS hu; simp [go_sem, ↓IntWalk.iteOmega, cS, hk0, hk3] <;> first | done | exact rfl | (rw [IntWalk.i64_in _ (by omega)]; exact rfl) | trace_state)
          refine wpPt_val rfl rfl ?_
          apply Exists.intro
          refine ⟨fun w' hS => ?_, ?_⟩
          focus (have cS := rdS_cell hS hu; simp [go_sem, ↓IntWalk.iteOmega, cS, hk0, hk3] <;> first | done | exact rfl | (rw [IntWalk.i64_in _ (by omega)]; exact rfl) | trace_state)
          refine wpPt_val rfl rfl ?_
          apply Exists.intro
          refine ⟨fun w' hS => ?_, ?_⟩
          focus (have cS := rdS_cell hS hu; simp [go_sem, ↓IntWalk.iteOmega, cS, hk0, hk3] <;> first | done | exact rfl | (rw [IntWalk.i64_in _ (by omega)]; exact rfl) | trace_state)
          refine NoPanic.normal ?_
          go_wp2_with fail
          go_roundw
          case rel => exact .inl ⟨k + 1, _, _, _, ta, tc, HI2.out, rfl, rfl, rfl, by go_num, H8.out.more (by repeat (first | exact More.refl _ | apply More.plus | apply More.alloc | apply More.drew | apply More.drewN))⟩
          case measure => simp [intOf]; omega
        · have hTn := hI.fail hu (by omega)
          have hsb := rdv_bits hI.ok
          have hre := (reads_no (o := o) (l := l) (m := m) (ps := x.ps) (base := b) (last := x.last) (sb := x.sb) (z := x.z) (c := x.c) (e := x.e) (u := u) (by unfold maxLen; omega) (by unfold maxLen; omega) (.inr (by omega))).1
          clear hI hKQ
          obtain ⟨ts, la1, sb1, z2, c2, e3⟩ := x
          have HJ := Lib.hid hre
          clear hre
          go_wp2_with fail
          refine wp_region_pt 15 (fun w' => Rd encS w' (some ⟨sb0, so0, none⟩) scap us) (Plan.quiet 1 (Plan.quiet 2 (Plan.quiet 3 (Plan.quiet 4 (Plan.one 0 (Plan.one 5 (Plan.quiet 6 (Plan.quiet 7 (Plan.quiet 8 (Plan.quiet 9 (Plan.quiet 10 (Plan.one 11 (Plan.quiet 12 (Plan.quiet 13 (Plan.quiet 14 Plan.done))))))))))))))) (by kernel_rfl) (by kernel_rfl) (Rd.drew HK.out.rs) ?_
          refine wpPt_val rfl rfl ?_
          apply Exists.intro
          refine ⟨fun w' hS => ?_, ?_⟩
          focus (have cS := rdS_cell hS hu; simp [go_sem, ↓IntWalk.iteOmega, cS, hk0, hk3] <;> first | done | exact rfl | (rw [IntWalk.i64_in _ (by omega)]; exact rfl) | trace_state)
          refine wpPt_val rfl rfl ?_
          apply Exists.intro
          refine ⟨fun w' hS => ?_, ?_⟩
          focus (have cS := rdS_cell hS hu; simp [go_sem, ↓IntWalk.iteOmega, cS, hk0, hk3] <;> first | done | exact rfl | (rw [IntWalk.i64_in _ (by omega)]; exact rfl) | trace_state)
          refine wpPt_val rfl rfl ?_
          apply Exists.intro
          refine ⟨fun w' hS => ?_, ?_⟩
          focus (have cS := rdS_cell hS hu; simp [go_sem, ↓IntWalk.iteOmega, cS, hk0, hk3] <;> first | done | exact rfl | (rw [IntWalk.i64_in _ (by omega)]; exact rfl) | trace_state)
          refine wpPt_val rfl rfl ?_
          apply Exists.intro
          refine ⟨fun w' hS => ?_, ?_⟩
          focus (have cS := rdS_cell hS hu; simp [go_sem, ↓IntWalk.iteOmega, cS, hk0, hk3] <;> first | done | exact rfl | (rw [IntWalk.i64_in _ (by omega)]; exact rfl) | trace_state)
          refine wpPt_one rfl rfl (fun K hK => ?_)
          go_simp
          (try simp [go_sem, ↓IntWalk.iteOmega, rB])
          refine hK _ _ (fun hkn => (by repeat (first | (with_reducible exact HK.out.rs) | apply Rd.plus | apply Rd.drew | apply Rd.alloc))) ?_
          clear hK K
          refine wpPt_one rfl rfl (fun K hK => ?_)
          go_simp
          refine (HJ.out _ _ _ (by (try unfold RdP); repeat (first | (with_reducible exact HK.out.ra) | (with_reducible apply rd_seq) | (with_reducible apply Rd.plus) | (with_reducible apply Rd.alloc) | (with_reducible apply Rd.drew) | (with_reducible apply Rd.drewN)))).mono ?_
          rintro e w8 ⟨ta, tc, rfl, hown, x8, rfl⟩
          have f7 := free_of HK.out.blk
          have s7 := fun i v => setCell_patch HK.out.blk i v
          have H8 := Lib.hid (KQ.step (cur := #[.int .i64 0, .int .i64 0, .int .i64 0, .slice ta 0 tc, .int .i64 0, .int .i64 0, .string ⟨#[]⟩, .int .i64 0, .int .i64 0, .int .i64 0]) (t := 50) HK.out hown)
          clear hown
          refine hK _ _ (fun hkn => (by repeat (first | (with_reducible exact HK.out.rs) | apply Rd.plus | apply Rd.drew | apply Rd.alloc))) ?_
          clear hK K
          refine wpPt_val rfl rfl ?_
          apply Exists.intro
          refine ⟨fun w' hS => ?_, ?_⟩
          focus (have cS := rdS_cell hS hu; simp [go_sem, ↓IntWalk.iteOmega, cS, hk0, hk3] <;> first | done | exact rfl | (rw [IntWalk.i64_in _ (by omega)]; exact rfl) | trace_state)
          refine wpPt_val rfl rfl ?_
          apply Exists.intro
          refine ⟨fun w' hS => ?_, ?_⟩
          focus (have cS := rdS_cell hS hu; simp [go_sem, ↓IntWalk.iteOmega, cS, hk0, hk3] <;> first | done | exact rfl | (rw [IntWalk.i64_in _ (by omega)]; exact rfl) | trace_state)
          refine wpPt_val rfl rfl ?_
          apply Exists.intro
          refine ⟨fun w' hS => ?_, ?_⟩
          focus (have cS := rdS_cell hS hu; simp [go_sem, ↓IntWalk.iteOmega, cS, hk0, hk3] <;> first | done | exact rfl | (rw [IntWalk.i64_in _ (by omega)]; exact rfl) | trace_state)
          refine wpPt_val rfl rfl ?_
          apply Exists.intro
          refine ⟨fun w' hS => ?_, ?_⟩
          focus (have cS := rdS_cell hS hu; simp [go_sem, ↓IntWalk.iteOmega, cS, hk0, hk3] <;> first | done | exact rfl | (rw [IntWalk.i64_in _ (by omega)]; exact rfl) | trace_state)
          refine wpPt_val rfl rfl ?_
          apply Exists.intro
          refine ⟨fun w' hS => ?_, ?_⟩
          focus (have cS := rdS_cell hS hu; simp [go_sem, ↓IntWalk.iteOmega, cS, hk0, hk3] <;> first | done | exact rfl | (rw [IntWalk.i64_in _ (by omega)]; exact rfl) | trace_state)
          refine wpPt_one rfl rfl (fun K hK => ?_)
          go_simp
          refine hK _ _ (fun hkn => (by repeat (first | (with_reducible exact H8.out.rs) | apply Rd.plus | apply Rd.drew | apply Rd.alloc))) ?_
          clear hK K
          refine wpPt_val rfl rfl ?_
          apply Exists.intro
          refine ⟨fun w' hS => ?_, ?_⟩
          focus (have cS := rdS_cell hS hu; simp [go_sem, ↓IntWalk.iteOmega, cS, hk0, hk3] <;> first | done | exact rfl | (rw [IntWalk.i64_in _ (by omega)]; exact rfl) | trace_state)
          refine wpPt_val rfl rfl ?_
          apply Exists.intro
          refine ⟨fun w' hS => ?_, ?_⟩
          focus (have cS := rdS_cell hS hu; simp [go_sem, ↓IntWalk.iteOmega, cS, hk0, hk3] <;> first | done | exact rfl | (rw [IntWalk.i64_in _ (by omega)]; exact rfl) | trace_state)
          refine wpPt_val rfl rfl ?_
          apply Exists.intro
          refine ⟨fun w' hS => ?_, ?_⟩
          focus (have cS := rdS_cell hS hu; simp [go_sem, ↓IntWalk.iteOmega, cS, hk0, hk3] <;> first | done | exact rfl | (rw [IntWalk.i64_in _ (by omega)]; exact rfl) | trace_state)
          refine NoPanic.normal ?_
          go_wp2_with fail
          go_roundw
          case rel => exact .inr ⟨k + 1, hTn, rfl, by go_num, by omega, below_more (by repeat (first | (with_reducible exact H8.out.bel) | refine below_plus ?_ (by first | omega | (simp <;> omega)) _ | refine Below.alloc ?_ (by first | omega | (simp <;> omega)) _ | refine below_patch ?_ (by omega) _ | refine Below.drew ?_))⟩
          case measure => simp [intOf]; omega
      · obtain rfl : k = us.length := by omega
        have hT := hI.done
        have hn0 := hI.n0
        have hn1 := hI.n1
        have HK := Lib.hid hKQ
        have rB := cell_of HK.out.blk
        have zB := HK.out.lt
        have lB := HK.out.low
        have hbel := HK.out.bel
        clear hI hKQ
        go_wp2_with fail
        refine wp_region_pt 6 (fun w' => w'.heap[D]? = some (.cells #[.int .i64 o, .int .i64 l, .int .i64 m, .slice A x.ps.length cc, .int .i64 b, .int .i64 x.last, .string x.sb, .int .i64 x.z, .int .i64 x.c, .int .i64 x.e] 50 (0, 0))) (Plan.quiet 0 (Plan.quiet 1 (Plan.quiet 2 (Plan.quiet 3 (Plan.quiet 4 (Plan.quiet 5 (Plan.one 6 Plan.done))))))) (by kernel_rfl) (by kernel_rfl) (blk_drew HK.out.blk) ?_
        refine wpPt_val rfl rfl ?_
        apply Exists.intro
        refine ⟨fun w' hS => ?_, ?_⟩
        focus (have rS := cell_of hS; simp [go_sem, ↓IntWalk.iteOmega, rS] <;> first | done | exact rfl | (rw [IntWalk.i64_in _ (by omega)]; exact rfl) | trace_state)
        refine wpPt_val rfl rfl ?_
        apply Exists.intro
        refine ⟨fun w' hS => ?_, ?_⟩
        focus (have rS := cell_of hS; simp [go_sem, ↓IntWalk.iteOmega, rS] <;> first | done | exact rfl | (rw [IntWalk.i64_in _ (by omega)]; exact rfl) | trace_state)
        refine wpPt_val rfl rfl ?_
        apply Exists.intro
        refine ⟨fun w' hS => ?_, ?_⟩
        focus (have rS := cell_of hS; simp [go_sem, ↓IntWalk.iteOmega, rS] <;> first | done | exact rfl | (rw [IntWalk.i64_in _ (by omega)]; exact rfl) | trace_state)
        refine wpPt_val rfl rfl ?_
        apply Exists.intro
        refine ⟨fun w' hS => ?_, ?_⟩
        focus (have rS := cell_of hS; simp [go_sem, ↓IntWalk.iteOmega, rS] <;> first | done | exact rfl | (rw [IntWalk.i64_in _ (by omega)]; exact rfl) | trace_state)
        refine wpPt_val rfl rfl ?_
        apply Exists.intro
        refine ⟨fun w' hS => ?_, ?_⟩
        focus (have rS := cell_of hS; simp [go_sem, ↓IntWalk.iteOmega, rS] <;> first | done | exact rfl | (rw [IntWalk.i64_in _ (by omega)]; exact rfl) | trace_state)
        refine wpPt_val rfl rfl ?_
        apply Exists.intro
        refine ⟨fun w' hS => ?_, ?_⟩
        focus (have rS := cell_of hS; simp [go_sem, ↓IntWalk.iteOmega, rS] <;> first | done | exact rfl | (rw [IntWalk.i64_in _ (by omega)]; exact rfl) | trace_state)
        refine wpPt_one rfl rfl (fun K hK => ?_)
        go_simp
        refine hK _ _ (fun hkn => absurd hkn (by decide)) ?_
        clear hK K
        refine NoPanic.normal ?_
        go_wp2_with fail
        subst hT
        exact bodyPost_ret (v := .tuple #[.string d, .int .i64 x.e, .int .i64 n]) (by simp [results, Try.results43, go_sem, ↓IntWalk.iteOmega]) rfl ⟨rfl, below_more (by repeat (first | (with_reducible exact hbel) | refine below_plus ?_ (by first | omega | (simp <;> omega)) _ | refine Below.alloc ?_ (by first | omega | (simp <;> omega)) _ | refine below_patch ?_ (by omega) _ | refine Below.drew ?_))⟩
    · subst hT
      go_wp2_with fail
      all_goals exact bodyPost_ret (v := .tuple #[.string ⟨#[]⟩, .int .i64 4, .int .i64 0]) (by simp [results, Try.results43, go_sem, ↓IntWalk.iteOmega]) rfl ⟨rfl, (by repeat (first | exact More.refl _ | apply More.plus | apply More.alloc | apply More.drew | apply More.drewN))⟩

end Go.Proofs.Ytibfkfinghcpaaa

/- strings.Builder: writing a text. -/
namespace Go.Proofs.Ytibfkfinghcpaaa
open Go.RowKit
set_option linter.unusedVariables false
set_option linter.unusedSimpArgs false

theorem sizeBld : (Try.prog.info? 116).map (·.size) = some 2 := by kernel_rfl

set_option maxRecDepth 100000 in
set_option maxHeartbeats 1000000 in
theorem bld_used (b : Nat) (v : Value) (w : World) (hb : w.heap[b]? = some (.cells #[.pointer (some ⟨b, 0, none⟩), v] 116 (0, 0))) :
    Calls Try.prog 136 #[.pointer (some ⟨b, 0, none⟩)] w fun e w' => e = .returned (.tuple #[]) ∧ w' = w := by
  obtain ⟨j, hj, _⟩ := Option.map_eq_some_iff.1 sizeBld
  have r0 := cell_of hb
  go_enter Try.func136, Try.ntmps136
  go_wp2
  rw [Lib.run_neq_ptr_same w _ Try.underlying114 hj]
  go_wp2
  go_end0
  exact ⟨rfl, rfl⟩

set_option maxRecDepth 100000 in
set_option maxHeartbeats 1000000 in
theorem bld_fresh (b : Nat) (v : Value) (w : World) (hb : w.heap[b]? = some (.cells #[.pointer none, v] 116 (0, 0))) :
    Calls Try.prog 136 #[.pointer (some ⟨b, 0, none⟩)] w fun e w' => e = .returned (.tuple #[]) ∧ w' = patch w b (.cells #[.pointer (some ⟨b, 0, none⟩), v] 116 (0, 0)) := by
  obtain ⟨j, hj, hjs⟩ := Option.map_eq_some_iff.1 sizeBld
  have r0 := cell_of hb
  have f0 := free_of hb
  have s0 := fun i v => setCell_patch hb i v
  go_enter Try.func136, Try.ntmps136
  go_wp2
  have hsh : w.shape? b = some (116, 2) := by simp [World.shape?, hb]
  rw [Lib.run_to_unsafe w ⟨b, 0, none⟩ Try.underlying114 Try.underlying151 hj (by rw [hjs]; decide) hsh (Nat.zero_lt_succ 1)]
  simp only [Result.andThen]
  rw [Oper.upon_value]
  go_wp2
  rw [run_callFunc_extern Try.func144 (by kernel_rfl) (by kernel_rfl) (by kernel_rfl) (e := Extern.AbiNoEscape.same) (by kernel_rfl)]
  rw [Lib.run_noEscape]
  simp only [Result.andThen]
  rw [Oper.upon_value]
  go_wp2
  rw [Lib.run_from_unsafe w ⟨b, 0, none⟩ Try.underlying151 Try.underlying114 hj hsh (by kernel_rfl)]
  simp only [Result.andThen]
  rw [Oper.upon_value]
  go_wp2
  go_end0
  exact ⟨rfl, rfl⟩

theorem patch_same {w : World} {b : Nat} {o : Obj} (h : w.heap[b]? = some o) : patch w b o = w := by
  refine world_ext (fun k => ?_) rfl rfl rfl rfl
  rw [patch_heap]
  split
  · rename_i e
    subst e
    rw [if_pos (Array.getElem?_eq_some_iff.1 h).1]
    exact h.symm
  · rfl

theorem bld_check (b : Nat) (p v : Value) (hp : p = .pointer none ∨ p = .pointer (some ⟨b, 0, none⟩)) (w : World) (hb : w.heap[b]? = some (.cells #[p, v] 116 (0, 0))) :
    Calls Try.prog 136 #[.pointer (some ⟨b, 0, none⟩)] w fun e w' => e = .returned (.tuple #[]) ∧ w' = patch w b (.cells #[.pointer (some ⟨b, 0, none⟩), v] 116 (0, 0)) := by
  rcases hp with rfl | rfl
  · exact bld_fresh b v w hb
  · refine (bld_used b v w hb).mono ?_
    rintro e w' ⟨rfl, rfl⟩
    exact ⟨rfl, (patch_same hb).symm⟩

/-- what WriteString leaves -/
def RetWs (b : Nat) (xs : List UInt8) (A : Option Addr) (cap lo : Nat) (s : ByteArray) (w : World) (e : Ending) (w' : World) : Prop :=
  e = .returned (.tuple #[.int .i64 s.size, .nilIface]) ∧ ∃ (A' : Option Addr) (cap' : Nat) (w2 : World), Grew A (patch w b (.cells #[.pointer (some ⟨b, 0, none⟩), .slice A xs.length cap] 116 (0, 0))) w2 ∧
    w' = patch w2 b (.cells #[.pointer (some ⟨b, 0, none⟩), .slice A' (xs ++ s.data.toList).length cap'] 116 (0, 0)) ∧ Own encB 5 w2 A' cap' (xs ++ s.data.toList) lo ∧ Nxt A A' w.heap.size

set_option maxRecDepth 100000 in
set_option maxHeartbeats 1000000 in
theorem bld_write (b : Nat) (p : Value) (hp : p = .pointer none ∨ p = .pointer (some ⟨b, 0, none⟩)) (xs : List UInt8) (A : Option Addr) (cap lo : Nat) (s : ByteArray) (w : World) (hb : w.heap[b]? = some (.cells #[p, .slice A xs.length cap] 116 (0, 0))) (hown : Own encB 5 w A cap xs lo) (hoff : Off A b) (hlo : lo ≤ w.heap.size) (hsz : xs.length + s.size ≤ 140737488355328) :
    Calls Try.prog 95 #[.pointer (some ⟨b, 0, none⟩), .string s] w (RetWs b xs A cap lo s w) := by
  obtain ⟨i0, hi, hz0, hz1, hz2⟩ := info_parts infoByte
  have hlt : b < w.heap.size := (Array.getElem?_eq_some_iff.1 hb).1
  go_enter Try.func95, Try.ntmps95
  go_wp2_with fail
  refine (bld_check b p _ hp w hb).mono ?_
  rintro e w1 ⟨rfl, rfl⟩
  have h1 := patch_at w b (.cells #[.pointer (some ⟨b, 0, none⟩), .slice A xs.length cap] 116 (0, 0)) hlt
  have hown1 := own_patch (ob := .cells #[.pointer (some ⟨b, 0, none⟩), .slice A xs.length cap] 116 (0, 0)) hown hoff
  have r1 := cell_of h1
  go_wp2_with (at_builtin; refine wpList_append_str _ _ _ _ _ i0 rfl rfl Try.underlying22 Try.underlying9 hi hz0 hz1 hz2 xs A cap lo hown1 rfl s rfl hsz (by simp; omega) ?_; intro A6 c6 w6 hw6 hg6 hx6; have h6 := blk_grew hg6 h1 (fun X hX e => hoff X hX e); have r6 := cell_of h6; have f6 := free_of h6; have s6 := fun i v => setCell_patch h6 i v)
  refine bodyPost_ret (v := .tuple #[.int .i64 s.size, .nilIface]) (by simp [results, Try.results95, go_sem, ↓IntWalk.iteOmega]) rfl ⟨rfl, A6, c6, w6, hg6, (by simp), hw6, ?_⟩
  simpa using hx6

theorem bld_string (b : Nat) (p : Value) (hp : p = .pointer none ∨ p = .pointer (some ⟨b, 0, none⟩)) (xs : List UInt8) (A : Option Addr) (cap : Nat) (w : World) (hb : w.heap[b]? = some (.cells #[p, .slice A xs.length cap] 116 (0, 0))) (hown : Own encB 5 w A cap xs b) (hoff : Off A b) :
    Calls Try.prog 96 #[.pointer (some ⟨b, 0, none⟩)] w fun e w' => e = .returned (.string ⟨xs.toArray⟩) ∧ Below b w w' := by
  have hlt : b < w.heap.size := (Array.getElem?_eq_some_iff.1 hb).1
  have hfl : flat encB xs = Lib.byteCells xs := by rw [flatB]; simp [Lib.byteCells]
  have hr : w.ownsRow b 5 1 (.slice A xs.length cap) xs.length (Lib.byteCells xs) := by
    refine ⟨by simp [Lib.byteCells], ?_⟩
    rcases hown with ⟨rfl, rfl, rfl⟩ | ⟨g, cur, rfl, h1, h2, h3, h4, h5, h6⟩
    · exact .inl ⟨rfl, rfl⟩
    · refine .inr ⟨g, cap, cur, rfl, h1, h2, h5, by unfold maxLen; omega, by simpa [encB] using h3, ?_⟩
      have := row_take h4
      rw [hfl] at this
      exact this
  have ho : Value.ownBlock (.slice A xs.length cap) ≠ some b := by
    cases A with
    | none => intro h; cases h
    | some X => intro h; exact hoff X rfl (by simpa [Value.ownBlock] using h)
  have hl : (Lib.byteCells xs).length = xs.length := by simp [Lib.byteCells]
  refine Try.Builder_String_any b b xs w ?_ (by omega)
  rcases hp with rfl | rfl
  · exact .inl ⟨Nat.le_refl _, _, hb, by rw [hl]; exact hr, ho⟩
  · exact .inr ⟨Nat.le_refl _, _, hb, by rw [hl]; exact hr, ho⟩

end Go.Proofs.Ytibfkfinghcpaaa

/- The program's ReadAll. -/
namespace Go.Proofs.Ytibfkfinghcpaaa
open Go.RowKit
set_option linter.unusedVariables false
set_option linter.unusedSimpArgs false

set_option maxRecDepth 100000 in
set_option maxHeartbeats 2000000 in
theorem implReadAll_no (o l m : Int) (a : Option Addr) (cap : Nat) (ps : List Pr) (base last : Int) (sa : Option Addr) (scap : Nat) (us : List ByteArray) (w : World) (hr : RdP w a cap ps) (hk : kvb o l m ps base last = false) :
    Calls Try.prog 42 #[.agg #[.int .i64 o, .int .i64 l, .int .i64 m, .slice a ps.length cap, .int .i64 base, .int .i64 last], .slice sa us.length scap] w (Ret w (raV none)) := by
  have HR := Lib.hid (show Rd encP w a cap ps from hr)
  clear hr
  go_enter Try.func42, Try.ntmps42
  go_wp2_with fail
  refine (implNewReader_no o l m a cap ps base last _ (by (try unfold RdP); repeat (first | (with_reducible exact HR.out) | (with_reducible apply rd_seq) | (with_reducible apply Rd.plus) | (with_reducible apply Rd.alloc) | (with_reducible apply Rd.drew) | (with_reducible apply Rd.drewN))) hk).mono ?_
  rintro e w' ⟨rfl, x1, rfl⟩
  go_wp2_with fail
  exact bodyPost_ret (v := .tuple #[.string ⟨#[]⟩, .int .i64 4, .int .i64 0]) (by simp [results, Try.results42, go_sem, ↓IntWalk.iteOmega]) rfl ⟨rfl, (by repeat (first | exact More.refl _ | apply More.plus | apply More.alloc | apply More.drew | apply More.drewN))⟩

/-- the builder beside a reader's block -/
structure KU (w wr : World) (D b : Nat) (kb : Obj) (p : Value) (sa : Option Addr) (scap : Nat) (us : List ByteArray) (A : Option Addr) (c : Nat) (ts : List Pr) (xs : List UInt8) (G : Option Addr) (gc : Nat) : Prop where
  q : KQ w wr D kb sa scap us A c ts
  fit : ∀ Y, A = some Y → Y.block < wr.heap.size
  bld : wr.heap[b]? = some (.cells #[p, .slice G xs.length gc] 116 (0, 0))
  self : p = .pointer none ∨ p = .pointer (some ⟨b, 0, none⟩)
  row : Own encB 5 wr G gc xs b
  apart : ∀ Y Z, A = some Y → G = some Z → Y.block ≠ Z.block
  offb : ∀ Y, A = some Y → Y.block ≠ b
  offs : ∀ Y, sa = some Y → 0 < scap → Y.block < D
  offg : Off G b
  lt : D < b

theorem rd_grewR {α : Type} {E : Enc α} {A : Option Addr} {w w' : World} {a : Option Addr} {cap : Nat} {xs : List α} (h : Rd E w a cap xs) (hg : Grew A w w') (ha : ∀ X Y, A = some X → a = some Y → X.block ≠ Y.block) : Rd E w' a cap xs :=
  h.of_block fun Y hY hl => ⟨by have := hg.size; omega, hg.block _ hl fun X hX e => ha X Y hX hY e⟩

theorem rd_grewQ {α : Type} {E : Enc α} {w w' : World} {A a : Option Addr} {cap : Nat} {xs : List α} (h : Rd E w a cap xs) (hg : Grew A w w') (hb : ∀ X Y, A = some X → a = some Y → 0 < cap → X.block ≠ Y.block) : Rd E w' a cap xs := by
  rcases Nat.eq_zero_or_pos cap with h0 | h0
  · exact ⟨h.1, h.2.1, .inl h0⟩
  · exact rd_grewR h hg fun X Y hX hY => hb X Y hX hY h0

section
variable {w wr w' : World} {D b : Nat} {kb : Obj} {p : Value} {sa : Option Addr} {scap : Nat} {us : List ByteArray} {A : Option Addr} {c : Nat} {ts : List Pr} {xs : List UInt8} {G : Option Addr} {gc : Nat}

theorem KU.ltb (h : KU w wr D b kb p sa scap us A c ts xs G gc) : b < wr.heap.size := (Array.getElem?_eq_some_iff.1 h.bld).1

theorem KU.more (h : KU w wr D b kb p sa scap us A c ts xs G gc) (hm : More wr w') : KU w w' D b kb p sa scap us A c ts xs G gc := by
  have hq := h.q.more hm
  obtain ⟨x, rfl⟩ := hm
  exact ⟨hq, fun Y hY => by have := h.fit Y hY; simp; omega, blk_plus h.bld x, h.self, Own.plus h.row x, h.apart, h.offb, h.offs, h.offg, h.lt⟩

/-- the reader's block turned, and pairs of a call's own -/
theorem KU.step {x : Ext} {cur : Array Value} {t : TypeId} {pa2 : Option Addr} {pc2 : Nat} {vs : List Pr} (h : KU w wr D b kb p sa scap us A c ts xs G gc) (hown : Own encP 137 (Go.Proofs.Ytibfkfinghcpaaa.plus wr x) pa2 pc2 vs wr.heap.size) :
    KU w (Go.Proofs.Ytibfkfinghcpaaa.plus (patch wr D (.cells cur t)) x) D b (.cells cur t) p sa scap us pa2 pc2 vs xs G gc := by
  have hlo2 := own_lt hown
  have hlog := own_lt h.row
  have hltb := h.ltb
  have hlt := h.lt
  refine ⟨h.q.step hown, fun Y hY => by have := (hlo2 Y hY).2; simp at this ⊢; omega, blk_plus ((patch_other _ _ _ (by omega)).trans h.bld) x, h.self, Own.plus (own_patch h.row (fun X hX e => by have := (hlog X hX).1; omega)) x, fun Y Z hY hZ e => ?_, fun Y hY e => ?_, h.offs, h.offg, h.lt⟩
  · have := (hlo2 Y hY).1
    have := (hlog Z hZ).2
    omega
  · have := (hlo2 Y hY).1
    omega

/-- a text written -/
theorem KU.wrote {w2 : World} {s : ByteArray} {G' : Option Addr} {gc' : Nat} (h : KU w wr D b kb p sa scap us A c ts xs G gc) (hg : Grew G (patch wr b (.cells #[.pointer (some ⟨b, 0, none⟩), .slice G xs.length gc] 116 (0, 0))) w2)
    (hown : Own encB 5 w2 G' gc' (xs ++ s.data.toList) b) (hx : Nxt G G' wr.heap.size) :
    KU w (patch w2 b (.cells #[.pointer (some ⟨b, 0, none⟩), .slice G' (xs ++ s.data.toList).length gc'] 116 (0, 0))) D b kb (.pointer (some ⟨b, 0, none⟩)) sa scap us A c ts (xs ++ s.data.toList) G' gc' := by
  have hlog := own_lt h.row
  have hltb := h.ltb
  have hlt := h.lt
  have hlow := h.q.low
  have hsz := hg.size
  simp at hsz
  have hoff' : Off G' b := hx.off h.offg (by omega)
  refine ⟨⟨?_, ?_, ?_, h.q.off, ?_, h.q.low⟩, fun Y hY => by have := h.fit Y hY; simp; omega, patch_at _ _ _ (by omega), .inr rfl, own_patch hown hoff', fun Y Z hY hZ e => ?_, h.offb, h.offs, hoff', h.lt⟩
  · exact (patch_other _ _ _ (by omega)).trans (blk_grew hg ((patch_other _ _ _ (by omega)).trans h.q.blk) (fun X hX e => by have := (hlog X hX).1; omega))
  · exact rd_patchQ (rd_grewQ (rd_patchQ h.q.rs _ _ (fun Y hY hc => by have := h.offs Y hY hc; omega)) hg (fun X Y hX hY hc => by have := (hlog X hX).1; have := h.offs Y hY hc; omega)) _ _ (fun Y hY hc => by have := h.offs Y hY hc; omega)
  · exact rd_patchQ (rd_grewQ (rd_patchQ h.q.ra _ _ (fun Y hY hc => h.offb Y hY)) hg (fun X Y hX hY hc => (h.apart Y X hY hX).symm)) _ _ (fun Y hY hc => h.offb Y hY)
  · exact below_patch ((below_patch h.q.bel (by omega) _).trans (hg.below (B := w.heap.size) (by simp; omega) (fun X hX => by have := (hlog X hX).1; omega))) (by omega) _
  · rcases hx Z hZ with ⟨X, hX, he⟩ | he
    · exact h.apart Y X hY hX (by omega)
    · have := h.fit Y hY
      omega

end

set_option maxRecDepth 100000 in
set_option maxHeartbeats 4000000 in
theorem implReadAll_yes (o l m : Int) (a : Option Addr) (cap : Nat) (ps : List Pr) (b : Nat) (last : Int) (sa : Option Addr) (scap : Nat) (us : List ByteArray) (w : World) (hr : RdP w a cap ps) (hs : Rd encS w sa scap us) (hz : us.length + sumZ us ≤ 1048576) (hk : kvb o l m ps b last = true) (T : Option (Rdr × ByteArray × Int)) (hT : raL o l m b us (rd0 ps last) ⟨#[]⟩ 0 = T) :
    Calls Try.prog 42 #[.agg #[.int .i64 o, .int .i64 l, .int .i64 m, .slice a ps.length cap, .int .i64 b, .int .i64 last], .slice sa us.length scap] w (Ret w (raV T)) := by
  have HR := Lib.hid (show Rd encP w a cap ps from hr)
  have HS := Lib.hid hs
  have HLT := Lib.hid (fun Y hY hc => rd_lt hs Y hY hc)
  have hcap := hs.1
  have H0 := Lib.hid (RaI.zero (us := us) hk hT)
  clear hr hs hT
  go_enter Try.func42, Try.ntmps42
  go_wp2_with fail
  refine (implNewReader_yes o l m a cap ps b last _ (by (try unfold RdP); repeat (first | (with_reducible exact HR.out) | (with_reducible apply rd_seq) | (with_reducible apply Rd.plus) | (with_reducible apply Rd.alloc) | (with_reducible apply Rd.drew) | (with_reducible apply Rd.drewN))) hk).mono ?_
  rintro e w' ⟨a1, c1, rfl, hown, x1, rfl⟩
  have HQ := Lib.hid (show Rd encP _ a1 c1 ps from hown.rd)
  have hlo := own_lt hown
  simp at hlo
  clear hown
  go_wp2_with fail
  refine wp_nmQ (fun X => KU w X (w.heap.size + 1 + x1.n) (w.heap.size + 1 + x1.n + 1) (.cells #[.int .i64 o, .int .i64 l, .int .i64 m, .slice a1 ps.length c1, .int .i64 b, .int .i64 last, .string ⟨#[]⟩, .int .i64 0, .int .i64 0, .int .i64 1] 50 (0, 0)) (.pointer none) sa scap us a1 c1 ps [] none 0) ⟨⟨(by repeat (first | (with_reducible exact push_new _ _ _ rfl) | (with_reducible exact push_new _ _ _ (by simp)) | (with_reducible apply blk_plus) | (with_reducible apply blk_alloc) | (with_reducible apply blk_drew) | (with_reducible refine blk_patch ?_ (by omega)))), (by repeat (first | (with_reducible exact HS.out) | apply Rd.plus | apply Rd.alloc | apply Rd.drew)), (by (try unfold RdP); repeat (first | (with_reducible exact HQ.out) | (with_reducible apply rd_seq) | (with_reducible apply Rd.plus) | (with_reducible apply Rd.alloc) | (with_reducible apply Rd.drew) | (with_reducible apply Rd.drewN))), (fun Y hY hc => by have := HLT.out Y hY hc; omega), (by repeat (first | exact Below.refl _ _ | refine below_plus ?_ (by first | omega | (simp <;> omega)) _ | refine Below.alloc ?_ (by first | omega | (simp <;> omega)) _ | refine below_patch ?_ (by omega) _ | refine Below.drew ?_)), by omega⟩, (fun Y hY => by have := hlo Y hY; simp; omega), (by show _ = some (Obj.cells #[.pointer none, .slice none 0 0] 116 (0, 0)); exact (by repeat (first | (with_reducible exact push_new _ _ _ rfl) | (with_reducible exact push_new _ _ _ (by simp)) | (with_reducible apply blk_plus) | (with_reducible apply blk_alloc) | (with_reducible apply blk_drew) | (with_reducible refine blk_patch ?_ (by omega))))), .inl rfl, .inl ⟨rfl, rfl, rfl⟩, (fun _ _ _ h => by cases h), (fun Y hY => by have := hlo Y hY; omega), (fun Y hY hc => by have := HLT.out Y hY hc; omega), (fun X hX => by cases hX), by omega⟩ ?_
  generalize w.heap.size + 1 + x1.n + 1 = Bk
  generalize w.heap.size + 1 + x1.n = D
  intro X hX
  have HX := Lib.hid hX
  clear hX HQ HR HS HLT hlo
  go_loopw [10, 24] (fun q i wr => ∃ (k : Nat) (x : Rdr) (d : ByteArray) (n : Int) (A : Option Addr) (cc : Nat) (p : Value) (G : Option Addr) (gc : Nat), RaI o l m b us T k x d n ∧ q = .int .i64 n ∧ i = .int .i64 k ∧ KU w wr D Bk (.cells #[.int .i64 o, .int .i64 l, .int .i64 m, .slice A x.ps.length cc, .int .i64 b, .int .i64 x.last, .string x.sb, .int .i64 x.z, .int .i64 x.c, .int .i64 x.e] 50 (0, 0)) p sa scap us A cc x.ps d.data.toList G gc) (fun _ i _ => us.length - (intOf i).toNat)
  case atStart => exact ⟨0, rd0 ps last, ⟨#[]⟩, 0, a1, c1, _, none, 0, H0.out, rfl, rfl, HX.out⟩
  case round =>
    clear H0 HX
    obtain ⟨k, x, d, n, A, cc, p, G, gc, hI, rfl, rfl, hKU⟩ := hrel
    have hkl := hI.le
    have HK := Lib.hid hKU
    have rB := cell_of HK.out.q.blk
    have zB := HK.out.q.lt
    have zC := HK.out.ltb
    have lB := HK.out.q.low
    have lC := HK.out.lt
    have hn0 := hI.n0
    have hn1 := hI.n1
    have hdz := hI.dsz
    rcases dec (k < us.length) with ⟨hlt, blt⟩ | ⟨hlt, blt⟩
    · obtain ⟨u, hu⟩ : ∃ p, us[k]? = some p := ⟨us[k], List.getElem?_eq_getElem hlt⟩
      obtain ⟨sb0, so0, rfl⟩ := rdS_some hKU.q.rs (by omega)
      have cS := rdS_cell HK.out.q.rs hu
      have huz := sumZ_step us k u hu
      have hum := sumZ_mono us (k + 1)
      have hk0 : (0 : Int) ≤ (k : Int) := by omega
      have hk3 : (k : Int) < (us.length : Int) := by omega
      by_cases h4 : u.size ≤ 4000
      · have HI2 := Lib.hid (hI.step hu h4)
        have F2 := rfx (u := u) hI.ok h4
        have hm0 := F2.used0
        have hm1 := F2.used1
        have hre := F2.reads
        have hd2 := (hI.step hu h4).dsz
        rw [ByteArray.size_append] at hd2
        obtain ⟨Z, hZ⟩ : ∃ Z, rsX o l m b x u = Z := ⟨_, rfl⟩
        obtain ⟨d2, hd2e⟩ : ∃ Z, rsD o l m b x u = Z := ⟨_, rfl⟩
        obtain ⟨n2, hn2e⟩ : ∃ Z, rsU o l m b x u = Z := ⟨_, rfl⟩
        rw [hZ, hd2e, hn2e] at hre HI2
        rw [hd2e] at hd2
        rw [hn2e] at hm0 hm1
        clear F2 hZ hd2e hn2e hI hKU
        obtain ⟨ts, la1, sb1, z2, c2, e3⟩ := x
        obtain ⟨vs, la2, sb2, z3, c3, e4⟩ := Z
        have HJ := Lib.hid hre.2
        clear hre
        go_wp2_with fail
        refine (HJ.out _ _ _ (by (try unfold RdP); repeat (first | (with_reducible exact HK.out.q.ra) | (with_reducible apply rd_seq) | (with_reducible apply Rd.plus) | (with_reducible apply Rd.alloc) | (with_reducible apply Rd.drew) | (with_reducible apply Rd.drewN)))).mono ?_
        rintro e w8 ⟨ta, tc, rfl, hown, x8, rfl⟩
        have f7 := free_of HK.out.q.blk
        have s7 := fun i v => setCell_patch HK.out.q.blk i v
        have H8 := Lib.hid (KU.step (cur := #[.int .i64 o, .int .i64 l, .int .i64 m, .slice ta vs.length tc, .int .i64 b, .int .i64 la2, .string sb2, .int .i64 z3, .int .i64 c3, .int .i64 e4]) (t := 50) HK.out hown)
        clear hown
        go_wp2_with fail
        have hln : d.data.toList.length = d.size := by simp
        refine (bld_write Bk p H8.out.self _ _ _ Bk d2 _ H8.out.bld H8.out.row H8.out.offg (by have := H8.out.ltb; omega) (by omega)).mono ?_
        rintro e w9 ⟨rfl, G2, gc2, w2, hg, rfl, hown2, hx⟩
        have h9 := KU.wrote H8.out hg hown2 hx
        rw [show (d.data.toList ++ d2.data.toList).length = d.size + d2.size from by simp] at h9
        have H9 := Lib.hid h9
        clear hg hown2 hx h9
        go_wp2_with fail
        go_roundw
        case rel =>
          refine ⟨k + 1, _, _, _, ta, tc, .pointer (some ⟨Bk, 0, none⟩), G2, gc2, HI2.out, rfl, by go_num, ?_⟩
          rw [show (d ++ d2).data.toList = d.data.toList ++ d2.data.toList from by simp]
          exact H9.out.more (by repeat (first | exact More.refl _ | apply More.plus | apply More.alloc | apply More.drew | apply More.drewN))
        case measure => simp [intOf]; omega
      · have hTn := hI.fail hu (by omega)
        have hsb := rdv_bits hI.ok
        have hre := (reads_no (o := o) (l := l) (m := m) (ps := x.ps) (base := b) (last := x.last) (sb := x.sb) (z := x.z) (c := x.c) (e := x.e) (u := u) (by unfold maxLen; omega) (by unfold maxLen; omega) (.inr (by omega))).2
        clear hI hKU
        obtain ⟨ts, la1, sb1, z2, c2, e3⟩ := x
        have HJ := Lib.hid hre
        clear hre
        go_wp2_with fail
        refine (HJ.out _ _ _ (by (try unfold RdP); repeat (first | (with_reducible exact HK.out.q.ra) | (with_reducible apply rd_seq) | (with_reducible apply Rd.plus) | (with_reducible apply Rd.alloc) | (with_reducible apply Rd.drew) | (with_reducible apply Rd.drewN)))).mono ?_
        rintro e w8 ⟨ta, tc, rfl, hown, x8, rfl⟩
        have f7 := free_of HK.out.q.blk
        have s7 := fun i v => setCell_patch HK.out.q.blk i v
        have H8 := Lib.hid (KU.step (cur := #[.int .i64 0, .int .i64 0, .int .i64 0, .slice ta 0 tc, .int .i64 0, .int .i64 0, .string ⟨#[]⟩, .int .i64 0, .int .i64 0, .int .i64 0]) (t := 50) HK.out hown)
        clear hown
        go_wp2_with fail
        subst hTn
        exact bodyPost_ret (v := .tuple #[.string ⟨#[]⟩, .int .i64 4, .int .i64 0]) (by simp [results, Try.results42, go_sem, ↓IntWalk.iteOmega]) rfl ⟨rfl, below_more H8.out.q.bel⟩
    · obtain rfl : k = us.length := by omega
      have hT := hI.done
      clear hI hKU
      go_wp2_with fail
      refine wp_region_pt 6 (fun w' => w'.heap[D]? = some (.cells #[.int .i64 o, .int .i64 l, .int .i64 m, .slice A x.ps.length cc, .int .i64 b, .int .i64 x.last, .string x.sb, .int .i64 x.z, .int .i64 x.c, .int .i64 x.e] 50 (0, 0))) (Plan.quiet 1 (Plan.quiet 2 (Plan.quiet 3 (Plan.one 0 (Plan.quiet 4 (Plan.quiet 5 (Plan.one 6 Plan.done))))))) (by kernel_rfl) (by kernel_rfl) (blk_drew HK.out.q.blk) ?_
      refine wpPt_val rfl rfl ?_
      apply Exists.intro
      refine ⟨fun w' hS => ?_, ?_⟩
      focus (have rS := cell_of hS; simp [go_sem, ↓IntWalk.iteOmega, rS] <;> first | done | exact rfl | (rw [IntWalk.i64_in _ (by omega)]; exact rfl) | trace_state)
      refine wpPt_val rfl rfl ?_
      apply Exists.intro
      refine ⟨fun w' hS => ?_, ?_⟩
      focus (have rS := cell_of hS; simp [go_sem, ↓IntWalk.iteOmega, rS] <;> first | done | exact rfl | (rw [IntWalk.i64_in _ (by omega)]; exact rfl) | trace_state)
      refine wpPt_val rfl rfl ?_
      apply Exists.intro
      refine ⟨fun w' hS => ?_, ?_⟩
      focus (have rS := cell_of hS; simp [go_sem, ↓IntWalk.iteOmega, rS] <;> first | done | exact rfl | (rw [IntWalk.i64_in _ (by omega)]; exact rfl) | trace_state)
      refine wpPt_one rfl rfl (fun K hK => ?_)
      go_simp
      refine (bld_string Bk p HK.out.self _ _ _ _ (blk_drew HK.out.bld) (Own.drew HK.out.row) HK.out.offg).mono ?_
      rintro e w5 ⟨rfl, hbl5⟩
      have HB5 := Lib.hid hbl5
      clear hbl5
      refine hK _ _ (fun hkn => blk_below HB5.out (blk_drew HK.out.q.blk) (by omega)) ?_
      clear hK K
      refine wpPt_val rfl rfl ?_
      apply Exists.intro
      refine ⟨fun w' hS => ?_, ?_⟩
      focus (have rS := cell_of hS; simp [go_sem, ↓IntWalk.iteOmega, rS] <;> first | done | exact rfl | (rw [IntWalk.i64_in _ (by omega)]; exact rfl) | trace_state)
      refine wpPt_val rfl rfl ?_
      apply Exists.intro
      refine ⟨fun w' hS => ?_, ?_⟩
      focus (have rS := cell_of hS; simp [go_sem, ↓IntWalk.iteOmega, rS] <;> first | done | exact rfl | (rw [IntWalk.i64_in _ (by omega)]; exact rfl) | trace_state)
      refine wpPt_one rfl rfl (fun K hK => ?_)
      go_simp
      refine hK _ _ (fun hkn => absurd hkn (by decide)) ?_
      clear hK K
      refine NoPanic.normal ?_
      go_wp2_with fail
      subst hT
      exact bodyPost_ret (v := .tuple #[.string d, .int .i64 x.e, .int .i64 n]) (by simp [results, Try.results42, go_sem, ↓IntWalk.iteOmega]) rfl ⟨rfl, below_more ((Below.drew HK.out.q.bel).trans (HB5.out.mono (by omega)))⟩

end Go.Proofs.Ytibfkfinghcpaaa

/- Reading in parts is reading at once; in plain Lean. -/
namespace Go.Proofs.Ytibfkfinghcpaaa
open Go.RowKit
set_option linter.unusedVariables false
set_option linter.unusedSimpArgs false

/-- texts together -/
def jn : List ByteArray → ByteArray
  | [] => ⟨#[]⟩
  | u :: us => u ++ jn us

theorem app_nilJ (x : ByteArray) : x ++ ⟨#[]⟩ = x := ByteArray.ext (by simp)

theorem nil_appJ (x : ByteArray) : (⟨#[]⟩ : ByteArray) ++ x = x := ByteArray.ext (by simp)

theorem app_assoc3 (x y z : ByteArray) : x ++ y ++ z = x ++ (y ++ z) := ByteArray.ext (by simp)

theorem jn_size : ∀ us : List ByteArray, (jn us).size = sumZ us
  | [] => rfl
  | u :: us => by
    show (u ++ jn us).size = u.size + sumZ us
    rw [ByteArray.size_append, jn_size us]

theorem jn_step : ∀ (us : List ByteArray) (k : Nat) (u : ByteArray), us[k]? = some u → jn (us.take (k + 1)) = jn (us.take k) ++ u
  | [], k, u, h => by simp at h
  | v :: us, 0, u, h => by
    simp at h
    subst h
    show v ++ jn (us.take 0) = jn [] ++ v
    rw [List.take_zero]
    show v ++ ⟨#[]⟩ = ⟨#[]⟩ ++ v
    rw [app_nilJ, nil_appJ]
  | v :: us, k + 1, u, h => by
    show v ++ jn (us.take (k + 1)) = v ++ jn (us.take k) ++ u
    rw [jn_step us k u (by simpa using h), app_assoc3]

theorem raL_jn {o l m : Int} {b : Nat} {x : Rdr} (hx : Rdv o l m b x) : ∀ (us : List ByteArray) (P : ByteArray), (P ++ jn us).size ≤ 4000 →
    raL o l m b us (rsX o l m b x P) (rsD o l m b x P) (rsU o l m b x P) = some (rsX o l m b x (P ++ jn us), rsD o l m b x (P ++ jn us), rsU o l m b x (P ++ jn us))
  | [], P, h => by
    show some _ = some _
    rw [show jn [] = ⟨#[]⟩ from rfl, app_nilJ]
  | u :: us, P, h => by
    have e : P ++ jn (u :: us) = P ++ u ++ jn us := (app_assoc3 P u (jn us)).symm
    have hz : (P ++ u ++ jn us).size = P.size + u.size + (jn us).size := by rw [ByteArray.size_append, ByteArray.size_append]
    rw [e] at h ⊢
    have h3 := rsX_app (u := P) (v := u) hx (by rw [ByteArray.size_append]; omega)
    unfold raL
    rw [if_neg (by omega), ← h3.1, ← h3.2.1, ← h3.2.2]
    exact raL_jn hx us (P ++ u) h

/-- what is read from parts is what is unpacked from all of them -/
theorem raL_un {o l m : Int} {b : Nat} {ps : List Pr} {last : Int} (hk : kvb o l m ps b last = true) (us : List ByteArray) (h : (jn us).size ≤ 4000) :
    raV (raL o l m b us (rd0 ps last) ⟨#[]⟩ 0) = .tuple #[.string (bstr (unR o l m b ps last (jn us)).D), .int .i64 (unR o l m b ps last (jn us)).e, .int .i64 (usedV (jn us).size (unR o l m b ps last (jn us)))] := by
  have hx := rd0_ok hk
  have h1 := raL_jn hx us ⟨#[]⟩ (by rw [nil_appJ]; exact h)
  obtain ⟨n1, n2, n3⟩ := rsX_nil hx
  rw [n1, n2, n3, nil_appJ] at h1
  rw [h1]
  have hB : rsB o (rd0 ps last) (jn us) = unpL o (jn us).data.toList := by
    unfold rsB rd0
    simp
  have hR : rsR o l m b (rd0 ps last) (jn us) = unR o l m b ps last (jn us) := by
    unfold rsR unR
    rw [hB, unpL_len, bytes_len]
    rfl
  have he : (rd0 ps last).e = 1 := rfl
  have eX : (rsX o l m b (rd0 ps last) (jn us)).e = (unR o l m b ps last (jn us)).e := by
    unfold rsX
    rw [if_pos he, hR]
  have eD : rsD o l m b (rd0 ps last) (jn us) = bstr (unR o l m b ps last (jn us)).D := by
    unfold rsD
    rw [if_pos he, hR]
  have eU : rsU o l m b (rd0 ps last) (jn us) = usedV (jn us).size (unR o l m b ps last (jn us)) := by
    unfold rsU
    rw [if_pos he, hR]
    unfold usedI usedV
    have h0 : (rd0 ps last).sb.size = 0 := rfl
    rw [h0]
    split
    · rfl
    · omega
  unfold raV raD raE raN
  show Value.tuple #[.string (rsD o l m b (rd0 ps last) (jn us)), .int .i64 (rsX o l m b (rd0 ps last) (jn us)).e, .int .i64 (rsU o l m b (rd0 ps last) (jn us))] = _
  rw [eX, eD, eU]

end Go.Proofs.Ytibfkfinghcpaaa
