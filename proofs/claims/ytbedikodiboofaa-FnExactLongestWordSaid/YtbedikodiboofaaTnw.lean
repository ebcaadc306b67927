/- The walk of newTree: the tree of what is known. -/
import Derived.Test.YtbedikodiboofaaTle
namespace Go.Proofs.Ytbedikodiboofaa
open Go.RowKit
set_option linter.unusedVariables false
set_option linter.unusedSimpArgs false

def rootsN (n : Nat) : List Nd := (List.range n).map fun (b : Nat) => Nd.mk (-1) (-1) (-1) (b : Int) (b : Int) (b : Int)

theorem rootsN_len (n : Nat) : (rootsN n).length = n := by simp [rootsN]

theorem rootsN_succ (n : Nat) : rootsN (n + 1) = rootsN n ++ [Nd.mk (-1) (-1) (-1) n n n] := by simp [rootsN, List.range_succ]

theorem rootsN_get {n i : Nat} {d : Nd} (h : (rootsN n)[i]? = some d) : i < n ∧ d = Nd.mk (-1) (-1) (-1) i i i := by
  have hl := (List.getElem?_eq_some_iff.1 h).1
  rw [rootsN_len] at hl
  refine ⟨hl, ?_⟩
  simp [rootsN, hl] at h
  exact h.symm

theorem TI_roots {l : Int} (h0 : 2 ≤ two l) (h1 : two l ≤ 256) : TI l [] (rootsN (two l).toNat) [] := by
  refine ⟨⟨?_, fun i d hd => ?_⟩, rfl, fun j i h => by simp at h⟩
  · show _ = (lits l).length
    rw [rootsN_len, lits_len]
  · obtain ⟨hi, rfl⟩ := rootsN_get hd
    refine ⟨[UInt8.ofNat i], i, lits_get (by omega), rfl, ?_, ?_, ⟨by show (0 : Int) ≤ (i : Int); omega, by show (i : Int) ≤ 255; omega⟩, .inl ⟨by omega, rfl, rfl⟩⟩
    · unfold Go.Proofs.Ytbedikodiboofaa.hd
      simp only [List.head?_cons, Option.getD_some, UInt8.toNat_ofNat']
      have : i % 256 = i := Nat.mod_eq_of_lt (by omega)
      exact congrArg Nat.cast this.symm
    · show (-1 : Int) = _
      rcases lastKid_spec (par (rootsN (two l).toNat)) (i : Int) (rootsN (two l).toNat).length with ⟨h, _⟩ | ⟨k, _, _, h3, _⟩
      · exact h.symm
      · exfalso
        obtain ⟨d, hd, hp⟩ := par_inv h3
        obtain ⟨_, rfl⟩ := rootsN_get hd
        simp at hp

theorem push_new (w : World) (o : Obj) (n : Nat) (h : n = w.heap.size) : (w.alloc o).heap[n]? = some o := by
  subst h
  rw [push_at, if_neg (Nat.lt_irrefl _), if_pos rfl]

/-- a lies from block B on -/
def Lo (a : Option Addr) (B : Nat) : Prop := ∀ A, a = some A → B ≤ A.block

theorem off_none (k : Nat) : Off none k := fun A h => by cases h

theorem lo_none (k : Nat) : Lo none k := fun A h => by cases h

theorem Lo.within {a a' : Option Addr} {B n : Nat} (h : Lo a B) (hw : Within a a' n) (hn : B ≤ n) : Lo a' B := fun X hX => by
  rcases hw X hX with ⟨Y, hY, he⟩ | he
  · have := h Y hY; omega
  · omega

theorem own_lo {α : Type} {E : Enc α} {e : TypeId} {w : World} {a : Option Addr} {cap : Nat} {xs : List α} {lo : Nat} (h : Own E e w a cap xs lo) : Lo a lo := fun A hA => (own_lt h A hA).1

theorem Turned.below {t : Nat} {pa na qa : Option Addr} {w w' : World} (h : Turned t pa na qa w w') {B : Nat} (hB : B ≤ w.heap.size) (ht : B ≤ t) (hp : Lo pa B) (hn : Lo na B) (hq : Lo qa B) : Below B w w' :=
  ⟨h.os, h.tape, h.output, h.size, fun k hk => h.block k (by omega) (by omega) (fun A hA => by have := hp A hA; omega) (fun A hA => by have := hn A hA; omega) (fun A hA => by have := hq A hA; omega)⟩

/-- what newTree leaves -/
def RetTree (o l m : Int) (ps : List Pr) (base last : Int) (w : World) (e : Ending) (w' : World) : Prop :=
  ∃ t pa pc na nc qa qc N pn, e = .returned (.pointer (some ⟨t, 0, none⟩)) ∧ Tk w' t pa pc na nc qa qc o l m ps base last N pn ∧ w.heap.size ≤ t ∧ Lo pa w.heap.size ∧ Lo na w.heap.size ∧ Lo qa w.heap.size ∧ ∃ x, w' = plus w x

theorem blk_below {B : Nat} {w w' : World} {k : Nat} {ob : Obj} (hb : Below B w w') (h : w.heap[k]? = some ob) (hk : k < B) : w'.heap[k]? = some ob := by
  rw [hb.block k hk]; exact h

set_option maxRecDepth 100000 in
set_option maxHeartbeats 4000000 in
theorem newTree_any (o l m : Int) (a : Option Addr) (cap : Nat) (ps : List Pr) (base last : Int) (w : World) (hr : RdP w a cap ps) (hs : sv o l m = true) (hok : OKs l ps) (hlen : ps.length ≤ 2000) :
    Calls Try.prog 71 #[.agg #[.int .i64 o, .int .i64 l, .int .i64 m, .slice a ps.length cap, .int .i64 base, .int .i64 last]] w (RetTree o l m ps base last w) := by
  obtain ⟨_, l1, l2, _, _⟩ := sv_iff.1 hs
  obtain ⟨t1, t2⟩ := two_lit l1 l2
  obtain ⟨i0, hi, iz0, iz1, iz2⟩ := info_parts infoNode
  obtain ⟨r1, r2, r3⟩ := hr.open
  have HOK := Lib.hid hok
  clear hok
  go_enter Try.func71, Try.ntmps71
  go_wp2_with (go_at_call 97; refine (ClearCode_yes _ _ _ hs _).mono ?_; rintro e w' ⟨rfl, xc, rfl⟩)
  go_loopw [17] (fun q wr => ∃ (k : Nat) (na : Option Addr) (nc : Nat), (k : Int) ≤ two l ∧ q = .int .i64 k ∧ Own encN 117 wr na nc (rootsN k) (w.heap.size + 2) ∧
      wr.heap[w.heap.size + 1]? = some (.cells #[.int .i64 o, .int .i64 l, .int .i64 m, .slice none 0 0, .int .i64 base, .int .i64 last, .slice na k nc, .slice none 0 0] 115 (0, 0)) ∧
      Below (w.heap.size + 1) (w.alloc (.cells #[.int .i64 o, .int .i64 l, .int .i64 m, .slice a ps.length cap, .int .i64 base, .int .i64 last] 31)) wr ∧ w.heap.size + 2 ≤ wr.heap.size) (fun q _ => (two l - intOf q).toNat)
  case atStart =>
    refine ⟨0, none, 0, by omega, rfl, .inl ⟨rfl, rfl, rfl⟩, ?_, ?_, ?_⟩
    · exact blk_plus (push_new _ _ _ (by simp)) _
    · exact (by repeat (first | exact Below.refl _ _ | refine below_plus ?_ (by first | omega | (simp <;> omega)) _ | refine Below.alloc ?_ (by first | omega | (simp <;> omega)) _ | refine below_patch ?_ (by omega) _ | refine Below.drew ?_))
    · simp
  case round =>
    obtain ⟨k, na, nc, hk, rfl, hown, hblk, hbl, hsz⟩ := hrel
    have HO := Lib.hid hown
    have HB := Lib.hid hblk
    have HL := Lib.hid hbl
    have rb := cell_of hblk
    have fb := free_of hblk
    have hrl := rootsN_len k
    have hrule := below_rule hbl
    have htl := (Array.getElem?_eq_some_iff.1 hblk).1
    rcases dec ((k : Int) < two l) with ⟨hlt, v1⟩ | ⟨hlt, v1⟩
    · clear hown hblk hbl
      go_wp2_with (at_builtin; refine wpList_append_at encN _ _ _ _ i0 _ 40 rfl rfl Try.underlying112 hi iz0 iz1 iz2 rfl (by decide) (rootsN k) na nc (w.heap.size + 2) (by repeat (first | (with_reducible exact HO.out) | (with_reducible apply Own.plus) | (with_reducible apply Own.alloc) | (with_reducible apply Own.drew))) (by rw [rootsN_len]; rfl) [Nd.mk (-1) (-1) (-1) k k k] _ 0 1 (new_cells encN (Nd.mk (-1) (-1) (-1) k k k) _ _ (by first | omega | rfl | (simp <;> omega) | (simp only [List.length_cons, List.length_nil, plus_size, World.size_alloc]; omega))) rfl (by rw [rootsN_len]; simp; omega) (by rw [rootsN_len]; simp; omega) (by simp; omega) ?_; intro na' nc' w3 hn3 hg3 hx3; have HN3 := Lib.hid hn3; have HG3 := Lib.hid hg3; have hz3 := hg3.size; simp at hz3; have HB3 := Lib.hid (blk_grew hg3 (by repeat (first | (with_reducible exact HB.out) | (with_reducible apply blk_seq) | (with_reducible apply blk_plus) | (with_reducible apply blk_alloc) | (with_reducible apply blk_drew) | (with_reducible refine blk_patch ?_ (by omega)) | exact HB.out)) (fun A hA e => by have := own_lo HO.out A hA; omega)); have s3 := fun v => setCell_patch HB3.out 6 v; have f3 := free_of HB3.out; have r3 := cell_of HB3.out; clear hn3 hg3 hx3)
      go_roundw
      case rel =>
        refine ⟨k + 1, na', nc', by omega, by go_num, ?_, patch_at _ _ _ (by omega), HL.out.trans (below_patch ((Below.alloc (Below.refl _ _) (by omega) _).trans (HG3.out.below (by simp; omega) (fun A hA => by have := own_lo HO.out A hA; omega))) (by omega) _), by simp; omega⟩
        rw [rootsN_succ]
        exact own_patch HN3.out (fun A hA e => by have := own_lo HN3.out A hA; omega)
      case measure => simp [intOf]; omega
    · obtain rfl : k = (two l).toNat := by omega
      clear hown hblk hbl
      go_wp2
      go_loopw [39] (fun q wr => ∃ (j : Nat) (pa : Option Addr) (pc : Nat) (na : Option Addr) (nc : Nat) (qa : Option Addr) (qc : Nat) (N : List Nd) (pn : List Int), j ≤ ps.length ∧ q = .int .i64 j ∧
          Tk wr (w.heap.size + 1) pa pc na nc qa qc o l m (ps.take j) base last N pn ∧ (Lo pa (w.heap.size + 1) ∧ Lo na (w.heap.size + 1) ∧ Lo qa (w.heap.size + 1)) ∧
          Below (w.heap.size + 1) (w.alloc (.cells #[.int .i64 o, .int .i64 l, .int .i64 m, .slice a ps.length cap, .int .i64 base, .int .i64 last] 31)) wr ∧ w.heap.size + 2 ≤ wr.heap.size) (fun q _ => ps.length - (intOf q).toNat)
      case atStart =>
        refine ⟨0, none, 0, na, nc, none, 0, rootsN (two l).toNat, [], by omega, rfl, ⟨hs, nil_ok, by simp, ⟨?_, .inl ⟨rfl, rfl, rfl⟩, HO.out.lower (by omega), .inl ⟨rfl, rfl, rfl⟩, off_none _, fun A hA e => (by have := own_lo HO.out A hA; omega), off_none _, fun A hA => absurd hA (by simp), fun A hA => absurd hA (by simp), fun A _ => off_none _⟩, TI_roots t1 t2⟩, ⟨lo_none _, fun A hA => (by have := own_lo HO.out A hA; omega), lo_none _⟩, HL.out, hsz⟩
        rw [rootsN_len]
        exact HB.out
      case round =>
        obtain ⟨j, pa, pc, na2, nc2, qa, qc, N, pn, hj, rfl, htk, ⟨lp, ln, lq⟩, hbl2, hsz2⟩ := hrel
        have HT := Lib.hid htk
        have HL2 := Lib.hid hbl2
        have HLP := Lib.hid lp
        have HLN := Lib.hid ln
        have HLQ := Lib.hid lq
        have hrule2 := below_rule hbl2
        have hblk2 := blk_below hbl2 (push_new w _ _ rfl) (Nat.lt_succ_self _)
        have rk2 := cell_of hblk2
        have htj : (ps.take j).length ≤ 2000 := by simp; omega
        clear htk hbl2 lp ln lq hblk2 hrule rb fb
        rcases dec (j < ps.length) with ⟨hlt2, v2⟩ | ⟨hlt2, v2⟩
        · have hex : ∃ p, ps[j]? = some p := ⟨_, List.getElem?_eq_getElem hlt2⟩
          obtain ⟨p, hp⟩ := hex
          rcases r3 with rfl | ⟨b, off, rfl, hb, hc⟩
          · exact absurd hlt2 (by omega)
          obtain ⟨c1, c2⟩ := hc j p hp
          have HPO := Lib.hid (show okP l (ps.take j).length p by rw [List.length_take, Nat.min_eq_left (by omega)]; exact HOK.out j p hp)
          have HPJ := Lib.hid (take_snoc_some hp).symm
          have htj2 : (ps.take j).length < 2000 := by simp; omega
          clear hp hc
          go_wp2_with fail
          refine (learn_any p _ (by repeat (first | (with_reducible exact HT.out) | (with_reducible apply Tk.plus) | (with_reducible apply Tk.alloc) | (with_reducible apply Tk.drew))) HPO.out htj2).mono ?_
          rintro e w4 ⟨rfl, pa', pc', na', nc', qa', qc', N', pn', htk', htu, hwp, hwn, hwq⟩
          simp only [World.size_alloc, plus_size] at hwp hwn hwq
          have HTK := Lib.hid htk'
          have HTU := Lib.hid htu
          have HWP := Lib.hid (HLP.out.within hwp (by omega))
          have HWN := Lib.hid (HLN.out.within hwn (by omega))
          have HWQ := Lib.hid (HLQ.out.within hwq (by omega))
          have hz4 := htu.size
          simp at hz4
          clear htk' htu hwp hwn hwq
          rw [HPJ.out] at HTK
          go_wp2
          go_roundw
          case rel =>
            exact ⟨j + 1, pa', pc', na', nc', qa', qc', N', pn', by omega, by go_num, HTK.out, ⟨HWP.out, HWN.out, HWQ.out⟩, HL2.out.trans ((show Below (w.heap.size + 1) wr _ from (by repeat (first | exact Below.refl _ _ | refine below_plus ?_ (by first | omega | (simp <;> omega)) _ | refine Below.alloc ?_ (by first | omega | (simp <;> omega)) _ | refine below_patch ?_ (by omega) _ | refine Below.drew ?_))).trans (HTU.out.below (by simp; omega) (by omega) HLP.out HLN.out HLQ.out)), by omega⟩
          case measure => simp [intOf]; omega
        · have hjj : j = ps.length := by omega
          go_wp2
          go_ret
          refine ⟨w.heap.size + 1, pa, pc, na2, nc2, qa, qc, N, pn, rfl, ?_, by omega, fun A hA => by have := HLP.out A hA; omega, fun A hA => by have := HLN.out A hA; omega, fun A hA => by have := HLQ.out A hA; omega, below_more (Below.trans (Below.alloc (Below.refl _ _) (Nat.le_refl _) _) (HL2.out.mono (by omega)))⟩
          have := HT.out
          rw [hjj, List.take_length] at this
          exact this

end Go.Proofs.Ytbedikodiboofaa
