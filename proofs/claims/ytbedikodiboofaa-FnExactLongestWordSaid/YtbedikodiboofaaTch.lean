/- The walk of tree.child: the child of a node with a byte. -/
import Derived.Test.YtbedikodiboofaaTre
namespace Go.Proofs.Ytbedikodiboofaa
open Go.RowKit
set_option linter.unusedVariables false
set_option linter.unusedSimpArgs false

theorem kid_ix {l : Int} {ps : List Pr} {D : List (List UInt8 × Int)} {n : Nat} {N : List Nd} (hD : DI l ps D n) (ht : TN l D N) {p : Nat} {b r : Int} (h : Kid N p b r) (hb0 : 0 ≤ b) (hb1 : b ≤ 255)
    {wp : List UInt8} {cp : Int} (hp : D[p]? = some (wp, cp)) : ix D (wp ++ [UInt8.ofNat b.toNat]) = r := by
  rcases h.word hD ht (by omega) hb0 hb1 (by simpa using hp) with ⟨h1, h2⟩ | ⟨h1, c, h2⟩
  · rw [ix_no h2, h1]
  · rw [hD.ix h2]; omega

set_option maxHeartbeats 2000000 in
theorem child_any {t : Nat} {pa : Option Addr} {pc : Nat} {na : Option Addr} {nc : Nat} {qa : Option Addr} {qc : Nat} {o l m : Int} {ps : List Pr} {base last : Int} {N : List Nd} {pn : List Int} (p : Nat) (b : Int) (w : World)
    (h : Tk w t pa pc na nc qa qc o l m ps base last N pn) {wp : List UInt8} {cp : Int} (hp : (DD l ps ps.length)[p]? = some (wp, cp)) (hb0 : 0 ≤ b) (hb1 : b ≤ 255) :
    Calls Try.prog 104 #[.pointer (some ⟨t, 0, none⟩), .int .i64 p, .int .u8 b] w (Ret w (.int .i64 (ix (DD l ps ps.length) (wp ++ [UInt8.ofNat b.toNat])))) := by
  obtain ⟨l1, l2, l3, l4, t1, t2, t3, t4⟩ := h.lit
  obtain ⟨ht, c0, c1, c2, c3, c4, c5, c6, c7⟩ := h.at'.cells
  have hD := h.di
  obtain ⟨nl1, nl2⟩ := h.ti.bounds hD
  have hlen := h.len
  have hpl : p < N.length := by rw [h.ti.tn.len]; exact (List.getElem?_eq_some_iff.1 hp).1
  have hex : ∃ d, N[p]? = some d := ⟨_, List.getElem?_eq_getElem hpl⟩
  obtain ⟨d, hd⟩ := hex
  obtain ⟨nb, e1, e0, e2, e3, e4, e5, e6, n0, n1, n2, n3, n4, n5⟩ := h.at'.node hd
  subst e1
  have HX := Lib.hid (fun r (hk : Kid N p b r) => kid_ix hD h.ti.tn hk hb0 hb1 hp)
  have HS := Lib.hid (Seek.start h.ti.tn hd b)
  have HN := Lib.hid (fun i d (hi : N[i]? = some d) => (h.at'.node hi))
  have HT := Lib.hid h.ti.tn
  clear hD hp h hd e6 n0 n2 n3 n4 n5
  go_enter Try.func104, Try.ntmps104
  go_wp2
  go_loop [7] (fun q => ∃ n : Int, q = .int .i64 n ∧ Seek N p b n) (fun q => (intOf q + 1).toNat)
  case atStart => exact ⟨d.child, rfl, HS.out⟩
  case round =>
    obtain ⟨n, rfl, hsk⟩ := hrel
    obtain ⟨b1, b2⟩ := hsk.bd
    rcases dec (0 ≤ n) with ⟨g1, v1⟩ | ⟨g1, v1⟩
    · obtain ⟨d2, hd2, hp2⟩ := hsk.at g1
      obtain ⟨nb2, f1, f0, f2, f3, f4, f5, f6, m0, m1, m2, m3, m4, m5⟩ := HN.out _ _ hd2
      simp only [Option.some.injEq, Addr.mk.injEq, and_true] at f1
      subst f1
      by_cases hb : d2.last = b
      · have HK := Lib.hid (hsk.found g1 hd2 hb)
        have v2 : (d2.last != b) = false := by simp [hb]
        clear hsk hd2 hp2 f6 hb
        go_wp2
        go_ret
        exact ret_of (int_val (HX.out _ HK.out).symm) (by repeat (first | exact More.refl _ | apply More.plus | apply More.alloc | apply More.drew | apply More.drewN))
      · have HK := Lib.hid (hsk.next HT.out (by omega) g1 hd2 hb)
        have hk2 := HK.out.2
        have v2 : (d2.last != b) = true := by simp [hb]
        clear hsk hd2 hp2 f6 hb
        go_wp2
        go_round
        case rel => exact ⟨_, rfl, HK.out.1⟩
        case measure => simp [intOf]; omega
    · obtain ⟨k1, k2⟩ := hsk.none (by omega)
      have HK := Lib.hid k1
      clear hsk k1
      go_wp2
      go_ret
      exact ret_of (int_val (HX.out _ HK.out).symm) (by repeat (first | exact More.refl _ | apply More.plus | apply More.alloc | apply More.drew | apply More.drewN))

end Go.Proofs.Ytbedikodiboofaa
