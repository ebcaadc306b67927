/- The program's reading of pairs and settings. -/
import Derived.Test.YtmddcbebaijjkaaGreatDoorPib
namespace Go.Proofs.YtmddcbebaijjkaaGreatDoor
open Go.RowKit
set_option linter.unusedVariables false
set_option linter.unusedSimpArgs false

theorem Sml.i64 {n : Int} (h : Sml n) : I64 n := ⟨by have := h.1; omega, by have := h.2; omega⟩

theorem decB_ne {n : Int} {c : UInt8} (h1 : c.toNat ≠ 45) (h2 : c.toNat < 48 ∨ 57 < c.toNat) : ∀ z ∈ (decB n).data.toList, z ≠ c := by
  intro z hz e
  subst e
  rcases decB_byte hz with h | h <;> omega

/-- what reading a pair gives -/
def RetPp (w : World) (t : ByteArray) (e : Ending) (w' : World) : Prop := ∃ (n1 n2 : Int) (ok : Bool), e = .returned (.tuple #[.agg #[.int .i64 n1, .int .i64 n2], .bool ok]) ∧ More w w' ∧ (ok = true → t = prT ⟨n1, n2⟩) ∧ ∀ q : Pr, I64 q.p → I64 q.b → t = prT q → n1 = q.p ∧ n2 = q.b ∧ ok = true

theorem pp_yes {t x y : ByteArray} {n1 n2 : Int} {ok1 ok2 : Bool} (h : t = x ++ (⟨#[46]⟩ : ByteArray) ++ y) (h1 : ok1 = true → x = decB n1 ∧ I64 n1) (h2 : ok2 = true → y = decB n2 ∧ I64 n2) (h3 : ok1 = true) (h4 : ok2 = true) : t = prT ⟨n1, n2⟩ := by
  rw [h, (h1 h3).1, (h2 h4).1]; rfl

theorem pp_uni {t x y : ByteArray} {n1 n2 : Int} {ok1 ok2 : Bool} (hc : ∀ a b : ByteArray, (∀ z ∈ a.data.toList, z ≠ 46) → t = a ++ (⟨#[46]⟩ : ByteArray) ++ b → x = a ∧ y = b)
    (g1 : ∀ k, I64 k → x = decB k → n1 = k ∧ ok1 = true) (g2 : ∀ k, I64 k → y = decB k → n2 = k ∧ ok2 = true) : ∀ q : Pr, I64 q.p → I64 q.b → t = prT q → n1 = q.p ∧ n2 = q.b ∧ ok1 = true ∧ ok2 = true := by
  intro q hp hb ht
  obtain ⟨h1, h2⟩ := hc (decB q.p) (decB q.b) (decB_ne (by decide) (by decide)) ht
  obtain ⟨h3, h4⟩ := g1 q.p hp h1
  obtain ⟨h5, h6⟩ := g2 q.b hb h2
  exact ⟨h3, h5, h4, h6⟩

set_option maxRecDepth 100000 in
set_option maxHeartbeats 2000000 in
theorem parsePair_any (t : ByteArray) (w : World) (hs : t.size ≤ 1048576) (hl : Lw w) : Calls Tryz.prog 70 #[.string t] w (RetPp w t) := by
  have HL := Lib.hid hl
  clear hl
  go_enter Tryz.func70, Tryz.ntmps70
  go_wp2_with fail
  refine (Cut_any t 46 _ hs).mono ?_
  rintro e w' ⟨x, y, ok, rfl, ⟨x0, rfl⟩, hx, hy, hc1, hc2⟩
  have HC1 := Lib.hid hc1
  have HC2 := Lib.hid hc2
  clear hc1 hc2
  cases ok
  · go_wp2_with fail
    refine bodyPost_ret (v := .tuple #[.agg #[.int .i64 0, .int .i64 0], .bool false]) (by simp [results, Tryz.results70, go_sem, ↓IntWalk.iteOmega]) rfl ⟨0, 0, false, rfl, below_more (by repeat (first | exact Below.refl _ _ | refine below_plus ?_ (by first | omega | (simp <;> omega)) _ | refine Below.alloc ?_ (by first | omega | (simp <;> omega)) _ | refine below_patch ?_ (by omega) _ | refine Below.drew ?_)), fun h => by (cases h), fun q hp hb ht => ?_⟩
    obtain ⟨_, _, h3⟩ := HC2.out (decB q.p) (decB q.b) (decB_ne (by decide) (by decide)) ht
    cases h3
  · have HE := Lib.hid (HC1.out rfl)
    have HC3 := Lib.hid (fun a b h1 h2 => (⟨(HC2.out a b h1 h2).1, (HC2.out a b h1 h2).2.1⟩ : x = a ∧ y = b))
    clear HC1 HC2
    go_wp2_with fail
    refine (parseNumber_any x _ (by omega) (by repeat (first | (with_reducible exact HL.out) | (with_reducible apply lwq_seq) | (with_reducible apply Lw.plus) | (with_reducible apply Lw.alloc) | (with_reducible apply Lw.drew)))).mono ?_
    rintro e w' ⟨n1, ok1, rfl, ⟨x1, rfl⟩, h1, g1⟩
    have H1 := Lib.hid h1
    have G1 := Lib.hid g1
    clear h1 g1
    go_wp2_with fail
    refine (parseNumber_any y _ (by omega) (HL.out.below (by repeat (first | exact Below.refl _ _ | refine below_plus ?_ (by first | omega | (simp <;> omega)) _ | refine Below.alloc ?_ (by first | omega | (simp <;> omega)) _ | refine below_patch ?_ (by omega) _ | refine Below.drew ?_)))).mono ?_
    rintro e w' ⟨n2, ok2, rfl, ⟨x2, rfl⟩, h2, g2⟩
    have H2 := Lib.hid h2
    have G2 := Lib.hid g2
    clear h2 g2
    have HP := Lib.hid (fun a b => pp_yes (ok1 := ok1) (ok2 := ok2) HE.out H1.out H2.out a b)
    have HU := Lib.hid (pp_uni HC3.out G1.out G2.out)
    clear HC3 G1 G2 H1 H2
    cases ok1
    · go_wp2_with fail
      exact bodyPost_ret (v := .tuple #[.agg #[.int .i64 n1, .int .i64 n2], .bool false]) (by simp [results, Tryz.results70, go_sem, ↓IntWalk.iteOmega]) rfl ⟨n1, n2, false, rfl, below_more (by repeat (first | exact Below.refl _ _ | refine below_plus ?_ (by first | omega | (simp <;> omega)) _ | refine Below.alloc ?_ (by first | omega | (simp <;> omega)) _ | refine below_patch ?_ (by omega) _ | refine Below.drew ?_)), fun h => by (cases h), fun q hp hb ht => by obtain ⟨_, _, h3, _⟩ := HU.out q hp hb ht; cases h3⟩
    · cases ok2
      · go_wp2_with fail
        exact bodyPost_ret (v := .tuple #[.agg #[.int .i64 n1, .int .i64 n2], .bool false]) (by simp [results, Tryz.results70, go_sem, ↓IntWalk.iteOmega]) rfl ⟨n1, n2, false, rfl, below_more (by repeat (first | exact Below.refl _ _ | refine below_plus ?_ (by first | omega | (simp <;> omega)) _ | refine Below.alloc ?_ (by first | omega | (simp <;> omega)) _ | refine below_patch ?_ (by omega) _ | refine Below.drew ?_)), fun h => by (cases h), fun q hp hb ht => by obtain ⟨_, _, _, h3⟩ := HU.out q hp hb ht; cases h3⟩
      · go_wp2_with fail
        exact bodyPost_ret (v := .tuple #[.agg #[.int .i64 n1, .int .i64 n2], .bool true]) (by simp [results, Tryz.results70, go_sem, ↓IntWalk.iteOmega]) rfl ⟨n1, n2, true, rfl, below_more (by repeat (first | exact Below.refl _ _ | refine below_plus ?_ (by first | omega | (simp <;> omega)) _ | refine Below.alloc ?_ (by first | omega | (simp <;> omega)) _ | refine below_patch ?_ (by omega) _ | refine Below.drew ?_)), fun _ => (by first | exact HP.out trivial trivial | exact HP.out rfl rfl | exact HP.out), fun q hp hb ht => by obtain ⟨h1, h2, _, _⟩ := HU.out q hp hb ht; exact ⟨h1, h2, rfl⟩⟩

end Go.Proofs.YtmddcbebaijjkaaGreatDoor
