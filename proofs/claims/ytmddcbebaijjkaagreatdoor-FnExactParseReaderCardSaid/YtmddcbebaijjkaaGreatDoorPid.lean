/- The program's reading of settings. -/
import Derived.Test.YtmddcbebaijjkaaGreatDoorPic
namespace Go.Proofs.YtmddcbebaijjkaaGreatDoor
open Go.RowKit
set_option linter.unusedVariables false
set_option linter.unusedSimpArgs false

theorem joinB_three (s a b c : ByteArray) : joinB s [a, b, c] = a ++ s ++ b ++ s ++ c := by
  show a ++ s ++ (b ++ s ++ c) = _
  simp only [ByteArray.append_assoc]

/-- an order's text -/
def ordT (o : Int) : ByteArray := if o = 1 then ⟨#[104, 105, 103, 104]⟩ else ⟨#[108, 111, 119]⟩

theorem setT_join (o l m : Int) : setT o l m = joinB ⟨#[32]⟩ [ordT o, decB l, decB m] := by rw [joinB_three]; rfl

theorem setT_cut (o l m : Int) : cutB 32 (setT o l m) = [ordT o, decB l, decB m] := by
  rw [setT_join]
  refine cutB_joinB (by simp) (fun x hx => ?_)
  simp only [List.mem_cons, List.not_mem_nil, or_false] at hx
  rcases hx with rfl | rfl | rfl
  · intro y hy
    unfold ordT at hy
    split at hy
    · have : ∀ y ∈ [(104 : UInt8), 105, 103, 104], y ≠ 32 := by decide
      exact this y hy
    · have : ∀ y ∈ [(108 : UInt8), 111, 119], y ≠ 32 := by decide
      exact this y hy
  · exact decB_ne (by decide) (by decide)
  · exact decB_ne (by decide) (by decide)

theorem three_of {α : Type} : ∀ {xs : List α}, xs.length = 3 → ∃ a b c, xs = [a, b, c]
  | [a, b, c], _ => ⟨a, b, c, rfl⟩

theorem four_of {α : Type} : ∀ {xs : List α}, xs.length = 4 → ∃ a b c d, xs = [a, b, c, d]
  | [a, b, c, d], _ => ⟨a, b, c, d, rfl⟩

/-- what reading a setting gives -/
def RetPs (w : World) (t : ByteArray) (e : Ending) (w' : World) : Prop := ∃ (o l m : Int) (ok : Bool), e = .returned (.tuple #[.agg #[.int .i64 o, .int .i64 l, .int .i64 m], .bool ok]) ∧ More w w' ∧ (ok = true → sv o l m = true ∧ t = setT o l m) ∧ ∀ o' l' m', sv o' l' m' = true → t = setT o' l' m' → o = o' ∧ l = l' ∧ m = m' ∧ ok = true

theorem ps_hit {t : ByteArray} {f0 f1 f2 : ByteArray} (hx : cutB 32 t = [f0, f1, f2]) : (∀ o l m, t = setT o l m → f0 = ordT o ∧ f1 = decB l ∧ f2 = decB m) ∧ t = joinB ⟨#[32]⟩ [f0, f1, f2] := by
  refine ⟨fun o l m ht => ?_, by rw [← hx, joinB_cutB]⟩
  rw [ht, setT_cut] at hx
  injection hx with h1 h2
  injection h2 with h2 h3
  injection h3 with h3 h4
  exact ⟨h1.symm, h2.symm, h3.symm⟩

theorem ps_miss {t : ByteArray} (hx : (cutB 32 t).length ≠ 3) (o l m : Int) : t ≠ setT o l m := by
  intro h
  rw [h, setT_cut] at hx
  exact hx rfl

theorem sv_i64 {o l m : Int} (h : sv o l m = true) : I64 l ∧ I64 m := by
  obtain ⟨_, h1, h2, h3, h4⟩ := sv_iff.1 h
  exact ⟨⟨by omega, by omega⟩, ⟨by omega, by omega⟩⟩

theorem ps_bad {t f0 f1 f2 : ByteArray} (hx : cutB 32 t = [f0, f1, f2]) (h : f0 ≠ ⟨#[108, 111, 119]⟩) (h2 : f0 ≠ ⟨#[104, 105, 103, 104]⟩) (o l m : Int) : t ≠ setT o l m := by
  intro ht
  obtain ⟨h3, _⟩ := (ps_hit hx).1 o l m ht
  unfold ordT at h3
  split at h3
  · exact h2 h3
  · exact h h3

theorem ps_uni {t f1 f2 : ByteArray} {k n1 n2 : Int} {ok1 ok2 : Bool} (hk : k = 0 ∨ k = 1) (hx : cutB 32 t = [ordT k, f1, f2]) (h1 : ok1 = true → f1 = decB n1 ∧ I64 n1) (h2 : ok2 = true → f2 = decB n2 ∧ I64 n2)
    (g1 : ∀ k, I64 k → f1 = decB k → n1 = k ∧ ok1 = true) (g2 : ∀ k, I64 k → f2 = decB k → n2 = k ∧ ok2 = true) :
    (ok1 = true → ok2 = true → t = setT k n1 n2) ∧ ∀ o l m, sv o l m = true → t = setT o l m → k = o ∧ n1 = l ∧ n2 = m ∧ ok1 = true ∧ ok2 = true := by
  obtain ⟨ha, hb⟩ := ps_hit hx
  refine ⟨fun a b => ?_, fun o l m hs ht => ?_⟩
  · rw [hb, (h1 a).1, (h2 b).1, setT_join]
  · obtain ⟨e1, e2, e3⟩ := ha o l m ht
    obtain ⟨i1, i2⟩ := sv_i64 hs
    obtain ⟨h3, h4⟩ := g1 l i1 e2
    obtain ⟨h5, h6⟩ := g2 m i2 e3
    refine ⟨?_, h3, h5, h4, h6⟩
    have ho := (sv_iff.1 hs).1
    unfold ordT at e1
    rcases hk with rfl | rfl <;> rcases ho with rfl | rfl <;> first | rfl | (exfalso; exact absurd e1 (by decide))

set_option maxRecDepth 100000 in
set_option maxHeartbeats 4000000 in
theorem ParseSetting_any (t : ByteArray) (w : World) (hs : t.size ≤ 1048576) (hl : Lw w) : Calls Tryz.prog 69 #[.string t] w (RetPs w t) := by
  have HL := Lib.hid hl
  clear hl
  have hlim := cutB_lim 32 t
  have hmem := fun x => cutB_mem (c := 32) (s := t) (x := x)
  obtain ⟨xs, hxs⟩ : ∃ xs, cutB 32 t = xs := ⟨_, rfl⟩
  rw [hxs] at hlim hmem
  have HX := Lib.hid hxs
  have HSP := Lib.hid (Split_any t 32)
  rw [hxs] at HSP
  clear hxs
  go_enter Tryz.func69, Tryz.ntmps69
  go_wp2_with fail
  refine (HSP.out _ hs).mono ?_
  rintro e X ⟨b, rfl, hb0, hb, hm⟩
  have hm : More _ X := hm
  simp at hb0
  have HZ := Lib.hid (blk_mo (pushF w _ _ rfl) hm)
  have HB := Lib.hid (((Below.refl w.heap.size w).alloc (Nat.le_refl _) _).trans ((more_below hm).mono (by simp)))
  have rz := cell_of HZ.out
  have fz := free_of HZ.out
  have sz := fun i v => setCell_patch HZ.out i v
  have hX1 : w.heap.size < X.heap.size := (Array.getElem?_eq_some_iff.1 HZ.out).1
  have rb := cell_of hb
  have hX2 : b < X.heap.size := (Array.getElem?_eq_some_iff.1 hb).1
  clear hm hb
  by_cases h3 : xs.length = 3
  · obtain ⟨f0, f1, f2, rfl⟩ := three_of h3
    have hf0 := hmem f0 (by simp)
    have hf1 := hmem f1 (by simp)
    have hf2 := hmem f2 (by simp)
    clear hmem HSP h3
    simp only [List.map_cons, List.map_nil] at rb
    by_cases e0 : f0 = ⟨#[108, 111, 119]⟩
    · subst e0
      have hi1 : f1.size ≤ 1048576 := by omega
      have hi2 : f2.size ≤ 1048576 := by omega
      go_wp2_with fail
      refine (parseNumber_any f1 _ hi1 (HL.out.below (by repeat (first | (with_reducible exact HB.out) | refine below_plus ?_ (by first | omega | (simp <;> omega)) _ | refine Below.alloc ?_ (by first | omega | (simp <;> omega)) _ | refine below_patch ?_ (by omega) _ | refine Below.drew ?_)))).mono ?_
      rintro e w' ⟨n1, ok1, rfl, ⟨x1, rfl⟩, h1, g1⟩
      have H1 := Lib.hid h1
      have G1 := Lib.hid g1
      clear h1 g1
      go_wp2_with fail
      refine (parseNumber_any f2 _ hi2 (HL.out.below (by repeat (first | (with_reducible exact HB.out) | refine below_plus ?_ (by first | omega | (simp <;> omega)) _ | refine Below.alloc ?_ (by first | omega | (simp <;> omega)) _ | refine below_patch ?_ (by omega) _ | refine Below.drew ?_)))).mono ?_
      rintro e w' ⟨n2, ok2, rfl, ⟨x2, rfl⟩, h2, g2⟩
      have HU := Lib.hid (ps_uni (k := 0) (by omega) HX.out H1.out h2 G1.out g2)
      clear h2 g2 H1 G1
      cases ok1
      · go_wp2_with fail
        exact bodyPost_ret (v := .tuple #[.agg #[.int .i64 0, .int .i64 0, .int .i64 0], .bool false]) (by simp [results, Tryz.results69, go_sem, ↓IntWalk.iteOmega]) rfl ⟨0, 0, 0, false, rfl, below_more (by repeat (first | (with_reducible exact HB.out) | refine below_plus ?_ (by first | omega | (simp <;> omega)) _ | refine Below.alloc ?_ (by first | omega | (simp <;> omega)) _ | refine below_patch ?_ (by omega) _ | refine Below.drew ?_)), fun h => by (cases h), fun o l m h1 h2 => by obtain ⟨_, _, _, h3, _⟩ := HU.out.2 o l m h1 h2; cases h3⟩
      cases ok2
      · go_wp2_with fail
        exact bodyPost_ret (v := .tuple #[.agg #[.int .i64 0, .int .i64 0, .int .i64 0], .bool false]) (by simp [results, Tryz.results69, go_sem, ↓IntWalk.iteOmega]) rfl ⟨0, 0, 0, false, rfl, below_more (by repeat (first | (with_reducible exact HB.out) | refine below_plus ?_ (by first | omega | (simp <;> omega)) _ | refine Below.alloc ?_ (by first | omega | (simp <;> omega)) _ | refine below_patch ?_ (by omega) _ | refine Below.drew ?_)), fun h => by (cases h), fun o l m h1 h2 => by obtain ⟨_, _, _, _, h3⟩ := HU.out.2 o l m h1 h2; cases h3⟩
      have HE := Lib.hid (HU.out.1 rfl rfl)
      have HV := Lib.hid (fun o l m h1 h2 => (⟨(HU.out.2 o l m h1 h2).1, (HU.out.2 o l m h1 h2).2.1, (HU.out.2 o l m h1 h2).2.2.1⟩ : (0 : Int) = o ∧ n1 = l ∧ n2 = m))
      clear HU
      go_wp2_with fail
      refine (SettingValid_any 0 n1 n2 _).mono ?_
      rintro e w' ⟨rfl, x3, rfl⟩
      cases hs : sv 0 n1 n2
      · go_wp2_with fail
        exact bodyPost_ret (v := .tuple #[.agg #[.int .i64 0, .int .i64 0, .int .i64 0], .bool false]) (by simp [results, Tryz.results69, go_sem, ↓IntWalk.iteOmega]) rfl ⟨0, 0, 0, false, rfl, below_more (by repeat (first | (with_reducible exact HB.out) | refine below_plus ?_ (by first | omega | (simp <;> omega)) _ | refine Below.alloc ?_ (by first | omega | (simp <;> omega)) _ | refine below_patch ?_ (by omega) _ | refine Below.drew ?_)), fun h => by (cases h), fun o l m h1 h2 => by obtain ⟨rfl, rfl, rfl⟩ := HV.out o l m h1 h2; rw [hs] at h1; cases h1⟩
      · have HS := Lib.hid hs
        clear hs
        go_wp2_with fail
        exact bodyPost_ret (v := .tuple #[.agg #[.int .i64 0, .int .i64 n1, .int .i64 n2], .bool true]) (by simp [results, Tryz.results69, go_sem, ↓IntWalk.iteOmega]) rfl ⟨0, n1, n2, true, rfl, below_more (by repeat (first | (with_reducible exact HB.out) | refine below_plus ?_ (by first | omega | (simp <;> omega)) _ | refine Below.alloc ?_ (by first | omega | (simp <;> omega)) _ | refine below_patch ?_ (by omega) _ | refine Below.drew ?_)), fun _ => ⟨HS.out, HE.out⟩, fun o l m h1 h2 => ⟨(HV.out o l m h1 h2).1, (HV.out o l m h1 h2).2.1, (HV.out o l m h1 h2).2.2, rfl⟩⟩
    · by_cases e1 : f0 = ⟨#[104, 105, 103, 104]⟩
      · subst e1
        have hi1 : f1.size ≤ 1048576 := by omega
        have hi2 : f2.size ≤ 1048576 := by omega
        go_wp2_with fail
        refine (parseNumber_any f1 _ hi1 (HL.out.below (by repeat (first | (with_reducible exact HB.out) | refine below_plus ?_ (by first | omega | (simp <;> omega)) _ | refine Below.alloc ?_ (by first | omega | (simp <;> omega)) _ | refine below_patch ?_ (by omega) _ | refine Below.drew ?_)))).mono ?_
        rintro e w' ⟨n1, ok1, rfl, ⟨x1, rfl⟩, h1, g1⟩
        have H1 := Lib.hid h1
        have G1 := Lib.hid g1
        clear h1 g1
        go_wp2_with fail
        refine (parseNumber_any f2 _ hi2 (HL.out.below (by repeat (first | (with_reducible exact HB.out) | refine below_plus ?_ (by first | omega | (simp <;> omega)) _ | refine Below.alloc ?_ (by first | omega | (simp <;> omega)) _ | refine below_patch ?_ (by omega) _ | refine Below.drew ?_)))).mono ?_
        rintro e w' ⟨n2, ok2, rfl, ⟨x2, rfl⟩, h2, g2⟩
        have HU := Lib.hid (ps_uni (k := 1) (by omega) HX.out H1.out h2 G1.out g2)
        clear h2 g2 H1 G1
        cases ok1
        · go_wp2_with fail
          exact bodyPost_ret (v := .tuple #[.agg #[.int .i64 0, .int .i64 0, .int .i64 0], .bool false]) (by simp [results, Tryz.results69, go_sem, ↓IntWalk.iteOmega]) rfl ⟨0, 0, 0, false, rfl, below_more (by repeat (first | (with_reducible exact HB.out) | refine below_plus ?_ (by first | omega | (simp <;> omega)) _ | refine Below.alloc ?_ (by first | omega | (simp <;> omega)) _ | refine below_patch ?_ (by omega) _ | refine Below.drew ?_)), fun h => by (cases h), fun o l m h1 h2 => by obtain ⟨_, _, _, h3, _⟩ := HU.out.2 o l m h1 h2; cases h3⟩
        cases ok2
        · go_wp2_with fail
          exact bodyPost_ret (v := .tuple #[.agg #[.int .i64 0, .int .i64 0, .int .i64 0], .bool false]) (by simp [results, Tryz.results69, go_sem, ↓IntWalk.iteOmega]) rfl ⟨0, 0, 0, false, rfl, below_more (by repeat (first | (with_reducible exact HB.out) | refine below_plus ?_ (by first | omega | (simp <;> omega)) _ | refine Below.alloc ?_ (by first | omega | (simp <;> omega)) _ | refine below_patch ?_ (by omega) _ | refine Below.drew ?_)), fun h => by (cases h), fun o l m h1 h2 => by obtain ⟨_, _, _, _, h3⟩ := HU.out.2 o l m h1 h2; cases h3⟩
        have HE := Lib.hid (HU.out.1 rfl rfl)
        have HV := Lib.hid (fun o l m h1 h2 => (⟨(HU.out.2 o l m h1 h2).1, (HU.out.2 o l m h1 h2).2.1, (HU.out.2 o l m h1 h2).2.2.1⟩ : (1 : Int) = o ∧ n1 = l ∧ n2 = m))
        clear HU
        go_wp2_with fail
        refine (SettingValid_any 1 n1 n2 _).mono ?_
        rintro e w' ⟨rfl, x3, rfl⟩
        cases hs : sv 1 n1 n2
        · go_wp2_with fail
          exact bodyPost_ret (v := .tuple #[.agg #[.int .i64 0, .int .i64 0, .int .i64 0], .bool false]) (by simp [results, Tryz.results69, go_sem, ↓IntWalk.iteOmega]) rfl ⟨0, 0, 0, false, rfl, below_more (by repeat (first | (with_reducible exact HB.out) | refine below_plus ?_ (by first | omega | (simp <;> omega)) _ | refine Below.alloc ?_ (by first | omega | (simp <;> omega)) _ | refine below_patch ?_ (by omega) _ | refine Below.drew ?_)), fun h => by (cases h), fun o l m h1 h2 => by obtain ⟨rfl, rfl, rfl⟩ := HV.out o l m h1 h2; rw [hs] at h1; cases h1⟩
        · have HS := Lib.hid hs
          clear hs
          go_wp2_with fail
          exact bodyPost_ret (v := .tuple #[.agg #[.int .i64 1, .int .i64 n1, .int .i64 n2], .bool true]) (by simp [results, Tryz.results69, go_sem, ↓IntWalk.iteOmega]) rfl ⟨1, n1, n2, true, rfl, below_more (by repeat (first | (with_reducible exact HB.out) | refine below_plus ?_ (by first | omega | (simp <;> omega)) _ | refine Below.alloc ?_ (by first | omega | (simp <;> omega)) _ | refine below_patch ?_ (by omega) _ | refine Below.drew ?_)), fun _ => ⟨HS.out, HE.out⟩, fun o l m h1 h2 => ⟨(HV.out o l m h1 h2).1, (HV.out o l m h1 h2).2.1, (HV.out o l m h1 h2).2.2, rfl⟩⟩
      · have HN := Lib.hid (ps_bad HX.out e0 e1)
        have q0 : (f0.toList == [108, 111, 119]) = false := by have := ne_lists e0; rwa [ByteArray.toList_eq ⟨#[108, 111, 119]⟩] at this
        have q1 : (f0.toList == [104, 105, 103, 104]) = false := by have := ne_lists e1; rwa [ByteArray.toList_eq ⟨#[104, 105, 103, 104]⟩] at this
        go_wp2_with fail
        exact bodyPost_ret (v := .tuple #[.agg #[.int .i64 0, .int .i64 0, .int .i64 0], .bool false]) (by simp [results, Tryz.results69, go_sem, ↓IntWalk.iteOmega]) rfl ⟨0, 0, 0, false, rfl, below_more (by repeat (first | (with_reducible exact HB.out) | refine below_plus ?_ (by first | omega | (simp <;> omega)) _ | refine Below.alloc ?_ (by first | omega | (simp <;> omega)) _ | refine below_patch ?_ (by omega) _ | refine Below.drew ?_)), fun h => by (cases h), fun o l m h1 h2 => absurd h2 (HN.out o l m)⟩
  · have v3 : ((xs.length : Int) == 3) = false := by rw [beq_eq_false_iff_ne]; omega
    have HN := Lib.hid (ps_miss (t := t) (by rw [HX.out]; exact h3))
    go_wp2_with fail
    exact bodyPost_ret (v := .tuple #[.agg #[.int .i64 0, .int .i64 0, .int .i64 0], .bool false]) (by simp [results, Tryz.results69, go_sem, ↓IntWalk.iteOmega]) rfl ⟨0, 0, 0, false, rfl, below_more (by repeat (first | (with_reducible exact HB.out) | refine below_plus ?_ (by first | omega | (simp <;> omega)) _ | refine Below.alloc ?_ (by first | omega | (simp <;> omega)) _ | refine below_patch ?_ (by omega) _ | refine Below.drew ?_)), fun h => by (cases h), fun o l m h1 h2 => absurd h2 (HN.out o l m)⟩

end Go.Proofs.YtmddcbebaijjkaaGreatDoor
