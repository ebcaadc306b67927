/- The reference's reading of pairs and settings. -/
import Derived.Test.YtmddcbebaijjkaaGreatDoorPsb
namespace Go.Proofs.YtmddcbebaijjkaaGreatDoor
open Go.RowKit
set_option linter.unusedVariables false
set_option linter.unusedSimpArgs false

/-- what the reference's reading of a pair gives -/
def RetPq (w : World) (t : ByteArray) (e : Ending) (w' : World) : Prop := ∃ (n1 n2 : Int), e = .returned (.agg #[.int .i64 n1, .int .i64 n2]) ∧ More w w' ∧ ∀ q : Pr, Sml q.p → Sml q.b → t = prT q → n1 = q.p ∧ n2 = q.b

theorem prT_dot (q : Pr) : (prT q).data.toList = (decB q.p).data.toList ++ 46 :: (decB q.b).data.toList := by
  unfold prT
  simp

set_option maxRecDepth 100000 in
set_option maxHeartbeats 4000000 in
theorem l3Pair_any (t : ByteArray) (w : World) (hs : t.size ≤ 1048576) : Calls Tryz.prog 73 #[.string t] w (RetPq w t) := by
  go_enter Tryz.func73, Tryz.ntmps73
  go_wp2_with fail
  refine (l9Find_any t 46 _ hs).mono ?_
  rintro e w' ⟨n, rfl, ⟨x0, rfl⟩, hn⟩
  rcases hn with ⟨rfl, hno⟩ | ⟨k, rfl, hk, hg, hno⟩
  · have HN := Lib.hid hno
    clear hno
    go_wp2_with fail
    refine bodyPost_ret (v := .agg #[.int .i64 (-1), .int .i64 0]) (by simp [results, Tryz.results73, go_sem, ↓IntWalk.iteOmega]) rfl ⟨-1, 0, rfl, below_more (by repeat (first | exact Below.refl _ _ | refine below_plus ?_ (by first | omega | (simp <;> omega)) _ | refine Below.alloc ?_ (by first | omega | (simp <;> omega)) _ | refine below_patch ?_ (by omega) _ | refine Below.drew ?_)), fun q hp hb ht => ?_⟩
    have h1 : (46 : UInt8) ∈ t.data.toList := by rw [ht, prT_dot]; simp
    obtain ⟨j, hj⟩ := List.getElem?_of_mem h1
    have h2 := (List.getElem?_eq_some_iff.1 hj).1
    rw [len_list] at h2
    exact absurd hj (HN.out j (Nat.zero_le _) h2)
  · have hx := ext_at (Nat.zero_le k) hk hg
    rw [ext_all] at hx
    have hnc := ext_noc hno
    have HU := Lib.hid (show ∀ q : Pr, t = prT q → t.extract 0 k = decB q.p ∧ t.extract (k + 1) t.size = decB q.b from fun q ht => by
      have h1 : t.data.toList = (t.extract 0 k ++ (⟨#[46]⟩ : ByteArray) ++ t.extract (k + 1) t.size).data.toList := congrArg (fun z : ByteArray => z.data.toList) hx
      have h5 := (congrArg (fun z : ByteArray => z.data.toList) ht).symm.trans h1
      have h6 := (prT_dot q).symm.trans h5
      have h2 : (decB q.p).data.toList ++ 46 :: (decB q.b).data.toList = (t.extract 0 k).data.toList ++ 46 :: (t.extract (k + 1) t.size).data.toList := by
        rw [h6]
        simp only [ByteArray.data_append, Array.toList_append]
        exact List.append_assoc _ [46] _
      obtain ⟨h3, h4⟩ := cut_uniq (decB_ne (by decide) (by decide)) hnc h2
      exact ⟨ba_ext h3.symm, ba_ext h4.symm⟩)
    obtain ⟨s1, hs1⟩ : ∃ y, t.extract 0 k = y := ⟨_, rfl⟩
    obtain ⟨s2, hs2⟩ : ∃ y, t.extract (k + 1) t.size = y := ⟨_, rfl⟩
    have hz1 : s1.size ≤ 1048576 := by rw [← hs1, ByteArray.size_extract]; omega
    have hz2 : s2.size ≤ 1048576 := by rw [← hs2, ByteArray.size_extract]; omega
    rw [hs1, hs2] at HU
    clear hx hnc hg hno
    go_wp2_with fail
    refine (l9Num_any s1 _ hz1).mono ?_
    rintro e w' ⟨n1, ok1, rfl, ⟨x1, rfl⟩, h1⟩
    have H1 := Lib.hid h1
    clear h1
    go_wp2_with fail
    refine (l9Num_any s2 _ hz2).mono ?_
    rintro e w' ⟨n2, ok2, rfl, ⟨x2, rfl⟩, h2⟩
    have HQ := Lib.hid (show ∀ q : Pr, Sml q.p → Sml q.b → t = prT q → n1 = q.p ∧ n2 = q.b ∧ ok1 = true ∧ ok2 = true from fun q hp hb ht => by
      obtain ⟨e1, e2⟩ := HU.out q ht
      obtain ⟨a1, a2⟩ := H1.out q.p hp e1
      obtain ⟨b1, b2⟩ := h2 q.b hb e2
      exact ⟨a1, b1, a2, b2⟩)
    clear h2 H1 HU hs1 hs2
    cases ok1
    · go_wp2_with fail
      exact bodyPost_ret (v := .agg #[.int .i64 (-1), .int .i64 0]) (by simp [results, Tryz.results73, go_sem, ↓IntWalk.iteOmega]) rfl ⟨-1, 0, rfl, below_more (by repeat (first | exact Below.refl _ _ | refine below_plus ?_ (by first | omega | (simp <;> omega)) _ | refine Below.alloc ?_ (by first | omega | (simp <;> omega)) _ | refine below_patch ?_ (by omega) _ | refine Below.drew ?_)), fun q hp hb ht => by obtain ⟨_, _, h9, _⟩ := HQ.out q hp hb ht; cases h9⟩
    cases ok2
    · go_wp2_with fail
      exact bodyPost_ret (v := .agg #[.int .i64 (-1), .int .i64 0]) (by simp [results, Tryz.results73, go_sem, ↓IntWalk.iteOmega]) rfl ⟨-1, 0, rfl, below_more (by repeat (first | exact Below.refl _ _ | refine below_plus ?_ (by first | omega | (simp <;> omega)) _ | refine Below.alloc ?_ (by first | omega | (simp <;> omega)) _ | refine below_patch ?_ (by omega) _ | refine Below.drew ?_)), fun q hp hb ht => by obtain ⟨_, _, _, h9⟩ := HQ.out q hp hb ht; cases h9⟩
    go_wp2_with fail
    exact bodyPost_ret (v := .agg #[.int .i64 n1, .int .i64 n2]) (by simp [results, Tryz.results73, go_sem, ↓IntWalk.iteOmega]) rfl ⟨n1, n2, rfl, below_more (by repeat (first | exact Below.refl _ _ | refine below_plus ?_ (by first | omega | (simp <;> omega)) _ | refine Below.alloc ?_ (by first | omega | (simp <;> omega)) _ | refine below_patch ?_ (by omega) _ | refine Below.drew ?_)), fun q hp hb ht => by obtain ⟨h8, h9, _⟩ := HQ.out q hp hb ht; exact ⟨h8, h9⟩⟩

/-- what the reference's reading of a setting gives -/
def RetPz (w : World) (t : ByteArray) (e : Ending) (w' : World) : Prop := ∃ (o l m : Int) (ok : Bool), e = .returned (.tuple #[.agg #[.int .i64 o, .int .i64 l, .int .i64 m], .bool ok]) ∧ More w w' ∧ ∀ o' l' m', sv o' l' m' = true → t = setT o' l' m' → o = o' ∧ l = l' ∧ m = m'

theorem setT_inj {o l m o' l' m' : Int} (h : sv o l m = true) (h' : sv o' l' m' = true) (e : setT o l m = setT o' l' m') : o = o' ∧ l = l' ∧ m = m' := by
  have h1 := setT_cut o l m
  rw [e, setT_cut] at h1
  injection h1 with h1 h2
  injection h2 with h2 h3
  injection h3 with h3 h4
  obtain ⟨i1, i2⟩ := sv_i64 h
  obtain ⟨i3, i4⟩ := sv_i64 h'
  refine ⟨?_, decB_inj i1.1 i1.2 i3.1 i3.2 h2.symm, decB_inj i2.1 i2.2 i4.1 i4.2 h3.symm⟩
  have ho := (sv_iff.1 h).1
  have ho' := (sv_iff.1 h').1
  unfold ordT at h1
  rcases ho with rfl | rfl <;> rcases ho' with rfl | rfl <;> first | rfl | (exfalso; exact absurd h1 (by decide))

set_option maxRecDepth 100000 in
set_option maxHeartbeats 8000000 in
theorem specParseSetting_any (t : ByteArray) (w : World) (hs : t.size ≤ 1048576) : Calls Tryz.prog 72 #[.string t] w (RetPz w t) := by
  go_enter Tryz.func72, Tryz.ntmps72
  go_wp2
  go_loopw [4] (fun i wr => ∃ (a : Nat), i = .int .i64 a ∧ a ≤ 2 ∧ (∀ o' l' m', sv o' l' m' = true → t = setT o' l' m' → (a : Int) ≤ o') ∧ ∃ x, wr = plus (w.alloc (.cells #[.int .i64 0, .int .i64 0, .int .i64 0] 23)) x) (fun i _ => 2 - (intOf i).toNat)
  case atStart => exact ⟨0, rfl, by omega, fun o' l' m' h _ => by have := (sv_iff.1 h).1; omega, ⟨⟨#[], _⟩, (plus_self _).symm⟩⟩
  case round =>
    obtain ⟨a, rfl, ha, hT, x, rfl⟩ := hrel
    have HT := Lib.hid hT
    clear hT
    rcases dec (a < 2) with ⟨hlt, v1'⟩ | ⟨hlt, v1'⟩
    · have v1 : decide ((a : Int) ≤ 1) = true := decide_eq_true (by omega)
      clear v1'
      go_wp2
      go_loopw [5] (fun i wr => ∃ (b : Nat), i = .int .i64 b ∧ 1 ≤ b ∧ b ≤ 9 ∧ (∀ o' l' m', sv o' l' m' = true → t = setT o' l' m' → (a : Int) < o' ∨ ((a : Int) = o' ∧ (b : Int) ≤ l')) ∧ ∃ x, wr = plus (w.alloc (.cells #[.int .i64 0, .int .i64 0, .int .i64 0] 23)) x) (fun i _ => 9 - (intOf i).toNat)
      case atStart => exact ⟨1, rfl, by omega, by omega, fun o' l' m' h ht => by have := HT.out o' l' m' h ht; have := (sv_iff.1 h).2.1; omega, ⟨_, rfl⟩⟩
      case round =>
        obtain ⟨b, rfl, hb1, hb, hT2, x2, rfl⟩ := hrel
        have HT2 := Lib.hid hT2
        clear hT2
        rcases dec (b < 9) with ⟨hlt2, v2'⟩ | ⟨hlt2, v2'⟩
        · have v2 : decide ((b : Int) ≤ 8) = true := decide_eq_true (by omega)
          clear v2'
          go_wp2
          go_loopw [6] (fun i wr => ∃ (c : Nat), i = .int .i64 c ∧ 1 ≤ c ∧ c ≤ 11 ∧ (∀ o' l' m', sv o' l' m' = true → t = setT o' l' m' → (a : Int) < o' ∨ ((a : Int) = o' ∧ ((b : Int) < l' ∨ ((b : Int) = l' ∧ (c : Int) ≤ m')))) ∧ ∃ x, wr = plus (w.alloc (.cells #[.int .i64 0, .int .i64 0, .int .i64 0] 23)) x) (fun i _ => 11 - (intOf i).toNat)
          case atStart => exact ⟨1, rfl, by omega, by omega, fun o' l' m' h ht => by have := HT2.out o' l' m' h ht; have h9 := sv_iff.1 h; omega, ⟨_, rfl⟩⟩
          case round =>
            obtain ⟨c, rfl, hc1, hc, hT3, x3, rfl⟩ := hrel
            have HT3 := Lib.hid hT3
            clear hT3
            rcases dec (c < 11) with ⟨hlt3, v3'⟩ | ⟨hlt3, v3'⟩
            · have v3 : decide ((c : Int) ≤ 10) = true := decide_eq_true (by omega)
              clear v3'
              go_wp2_with fail
              refine (specSettingValid_any a b c _).mono ?_
              rintro e w' ⟨rfl, x4, rfl⟩
              cases hsv : sv (a : Int) (b : Int) (c : Int)
              · have HN := Lib.hid (show ∀ o' l' m', sv o' l' m' = true → t = setT o' l' m' → (a : Int) < o' ∨ ((a : Int) = o' ∧ ((b : Int) < l' ∨ ((b : Int) = l' ∧ ((c + 1 : Nat) : Int) ≤ m'))) from fun o' l' m' h ht => by
                  have h9 := HT3.out o' l' m' h ht
                  by_cases he : (a : Int) = o' ∧ (b : Int) = l' ∧ (c : Int) = m'
                  · obtain ⟨rfl, rfl, rfl⟩ := he
                    rw [hsv] at h
                    cases h
                  · omega)
                clear hsv
                go_wp2_with fail
                go_roundw
                case rel => exact ⟨c + 1, by go_num, by omega, by omega, HN.out, (by repeat (first | exact More.refl _ | apply More.plus | apply More.alloc | apply More.drew | apply More.drewN))⟩
                case measure => simp [intOf]; omega
              · have HSV := Lib.hid hsv
                clear hsv
                go_wp2_with fail
                refine (specFormatSetting_any a b c _ HSV.out).mono ?_
                rintro e w' ⟨rfl, x5, rfl⟩
                by_cases he : setT a b c = t
                · have q : ((setT a b c).toList == t.toList) = true := by rw [he]; simp
                  have HE := Lib.hid he
                  clear he
                  go_wp2_with fail
                  exact bodyPost_ret (v := .tuple #[.agg #[.int .i64 a, .int .i64 b, .int .i64 c], .bool true]) (by simp [results, Tryz.results72, go_sem, ↓IntWalk.iteOmega]) rfl ⟨a, b, c, true, rfl, below_more (by repeat (first | exact Below.refl _ _ | refine below_plus ?_ (by first | omega | (simp <;> omega)) _ | refine Below.alloc ?_ (by first | omega | (simp <;> omega)) _ | refine below_patch ?_ (by omega) _ | refine Below.drew ?_)), fun o' l' m' h ht => setT_inj HSV.out h (HE.out.trans ht)⟩
                · have q := ne_lists he
                  have HN := Lib.hid (show ∀ o' l' m', sv o' l' m' = true → t = setT o' l' m' → (a : Int) < o' ∨ ((a : Int) = o' ∧ ((b : Int) < l' ∨ ((b : Int) = l' ∧ ((c + 1 : Nat) : Int) ≤ m'))) from fun o' l' m' h ht => by
                    have h9 := HT3.out o' l' m' h ht
                    by_cases hq : (a : Int) = o' ∧ (b : Int) = l' ∧ (c : Int) = m'
                    · obtain ⟨rfl, rfl, rfl⟩ := hq
                      exact absurd ht.symm he
                    · omega)
                  clear he
                  go_wp2_with fail
                  go_roundw
                  case rel => exact ⟨c + 1, by go_num, by omega, by omega, HN.out, (by repeat (first | exact More.refl _ | apply More.plus | apply More.alloc | apply More.drew | apply More.drewN))⟩
                  case measure => simp [intOf]; omega
            · have v3 : decide ((c : Int) ≤ 10) = false := decide_eq_false (by omega)
              clear v3'
              have HN := Lib.hid (show ∀ o' l' m', sv o' l' m' = true → t = setT o' l' m' → (a : Int) < o' ∨ ((a : Int) = o' ∧ ((b + 1 : Nat) : Int) ≤ l') from fun o' l' m' h ht => by
                have h9 := HT3.out o' l' m' h ht
                have h8 := sv_iff.1 h
                omega)
              go_wp2_with fail
              go_roundw
              case rel => exact ⟨b + 1, by go_num, by omega, by omega, HN.out, ⟨_, rfl⟩⟩
              case measure => simp [intOf]; omega
        · have v2 : decide ((b : Int) ≤ 8) = false := decide_eq_false (by omega)
          clear v2'
          have HN := Lib.hid (show ∀ o' l' m', sv o' l' m' = true → t = setT o' l' m' → ((a + 1 : Nat) : Int) ≤ o' from fun o' l' m' h ht => by
            have h9 := HT2.out o' l' m' h ht
            have h8 := sv_iff.1 h
            omega)
          go_wp2_with fail
          go_roundw
          case rel => exact ⟨a + 1, by go_num, by omega, HN.out, ⟨_, rfl⟩⟩
          case measure => simp [intOf]; omega
    · have v1 : decide ((a : Int) ≤ 1) = false := decide_eq_false (by omega)
      clear v1'
      go_wp2_with fail
      exact bodyPost_ret (v := .tuple #[.agg #[.int .i64 0, .int .i64 0, .int .i64 0], .bool false]) (by simp [results, Tryz.results72, go_sem, ↓IntWalk.iteOmega]) rfl ⟨0, 0, 0, false, rfl, below_more (by repeat (first | exact Below.refl _ _ | refine below_plus ?_ (by first | omega | (simp <;> omega)) _ | refine Below.alloc ?_ (by first | omega | (simp <;> omega)) _ | refine below_patch ?_ (by omega) _ | refine Below.drew ?_)), fun o' l' m' h ht => by have h9 := HT.out o' l' m' h ht; have h8 := sv_iff.1 h; omega⟩

end Go.Proofs.YtmddcbebaijjkaaGreatDoor
