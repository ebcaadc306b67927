/- WordOf, Greatest, soWord of what can be known. -/
import Derived.Test.YtlihhlihcjncoaaAdv
import Derived.Test.YtlihhlihcjncoaaWkp
namespace Go.Proofs.Ytlihhlihcjncoaa
open Go.RowKit
set_option linter.unusedVariables false
set_option linter.unusedSimpArgs false

/-- a word, and whether there is one -/
def wofV (b : Bool) (x : List UInt8) : Value := .tuple #[.string (if b then bstr x else ⟨#[]⟩), .bool b]

theorem wofV_yes (x : List UInt8) : wofV true x = .tuple #[.string (bstr x), .bool true] := rfl

theorem wofV_no (x : List UInt8) : wofV false x = .tuple #[.string ⟨#[]⟩, .bool false] := rfl

set_option maxRecDepth 100000 in
set_option maxHeartbeats 4000000 in
theorem implWordOf_yes (o l m : Int) (a : Option Addr) (cap : Nat) (ps : List Pr) (base last : Int) (c : Int) (w : World) (hr : RdP w a cap ps) (hk : kvb o l m ps base last = true) :
    Calls Try.prog 23 #[.agg #[.int .i64 o, .int .i64 l, .int .i64 m, .slice a ps.length cap, .int .i64 base, .int .i64 last], .int .i64 c] w (Ret w (wofV (folB l m ps.length last c) (anyW l ps last c))) := by
  have hlen := kv_len hk
  have hkv := kvb_iff.1 hk
  have hs := hkv.s
  obtain ⟨_, _, _, _, t1, t2, t4, _⟩ := hkv.lim.bds
  have HR := Lib.hid (show Rd encP w a cap ps from hr)
  have HK := Lib.hid hk
  have HV := Lib.hid hkv
  clear hr hkv hk
  cases hf : folB l m ps.length last c
  · rw [wofV_no]
    have hno : canB l m ps.length last c = false ∨ c = two l ∨ c = two l + 1 := by
      cases hcan : canB l m ps.length last c
      · exact .inl rfl
      · rcases Classical.em (c = two l) with h1 | h1
        · exact .inr (.inl h1)
        rcases Classical.em (c = two l + 1) with h2 | h2
        · exact .inr (.inr h2)
        have := folB_iff.2 (can_okc t1 hcan h1 h2)
        rw [hf] at this; cases this
    clear hf
    cases hcan : canB l m ps.length last c
    · clear hno
      go_enter Try.func23, Try.ntmps23
      go_wp2_with fail
      refine (KnownValid_any o l m a cap ps base last _ (by (try unfold RdP); repeat (first | (with_reducible exact HR.out) | (with_reducible apply rd_seq) | (with_reducible apply Rd.plus) | (with_reducible apply Rd.alloc) | (with_reducible apply Rd.drew) | (with_reducible apply Rd.drewN)))).mono ?_
      rintro e w' ⟨rfl, x1, rfl⟩
      rw [HK.out]
      go_wp2_with fail
      refine (canFollow_any o l m a ps.length cap base last c _ hs (by omega)).mono ?_
      rintro e w' ⟨rfl, x2, rfl⟩
      rw [hcan]
      go_wp2_with fail
      go_ret2
      exact Ret.mk (by repeat (first | exact More.refl _ | apply More.plus | apply More.alloc | apply More.drew | apply More.drewN))
    · rcases hno with h | h | h
      · rw [hcan] at h; cases h
      · have v1 : (c == two l) = true := by simp; omega
        clear h
        go_enter Try.func23, Try.ntmps23
        go_wp2_with fail
        refine (KnownValid_any o l m a cap ps base last _ (by (try unfold RdP); repeat (first | (with_reducible exact HR.out) | (with_reducible apply rd_seq) | (with_reducible apply Rd.plus) | (with_reducible apply Rd.alloc) | (with_reducible apply Rd.drew) | (with_reducible apply Rd.drewN)))).mono ?_
        rintro e w' ⟨rfl, x1, rfl⟩
        rw [HK.out]
        go_wp2_with fail
        refine (canFollow_any o l m a ps.length cap base last c _ hs (by omega)).mono ?_
        rintro e w' ⟨rfl, x2, rfl⟩
        rw [hcan]
        go_wp2_with fail
        refine (ClearCode_yes _ _ _ hs _).mono ?_
        rintro e w' ⟨rfl, x3, rfl⟩
        go_wp2_with fail
        go_ret2
        exact Ret.mk (by repeat (first | exact More.refl _ | apply More.plus | apply More.alloc | apply More.drew | apply More.drewN))
      · have v1 : (c == two l) = false := by simp; omega
        have v2 : (c == two l + 1) = true := by simp; omega
        clear h
        go_enter Try.func23, Try.ntmps23
        go_wp2_with fail
        refine (KnownValid_any o l m a cap ps base last _ (by (try unfold RdP); repeat (first | (with_reducible exact HR.out) | (with_reducible apply rd_seq) | (with_reducible apply Rd.plus) | (with_reducible apply Rd.alloc) | (with_reducible apply Rd.drew) | (with_reducible apply Rd.drewN)))).mono ?_
        rintro e w' ⟨rfl, x1, rfl⟩
        rw [HK.out]
        go_wp2_with fail
        refine (canFollow_any o l m a ps.length cap base last c _ hs (by omega)).mono ?_
        rintro e w' ⟨rfl, x2, rfl⟩
        rw [hcan]
        go_wp2_with fail
        refine (ClearCode_yes _ _ _ hs _).mono ?_
        rintro e w' ⟨rfl, x3, rfl⟩
        go_wp2_with fail
        refine (EndCode_yes _ _ _ hs _).mono ?_
        rintro e w' ⟨rfl, x4, rfl⟩
        go_wp2_with fail
        go_ret2
        exact Ret.mk (by repeat (first | exact More.refl _ | apply More.plus | apply More.alloc | apply More.drew | apply More.drewN))
  · rw [wofV_yes]
    have hok := folB_iff.1 hf
    have hcan := okc_can t1 hok
    have v1 : (c == two l) = false := by
      have : c ≠ two l := by rcases hok with h | ⟨_, h⟩
                             · have := hw_iff.1 h; omega
                             · unfold nw at h; omega
      simpa using this
    have v2 : (c == two l + 1) = false := by
      have : c ≠ two l + 1 := by rcases hok with h | ⟨_, h⟩
                                 · have := hw_iff.1 h; omega
                                 · unfold nw at h; omega
      simpa using this
    have HO := Lib.hid hok
    clear hok hf
    go_enter Try.func23, Try.ntmps23
    go_wp2_with fail
    refine (KnownValid_any o l m a cap ps base last _ (by (try unfold RdP); repeat (first | (with_reducible exact HR.out) | (with_reducible apply rd_seq) | (with_reducible apply Rd.plus) | (with_reducible apply Rd.alloc) | (with_reducible apply Rd.drew) | (with_reducible apply Rd.drewN)))).mono ?_
    rintro e w' ⟨rfl, x1, rfl⟩
    rw [HK.out]
    go_wp2_with fail
    refine (canFollow_any o l m a ps.length cap base last c _ hs (by omega)).mono ?_
    rintro e w' ⟨rfl, x2, rfl⟩
    rw [hcan]
    go_wp2_with fail
    refine (ClearCode_yes _ _ _ hs _).mono ?_
    rintro e w' ⟨rfl, x3, rfl⟩
    go_wp2_with fail
    refine (EndCode_yes _ _ _ hs _).mono ?_
    rintro e w' ⟨rfl, x4, rfl⟩
    go_wp2_with fail
    refine (wordText_any o l m a cap ps base last c _ (by (try unfold RdP); repeat (first | (with_reducible exact HR.out) | (with_reducible apply rd_seq) | (with_reducible apply Rd.plus) | (with_reducible apply Rd.alloc) | (with_reducible apply Rd.drew) | (with_reducible apply Rd.drewN))) HV.out HO.out).mono ?_
    rintro e w' ⟨rfl, x5, rfl⟩
    go_wp2_with fail
    go_ret2
    exact Ret.mk (by repeat (first | exact More.refl _ | apply More.plus | apply More.alloc | apply More.drew | apply More.drewN))

set_option maxRecDepth 100000 in
set_option maxHeartbeats 1000000 in
theorem implGreatest_yes (o l m : Int) (a : Option Addr) (cap : Nat) (ps : List Pr) (base last : Int) (w : World) (hr : RdP w a cap ps) (hk : kvb o l m ps base last = true) :
    Calls Try.prog 22 #[.agg #[.int .i64 o, .int .i64 l, .int .i64 m, .slice a ps.length cap, .int .i64 base, .int .i64 last]] w (Ret w (.int .i64 (gt l m ps.length last))) := by
  have hlen := kv_len hk
  have hs := (kvb_iff.1 hk).s
  have HR := Lib.hid (show Rd encP w a cap ps from hr)
  have HK := Lib.hid hk
  clear hr hk
  go_enter Try.func22, Try.ntmps22
  go_wp2_with fail
  refine (KnownValid_any o l m a cap ps base last _ (by (try unfold RdP); repeat (first | (with_reducible exact HR.out) | (with_reducible apply rd_seq) | (with_reducible apply Rd.plus) | (with_reducible apply Rd.alloc) | (with_reducible apply Rd.drew) | (with_reducible apply Rd.drewN)))).mono ?_
  rintro e w' ⟨rfl, x1, rfl⟩
  rw [HK.out]
  go_wp2_with fail
  refine (greatest_any o l m a ps.length cap base last _ hs (by omega)).mono ?_
  rintro e w' ⟨rfl, x2, rfl⟩
  go_wp2_with fail
  go_ret
  exact Ret.mk (by repeat (first | exact More.refl _ | apply More.plus | apply More.alloc | apply More.drew | apply More.drewN))

set_option maxRecDepth 100000 in
set_option maxHeartbeats 1000000 in
theorem soWord_yes (o l m : Int) (a : Option Addr) (cap : Nat) (ps : List Pr) (base last : Int) (c : Int) (w : World) (hr : RdP w a cap ps) (hk : kvb o l m ps base last = true) (hc : Okc l m ps.length last c) :
    Calls Try.prog 24 #[.agg #[.int .i64 o, .int .i64 l, .int .i64 m, .slice a ps.length cap, .int .i64 base, .int .i64 last], .int .i64 c] w (Ret w (.string (bstr (anyW l ps last c)))) := by
  have HR := Lib.hid (show Rd encP w a cap ps from hr)
  have HW := Lib.hid (fun (W : World) (h : RdP W a cap ps) => implWordOf_yes o l m a cap ps base last c W h hk)
  rw [folB_iff.2 hc, wofV_yes] at HW
  clear hr hk hc
  go_enter Try.func24, Try.ntmps24
  go_wp2_with fail
  refine (HW.out _ (by (try unfold RdP); repeat (first | (with_reducible exact HR.out) | (with_reducible apply rd_seq) | (with_reducible apply Rd.plus) | (with_reducible apply Rd.alloc) | (with_reducible apply Rd.drew) | (with_reducible apply Rd.drewN)))).mono ?_
  rintro e w' ⟨rfl, x1, rfl⟩
  go_wp2_with fail
  go_ret
  exact Ret.mk (by repeat (first | exact More.refl _ | apply More.plus | apply More.alloc | apply More.drew | apply More.drewN))

end Go.Proofs.Ytlihhlihcjncoaa
