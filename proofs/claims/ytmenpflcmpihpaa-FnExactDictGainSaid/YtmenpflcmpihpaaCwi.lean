/- The walks of CompressWith, of the program and of the reference. -/
import Derived.Test.YtmenpflcmpihpaaCmp
import Derived.Test.YtmenpflcmpihpaaSwi
import Derived.Test.YtmenpflcmpihpaaTmp
namespace Go.Proofs.Ytmenpflcmpihpaa
open Go.RowKit
set_option linter.unusedVariables false
set_option linter.unusedSimpArgs false

set_option maxRecDepth 100000 in
theorem implCompressWith_no1 (o l m : Int) (s1 s2 : ByteArray) (w : World) (O L M B LA : Int) (qs : List Pr)
    (h : ∀ (W : World), Calls Try.prog 86 #[.agg #[.int .i64 o, .int .i64 l, .int .i64 m], .string s1] W (RetO W (fun a0 c0 => .tuple #[.agg #[.int .i64 O, .int .i64 L, .int .i64 M, .slice a0 qs.length c0, .int .i64 B, .int .i64 LA], .bool false]) qs)) :
    Calls Try.prog 41 #[.agg #[.int .i64 o, .int .i64 l, .int .i64 m], .string s1, .string s2] w (Ret w (.tuple #[.string ⟨#[]⟩, .bool false])) := by
  have HH := Lib.hid h
  clear h
  go_enter Try.func41, Try.ntmps41
  go_wp2_with fail
  refine (HH.out _).mono ?_
  rintro e w' ⟨pa, pc, rfl, hown, x2, rfl⟩
  clear hown
  go_wp2_with fail
  go_ret2
  exact Ret.mk (by repeat (first | exact More.refl _ | apply More.plus | apply More.alloc | apply More.drew | apply More.drewN))

set_option maxRecDepth 100000 in
theorem implCompressWith_of (o l m : Int) (s1 s2 : ByteArray) (w : World) (O L M B LA : Int) (qs : List Pr) (y : ByteArray) (bb : Bool)
    (h : ∀ (W : World), Calls Try.prog 86 #[.agg #[.int .i64 o, .int .i64 l, .int .i64 m], .string s1] W (RetO W (fun a0 c0 => .tuple #[.agg #[.int .i64 O, .int .i64 L, .int .i64 M, .slice a0 qs.length c0, .int .i64 B, .int .i64 LA], .bool true]) qs))
    (hC : ∀ (W : World) (a : Option Addr) (cap : Nat), RdP W a cap qs → Calls Try.prog 39 #[.agg #[.int .i64 O, .int .i64 L, .int .i64 M, .slice a qs.length cap, .int .i64 B, .int .i64 LA], .string s2] W (Ret W (.tuple #[.string y, .bool bb]))) :
    Calls Try.prog 41 #[.agg #[.int .i64 o, .int .i64 l, .int .i64 m], .string s1, .string s2] w (Ret w (.tuple #[.string y, .bool bb])) := by
  have HH := Lib.hid h
  have HC := Lib.hid hC
  clear h hC
  go_enter Try.func41, Try.ntmps41
  go_wp2_with fail
  refine (HH.out _).mono ?_
  rintro e w' ⟨pa, pc, rfl, hown, x2, rfl⟩
  have HR := Lib.hid hown.rd
  clear hown
  go_wp2_with (go_at_call 39; refine (HC.out _ _ _ (by repeat (first | exact HR.out | apply rd_seq | apply Rd.plus | apply Rd.alloc | apply Rd.drew | apply Rd.drewN | refine rd_patch ?_ _ _ (by intro A hA; first | (cases hA; show _ ≠ _; omega) | (have := hal A hA; omega))))).mono ?_; rintro e w' ⟨rfl, xc, rfl⟩)
  go_ret2
  exact Ret.mk (by repeat (first | exact More.refl _ | apply More.plus | apply More.alloc | apply More.drew | apply More.drewN))

set_option maxRecDepth 100000 in
theorem specCompressWith_no1 (o l m : Int) (s1 s2 : ByteArray) (w : World) (O L M B LA : Int) (qs : List Pr)
    (h : ∀ (W : World), Calls Try.prog 85 #[.agg #[.int .i64 o, .int .i64 l, .int .i64 m], .string s1] W (RetO W (fun a0 c0 => .tuple #[.agg #[.int .i64 O, .int .i64 L, .int .i64 M, .slice a0 qs.length c0, .int .i64 B, .int .i64 LA], .bool false]) qs)) :
    Calls Try.prog 40 #[.agg #[.int .i64 o, .int .i64 l, .int .i64 m], .string s1, .string s2] w (Ret w (.tuple #[.string ⟨#[]⟩, .bool false])) := by
  have HH := Lib.hid h
  clear h
  go_enter Try.func40, Try.ntmps40
  go_wp2_with fail
  refine (HH.out _).mono ?_
  rintro e w' ⟨pa, pc, rfl, hown, x2, rfl⟩
  clear hown
  go_wp2_with fail
  go_ret2
  exact Ret.mk (by repeat (first | exact More.refl _ | apply More.plus | apply More.alloc | apply More.drew | apply More.drewN))

set_option maxRecDepth 100000 in
theorem specCompressWith_of (o l m : Int) (s1 s2 : ByteArray) (w : World) (O L M B LA : Int) (qs : List Pr) (y : ByteArray) (bb : Bool)
    (h : ∀ (W : World), Calls Try.prog 85 #[.agg #[.int .i64 o, .int .i64 l, .int .i64 m], .string s1] W (RetO W (fun a0 c0 => .tuple #[.agg #[.int .i64 O, .int .i64 L, .int .i64 M, .slice a0 qs.length c0, .int .i64 B, .int .i64 LA], .bool true]) qs))
    (hC : ∀ (W : World) (a : Option Addr) (cap : Nat), RdP W a cap qs → Calls Try.prog 38 #[.agg #[.int .i64 O, .int .i64 L, .int .i64 M, .slice a qs.length cap, .int .i64 B, .int .i64 LA], .string s2] W (Ret W (.tuple #[.string y, .bool bb]))) :
    Calls Try.prog 40 #[.agg #[.int .i64 o, .int .i64 l, .int .i64 m], .string s1, .string s2] w (Ret w (.tuple #[.string y, .bool bb])) := by
  have HH := Lib.hid h
  have HC := Lib.hid hC
  clear h hC
  go_enter Try.func40, Try.ntmps40
  go_wp2_with fail
  refine (HH.out _).mono ?_
  rintro e w' ⟨pa, pc, rfl, hown, x2, rfl⟩
  have HR := Lib.hid hown.rd
  clear hown
  go_wp2_with (go_at_call 38; refine (HC.out _ _ _ (by repeat (first | exact HR.out | apply rd_seq | apply Rd.plus | apply Rd.alloc | apply Rd.drew | apply Rd.drewN | refine rd_patch ?_ _ _ (by intro A hA; first | (cases hA; show _ ≠ _; omega) | (have := hal A hA; omega))))).mono ?_; rintro e w' ⟨rfl, xc, rfl⟩)
  go_ret2
  exact Ret.mk (by repeat (first | exact More.refl _ | apply More.plus | apply More.alloc | apply More.drew | apply More.drewN))

/-- what CompressWith returns, of the program and of the reference alike -/
theorem cwi_ex (o l m : Int) (s1 s2 : ByteArray) (hm1 : s1.size ≤ maxLen) (hm2 : s2.size ≤ maxLen) : ∃ (y : ByteArray) (bb : Bool), y.size ≤ 4000 ∧
    (∀ W : World, Calls Try.prog 41 #[.agg #[.int .i64 o, .int .i64 l, .int .i64 m], .string s1, .string s2] W (Ret W (.tuple #[.string y, .bool bb]))) ∧
    (∀ W : World, Calls Try.prog 40 #[.agg #[.int .i64 o, .int .i64 l, .int .i64 m], .string s1, .string s2] W (Ret W (.tuple #[.string y, .bool bb]))) := by
  cases hs : sv o l m
  · exact ⟨⟨#[]⟩, false, (show (0 : Nat) ≤ 4000 by omega), fun W => implCompressWith_no1 o l m s1 s2 W 0 0 0 0 0 [] fun W => implStartWith_nos o l m s1 W hs, fun W => specCompressWith_no1 o l m s1 s2 W 0 0 0 0 0 [] fun W => specStartWith_nos o l m s1 W hs⟩
  · have hr : ∀ W : World, RdP W none 0 [] := fun W => rd_none W
    have hk : kvb o l m [] 0 (-1) = true := kvb_iff.2 (kv_start hs)
    cases hd : dfB o l m s1
    · exact ⟨⟨#[]⟩, false, (show (0 : Nat) ≤ 4000 by omega),
        fun W => implCompressWith_no1 o l m s1 s2 W _ _ _ _ _ _ fun W => implStartWith_of o l m s1 W hs _ _ _ _ _ _ _ fun W => implLearnKnown_no o l m none 0 [] 0 (-1) s1 W (hr W) hm1 (.inr hd),
        fun W => specCompressWith_no1 o l m s1 s2 W _ _ _ _ _ _ fun W => specStartWith_of o l m s1 W hs _ _ _ _ _ _ _ fun W => specLearnKnown_no o l m none 0 [] 0 (-1) s1 W (hr W) hm1 (.inr hd)⟩
    · obtain ⟨qs, hqs⟩ : ∃ qs, (lrn l m s1.size (([] : List Pr).take (0 : Int).toNat) (-1) s1.data.toList).1 = qs := ⟨_, rfl⟩
      have hkv2 : KV o l m qs (qs.length : Int) (-1) := by
        have := lrn_kv (o := o) (base := 0) s1.size [] (-1) s1.data.toList (kv_start hs) (by rw [bstr_bytes]; exact hd)
        rw [show (lrn l m s1.size [] (-1) s1.data.toList).1 = qs from hqs] at this
        exact ⟨this.s, this.len, this.ok, by omega, Int.le_refl _, .inl ⟨rfl, by simp⟩⟩
      have hk2 := kvb_iff.2 hkv2
      have hI := fun W => implStartWith_of o l m s1 W hs _ _ _ _ _ _ _ fun W => implLearnKnown_yes o l m none 0 [] 0 (-1) s1 W (hr W) hm1 hk hd qs hqs
      have hS := fun W => specStartWith_of o l m s1 W hs _ _ _ _ _ _ _ fun W => specLearnKnown_yes o l m none 0 [] 0 (-1) s1 W (hr W) hm1 hk hd qs hqs
      cases hd2 : dfB o l m s2
      · exact ⟨⟨#[]⟩, false, (show (0 : Nat) ≤ 4000 by omega), fun W => implCompressWith_of o l m s1 s2 W _ _ _ _ _ _ _ _ hI fun W a cap hr => implCompress_no o l m a cap qs _ _ s2 W hr hm2 (.inr hd2),
          fun W => specCompressWith_of o l m s1 s2 W _ _ _ _ _ _ _ _ hS fun W a cap hr => specCompress_no o l m a cap qs _ _ s2 W hr hm2 (.inr hd2)⟩
      · obtain ⟨V, hV, hl⟩ := cmp_ex hk2 hd2
        refine ⟨_, true, ?_, fun W => implCompressWith_of o l m s1 s2 W _ _ _ _ _ _ _ _ hI fun W a cap hr => implCompress_yes o l m a cap qs qs.length (-1) s2 W hr hm2 hk2 hd2 V hV hl,
          fun W => specCompressWith_of o l m s1 s2 W _ _ _ _ _ _ _ _ hS fun W a cap hr => specCompress_yes o l m a cap qs qs.length (-1) s2 W hr hm2 hk2 hd2 V hV hl⟩
        rw [bstr_size]
        exact cmpL_len hkv2 hV hl

end Go.Proofs.Ytmenpflcmpihpaa
