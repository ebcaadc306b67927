/- The walks of DecompressWith, of the program and of the reference. -/
import Derived.Test.YtmenpflcmpihpaaJDecompress
import Derived.Test.YtmenpflcmpihpaaSwi
import Derived.Test.YtmenpflcmpihpaaTmp
namespace Go.Proofs.Ytmenpflcmpihpaa
open Go.RowKit
set_option linter.unusedVariables false
set_option linter.unusedSimpArgs false

set_option maxRecDepth 100000 in
theorem implDecompressWith_no1 (o l m : Int) (s1 s2 : ByteArray) (w : World) (O L M B LA : Int) (qs : List Pr)
    (h : ∀ (W : World), Calls Try.prog 86 #[.agg #[.int .i64 o, .int .i64 l, .int .i64 m], .string s1] W (RetO W (fun a0 c0 => .tuple #[.agg #[.int .i64 O, .int .i64 L, .int .i64 M, .slice a0 qs.length c0, .int .i64 B, .int .i64 LA], .bool false]) qs)) :
    Calls Try.prog 35 #[.agg #[.int .i64 o, .int .i64 l, .int .i64 m], .string s1, .string s2] w (Ret w (.tuple #[.string ⟨#[]⟩, .int .i64 4, .int .i64 0])) := by
  have HH := Lib.hid h
  clear h
  go_enter Try.func35, Try.ntmps35
  go_wp2_with fail
  refine (HH.out _).mono ?_
  rintro e w' ⟨pa, pc, rfl, hown, x2, rfl⟩
  clear hown
  go_wp2_with fail
  exact bodyPost_ret (v := .tuple #[.string ⟨#[]⟩, .int .i64 4, .int .i64 0]) (by simp [results, Try.results35, go_sem, ↓IntWalk.iteOmega]) rfl (Ret.mk (by repeat (first | exact More.refl _ | apply More.plus | apply More.alloc | apply More.drew | apply More.drewN)))

set_option maxRecDepth 100000 in
theorem implDecompressWith_of (o l m : Int) (s1 s2 : ByteArray) (w : World) (O L M B LA : Int) (qs : List Pr) (y : ByteArray) (en us : Int)
    (h : ∀ (W : World), Calls Try.prog 86 #[.agg #[.int .i64 o, .int .i64 l, .int .i64 m], .string s1] W (RetO W (fun a0 c0 => .tuple #[.agg #[.int .i64 O, .int .i64 L, .int .i64 M, .slice a0 qs.length c0, .int .i64 B, .int .i64 LA], .bool true]) qs))
    (hC : ∀ (W : World) (a : Option Addr) (cap : Nat), RdP W a cap qs → Calls Try.prog 32 #[.agg #[.int .i64 O, .int .i64 L, .int .i64 M, .slice a qs.length cap, .int .i64 B, .int .i64 LA], .string s2] W (Ret W (.tuple #[.string y, .int .i64 en, .int .i64 us]))) :
    Calls Try.prog 35 #[.agg #[.int .i64 o, .int .i64 l, .int .i64 m], .string s1, .string s2] w (Ret w (.tuple #[.string y, .int .i64 en, .int .i64 us])) := by
  have HH := Lib.hid h
  have HC := Lib.hid hC
  clear h hC
  go_enter Try.func35, Try.ntmps35
  go_wp2_with fail
  refine (HH.out _).mono ?_
  rintro e w' ⟨pa, pc, rfl, hown, x2, rfl⟩
  have HR := Lib.hid hown.rd
  clear hown
  go_wp2_with (go_at_call 32; refine (HC.out _ _ _ (by repeat (first | exact HR.out | apply rd_seq | apply Rd.plus | apply Rd.alloc | apply Rd.drew | apply Rd.drewN | refine rd_patch ?_ _ _ (by intro A hA; first | (cases hA; show _ ≠ _; omega) | (have := hal A hA; omega))))).mono ?_; rintro e w' ⟨rfl, xc, rfl⟩)
  exact bodyPost_ret (v := .tuple #[.string y, .int .i64 en, .int .i64 us]) (by simp [results, Try.results35, go_sem, ↓IntWalk.iteOmega]) rfl (Ret.mk (by repeat (first | exact More.refl _ | apply More.plus | apply More.alloc | apply More.drew | apply More.drewN)))

set_option maxRecDepth 100000 in
theorem specDecompressWith_no1 (o l m : Int) (s1 s2 : ByteArray) (w : World) (O L M B LA : Int) (qs : List Pr)
    (h : ∀ (W : World), Calls Try.prog 85 #[.agg #[.int .i64 o, .int .i64 l, .int .i64 m], .string s1] W (RetO W (fun a0 c0 => .tuple #[.agg #[.int .i64 O, .int .i64 L, .int .i64 M, .slice a0 qs.length c0, .int .i64 B, .int .i64 LA], .bool false]) qs)) :
    Calls Try.prog 33 #[.agg #[.int .i64 o, .int .i64 l, .int .i64 m], .string s1, .string s2] w (Ret w (.tuple #[.string ⟨#[]⟩, .int .i64 4, .int .i64 0])) := by
  have HH := Lib.hid h
  clear h
  go_enter Try.func33, Try.ntmps33
  go_wp2_with fail
  refine (HH.out _).mono ?_
  rintro e w' ⟨pa, pc, rfl, hown, x2, rfl⟩
  clear hown
  go_wp2_with fail
  exact bodyPost_ret (v := .tuple #[.string ⟨#[]⟩, .int .i64 4, .int .i64 0]) (by simp [results, Try.results33, go_sem, ↓IntWalk.iteOmega]) rfl (Ret.mk (by repeat (first | exact More.refl _ | apply More.plus | apply More.alloc | apply More.drew | apply More.drewN)))

set_option maxRecDepth 100000 in
theorem specDecompressWith_of (o l m : Int) (s1 s2 : ByteArray) (w : World) (O L M B LA : Int) (qs : List Pr) (y : ByteArray) (en us : Int)
    (h : ∀ (W : World), Calls Try.prog 85 #[.agg #[.int .i64 o, .int .i64 l, .int .i64 m], .string s1] W (RetO W (fun a0 c0 => .tuple #[.agg #[.int .i64 O, .int .i64 L, .int .i64 M, .slice a0 qs.length c0, .int .i64 B, .int .i64 LA], .bool true]) qs))
    (hC : ∀ (W : World) (a : Option Addr) (cap : Nat), RdP W a cap qs → Calls Try.prog 31 #[.agg #[.int .i64 O, .int .i64 L, .int .i64 M, .slice a qs.length cap, .int .i64 B, .int .i64 LA], .string s2] W (Ret W (.tuple #[.string y, .int .i64 en, .int .i64 us]))) :
    Calls Try.prog 33 #[.agg #[.int .i64 o, .int .i64 l, .int .i64 m], .string s1, .string s2] w (Ret w (.tuple #[.string y, .int .i64 en, .int .i64 us])) := by
  have HH := Lib.hid h
  have HC := Lib.hid hC
  clear h hC
  go_enter Try.func33, Try.ntmps33
  go_wp2_with fail
  refine (HH.out _).mono ?_
  rintro e w' ⟨pa, pc, rfl, hown, x2, rfl⟩
  have HR := Lib.hid hown.rd
  clear hown
  go_wp2_with (go_at_call 31; refine (HC.out _ _ _ (by repeat (first | exact HR.out | apply rd_seq | apply Rd.plus | apply Rd.alloc | apply Rd.drew | apply Rd.drewN | refine rd_patch ?_ _ _ (by intro A hA; first | (cases hA; show _ ≠ _; omega) | (have := hal A hA; omega))))).mono ?_; rintro e w' ⟨rfl, xc, rfl⟩)
  exact bodyPost_ret (v := .tuple #[.string y, .int .i64 en, .int .i64 us]) (by simp [results, Try.results33, go_sem, ↓IntWalk.iteOmega]) rfl (Ret.mk (by repeat (first | exact More.refl _ | apply More.plus | apply More.alloc | apply More.drew | apply More.drewN)))

/-- what DecompressWith returns, of the program and of the reference alike -/
theorem dwi_ex (o l m : Int) (s1 s2 : ByteArray) (hm1 : s1.size ≤ maxLen) (hm2 : s2.size ≤ maxLen) : ∃ (y : ByteArray) (en us : Int),
    (∀ W : World, Calls Try.prog 35 #[.agg #[.int .i64 o, .int .i64 l, .int .i64 m], .string s1, .string s2] W (Ret W (.tuple #[.string y, .int .i64 en, .int .i64 us]))) ∧
    (∀ W : World, Calls Try.prog 33 #[.agg #[.int .i64 o, .int .i64 l, .int .i64 m], .string s1, .string s2] W (Ret W (.tuple #[.string y, .int .i64 en, .int .i64 us]))) := by
  cases hs : sv o l m
  · exact ⟨⟨#[]⟩, 4, 0, fun W => implDecompressWith_no1 o l m s1 s2 W 0 0 0 0 0 [] fun W => implStartWith_nos o l m s1 W hs, fun W => specDecompressWith_no1 o l m s1 s2 W 0 0 0 0 0 [] fun W => specStartWith_nos o l m s1 W hs⟩
  · have hr : ∀ W : World, RdP W none 0 [] := fun W => rd_none W
    have hk : kvb o l m [] 0 (-1) = true := kvb_iff.2 (kv_start hs)
    cases hd : dfB o l m s1
    · exact ⟨⟨#[]⟩, 4, 0,
        fun W => implDecompressWith_no1 o l m s1 s2 W _ _ _ _ _ _ fun W => implStartWith_of o l m s1 W hs _ _ _ _ _ _ _ fun W => implLearnKnown_no o l m none 0 [] 0 (-1) s1 W (hr W) hm1 (.inr hd),
        fun W => specDecompressWith_no1 o l m s1 s2 W _ _ _ _ _ _ fun W => specStartWith_of o l m s1 W hs _ _ _ _ _ _ _ fun W => specLearnKnown_no o l m none 0 [] 0 (-1) s1 W (hr W) hm1 (.inr hd)⟩
    · obtain ⟨qs, hqs⟩ : ∃ qs, (lrn l m s1.size (([] : List Pr).take (0 : Int).toNat) (-1) s1.data.toList).1 = qs := ⟨_, rfl⟩
      have hI := fun W => implStartWith_of o l m s1 W hs _ _ _ _ _ _ _ fun W => implLearnKnown_yes o l m none 0 [] 0 (-1) s1 W (hr W) hm1 hk hd qs hqs
      have hS := fun W => specStartWith_of o l m s1 W hs _ _ _ _ _ _ _ fun W => specLearnKnown_yes o l m none 0 [] 0 (-1) s1 W (hr W) hm1 hk hd qs hqs
      obtain ⟨y, en, us, _, dS, dI⟩ := dec_ex o l m none 0 qs (qs.length : Int) (-1) s2 hm2
      exact ⟨y, en, us, fun W => implDecompressWith_of o l m s1 s2 W _ _ _ _ _ _ _ _ _ hI dI, fun W => specDecompressWith_of o l m s1 s2 W _ _ _ _ _ _ _ _ _ hS dS⟩

end Go.Proofs.Ytmenpflcmpihpaa
