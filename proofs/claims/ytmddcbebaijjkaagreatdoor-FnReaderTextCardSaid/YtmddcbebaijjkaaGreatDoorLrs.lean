/- soReaders of equal readers; soMany; soCut. -/
import Derived.Test.YtmddcbebaijjkaaGreatDoorSok
namespace Go.Proofs.YtmddcbebaijjkaaGreatDoor
open Go.RowKit
set_option linter.unusedVariables false
set_option linter.unusedSimpArgs false

set_option maxRecDepth 100000 in
set_option maxHeartbeats 2000000 in
theorem soReaders_yes (o l m : Int) (a a' : Option Addr) (cap cap' : Nat) (ps : List Pr) (base last : Int) (s : ByteArray) (z c e1 : Int) (w : World) (hr : RdP w a cap ps) (hr' : RdP w a' cap' ps) :
    Calls Tryz.prog 15 #[.agg #[.int .i64 o, .int .i64 l, .int .i64 m, .slice a ps.length cap, .int .i64 base, .int .i64 last, .string s, .int .i64 z, .int .i64 c, .int .i64 e1], .agg #[.int .i64 o, .int .i64 l, .int .i64 m, .slice a' ps.length cap', .int .i64 base, .int .i64 last, .string s, .int .i64 z, .int .i64 c, .int .i64 e1]] w (Ret w (.bool true)) := by
  have HR := Lib.hid (show Rd encP w a cap ps from hr)
  have HR' := Lib.hid (show Rd encP w a' cap' ps from hr')
  have v1 : (s.toList == s.toList) = true := by simp
  have v2 : (z == z) = true := by simp
  have v3 : (c == c) = true := by simp
  have v4 : (e1 == e1) = true := by simp
  clear hr hr'
  go_enter Tryz.func15, Tryz.ntmps15
  go_wp2_with fail
  refine (soKnown_yes o l m a a' cap cap' ps base last _ (by (try unfold RdP); repeat (first | (with_reducible exact HR.out) | (with_reducible apply rd_seq) | (with_reducible apply Rd.plus) | (with_reducible apply Rd.alloc) | (with_reducible apply Rd.drew) | (with_reducible apply Rd.drewN))) (by (try unfold RdP); repeat (first | (with_reducible exact HR'.out) | (with_reducible apply rd_seq) | (with_reducible apply Rd.plus) | (with_reducible apply Rd.alloc) | (with_reducible apply Rd.drew) | (with_reducible apply Rd.drewN)))).mono ?_
  rintro e w' ⟨rfl, x, rfl⟩
  go_wp2_with fail
  go_ret
  exact Ret.mk (by repeat (first | exact More.refl _ | apply More.plus | apply More.alloc | apply More.drew | apply More.drewN))

end Go.Proofs.YtmddcbebaijjkaaGreatDoor
