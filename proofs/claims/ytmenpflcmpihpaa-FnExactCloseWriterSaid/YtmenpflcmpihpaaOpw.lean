/- Arguments that are writers, opened. -/
import Derived.Test.YtmenpflcmpihpaaGb
namespace Go.Proofs.Ytmenpflcmpihpaa
open Go.RowKit
open Go.ChangeShapes Go.WideShapes Go.ChangeAt Go.RowKit Go.WideElems
set_option linter.unusedVariables false
set_option linter.unusedSimpArgs false

/-- a writer, opened -/
theorem open_writer {H : Type} {enc : TypeId × Value → H} {P : Program} {W : World} {tr t ts tsl te ti tstr tb : TypeId} {r0 r1 r2 r3 f0 f1 f2 f3 g0 g1 g2 p0 p1 : Field} {r : Reach} {b0 : Nat} {v : Value} {d : DataW H} {pl : List MemPlace}
    (htr : P.underlying tr = some (.struct #[r0, r1, r2, r3])) (hstr : P.underlying tstr = some .string) (htb : P.underlying tb = some .bool)
    (ht : P.underlying t = some (.struct #[f0, f1, f2, f3])) (hs : P.underlying ts = some (.struct #[g0, g1, g2])) (hsl : P.underlying tsl = some (.slice te)) (he : P.underlying te = some (.struct #[p0, p1])) (hi : P.underlying ti = some (.int .i64))
    (R : (r0.type, r0.offset, r1.type, r1.offset, r2.type, r2.offset, r3.type, r3.offset) = (t, 0, tstr, 6, tstr, 7, tb, 8))
    (F : (f0.type, f0.offset, f1.type, f1.offset, f2.type, f2.offset, f3.type, f3.offset) = (ts, 0, tsl, 3, ti, 4, ti, 5)) (G : (g0.type, g0.offset, g1.type, g1.offset, g2.type, g2.offset) = (ti, 0, ti, 1, ti, 2)) (Q : (p0.type, p0.offset, p1.type, p1.offset) = (ti, 0, ti, 1))
    (C : (P.cellsOf t, P.cellsOf ts, P.cellsOf tsl, P.cellsOf te, P.cellsOf ti) = (6, 3, 1, 2, 1)) (C' : (P.cellsOf tr, P.cellsOf tstr, P.cellsOf tb) = (9, 1, 1))
    (hval : Value.okWide P W r b0 tr v) (h : DataW.Trod enc P W 0 (fun _ => true) true tr v d pl) :
    ∃ (o l m : Int) (a : Option Addr) (cap : Nat) (ps : List Pr) (base last : Int) (sp sq : ByteArray) (bg : Bool), v = .agg #[.int .i64 o, .int .i64 l, .int .i64 m, .slice a ps.length cap, .int .i64 base, .int .i64 last, .string sp, .string sq, .bool bg] ∧ RdP W a cap ps ∧ sp.size ≤ maxLen ∧ sq.size ≤ maxLen := by
  have C2 := C
  simp only [Prod.mk.injEq] at R C2 C'
  obtain ⟨R1, R2, R3, R4, R5, R6, R7, R8⟩ := R
  obtain ⟨D1, D2, D3⟩ := C'
  obtain ⟨C1, _, _, _, C5⟩ := C2
  obtain ⟨cs, rfl, hsz⟩ := okWide_struct htr hval
  rw [D1] at hsz
  obtain ⟨fuel, hf⟩ := h
  obtain ⟨xs, n, _, hx, _, hlen, hg⟩ := DataW.trod_struct htr hf
  obtain ⟨l⟩ := cs
  match l, hsz with
  | [c0, c1, c2, c3, c4, c5, c6, c7, c8], _ =>
    match xs, hlen with
    | [y0, y1, y2, y3], _ =>
      have h0 := hg 0 r0 rfl
      have h1 := hg 1 r1 rfl
      have h2 := hg 2 r2 rfl
      have h3 := hg 3 r3 rfl
      simp [R1, R2, R3, R4, R5, R6, R7, R8, C1, C5, D2, D3, Value.cells] at h0 h1 h2 h3
      obtain ⟨o, l, m, a, cap, ps, base, last, hc, hr⟩ := known_cells ht hs hsl he hi F G Q C h0
      obtain ⟨sp, e1, _, e2⟩ := DataW.trod_string hstr h1
      obtain ⟨sq, e3, _, e4⟩ := DataW.trod_string hstr h2
      obtain ⟨bg, e5, _⟩ := DataW.trod_bool htb h3
      simp only [List.cons.injEq, and_true] at hc e1 e3 e5
      obtain ⟨rfl, rfl, rfl, rfl, rfl, rfl⟩ := hc
      subst e1 e3 e5
      exact ⟨o, l, m, a, cap, ps, base, last, sp, sq, bg, rfl, hr, e2, e4⟩

end Go.Proofs.Ytmenpflcmpihpaa
