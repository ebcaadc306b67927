/- Arguments that hold something known, opened. -/
import Derived.Test.YtbedikodiboofaaLaw
namespace Go.Proofs.Ytbedikodiboofaa
open Go.RowKit
open Go.ChangeShapes Go.WideShapes Go.ChangeAt Go.RowKit Go.WideElems
set_option linter.unusedVariables false
set_option linter.unusedSimpArgs false

section
variable {H : Type} {enc : TypeId × Value → H} {P : Program} {W W' : World}

/-- a struct of a setting, a slice of pairs and two numbers, opened, from its cells -/
theorem known_cells {t ts tsl te ti : TypeId} {f0 f1 f2 f3 g0 g1 g2 p0 p1 : Field} {fuel : Nat} {c0 c1 c2 c3 c4 c5 : Value} {x : DataW H × List MemPlace}
    (ht : P.underlying t = some (.struct #[f0, f1, f2, f3])) (hs : P.underlying ts = some (.struct #[g0, g1, g2])) (hsl : P.underlying tsl = some (.slice te)) (he : P.underlying te = some (.struct #[p0, p1])) (hi : P.underlying ti = some (.int .i64))
    (F : (f0.type, f0.offset, f1.type, f1.offset, f2.type, f2.offset, f3.type, f3.offset) = (ts, 0, tsl, 3, ti, 4, ti, 5)) (G : (g0.type, g0.offset, g1.type, g1.offset, g2.type, g2.offset) = (ti, 0, ti, 1, ti, 2)) (Q : (p0.type, p0.offset, p1.type, p1.offset) = (ti, 0, ti, 1))
    (C : (P.cellsOf t, P.cellsOf ts, P.cellsOf tsl, P.cellsOf te, P.cellsOf ti) = (6, 3, 1, 2, 1))
    (hf : DataW.trod enc P W 0 (fun _ => true) true fuel t [c0, c1, c2, c3, c4, c5] = some x) :
    ∃ (o l m : Int) (a : Option Addr) (cap : Nat) (ps : List Pr) (base last : Int), [c0, c1, c2, c3, c4, c5] = [.int .i64 o, .int .i64 l, .int .i64 m, .slice a ps.length cap, .int .i64 base, .int .i64 last] ∧ RdP W a cap ps := by
  simp only [Prod.mk.injEq] at F G Q C
  obtain ⟨F1, F2, F3, F4, F5, F6, F7, F8⟩ := F
  obtain ⟨G1, G2, G3, G4, G5, G6⟩ := G
  obtain ⟨Q1, Q2, Q3, Q4⟩ := Q
  obtain ⟨C1, C2, C3, C4, C5⟩ := C
  obtain ⟨xs, n, _, hx, _, hlen, hg⟩ := DataW.trod_struct ht hf
  match xs, hlen with
  | [y0, y1, y2, y3], _ =>
    have h0 := hg 0 f0 rfl
    have h1 := hg 1 f1 rfl
    have h2 := hg 2 f2 rfl
    have h3 := hg 3 f3 rfl
    simp [F1, F2, F3, F4, F5, F6, F7, F8, C2, C3, C5, Value.cells] at h0 h1 h2 h3
    obtain ⟨zs, n2, _, hz, _, hzl, hzg⟩ := DataW.trod_struct hs h0
    match zs, hzl with
    | [z0, z1, z2], _ =>
      have k0 := hzg 0 g0 rfl
      have k1 := hzg 1 g1 rfl
      have k2 := hzg 2 g2 rfl
      simp [G1, G2, G3, G4, G5, G6, C5] at k0 k1 k2
      obtain ⟨o, e0, _⟩ := DataW.trod_int hi k0
      obtain ⟨l, e1, _⟩ := DataW.trod_int hi k1
      obtain ⟨m, e2, _⟩ := DataW.trod_int hi k2
      obtain ⟨base, e4, _⟩ := DataW.trod_int hi h2
      obtain ⟨last, e5, _⟩ := DataW.trod_int hi h3
      simp at e0 e1 e2 e4 e5
      subst e0 e1 e2 e4 e5
      rcases Go.Deep.open_slice_pairs hsl he C4 Q2 Q4 (by rw [Q1]; exact C5) (by rw [Q3]; exact C5) h1 with ⟨hc, _⟩ | ⟨A, len, cap, mm, k, V0, V1, D0, D1, P0, P1, hc, hbA, hlc, hcm, hmm, hy, hcell⟩
      · simp at hc
        subst hc
        exact ⟨o, l, m, none, 0, [], base, last, rfl, by simp, by omega, .inl rfl⟩
      · simp at hc
        subst hc
        simp at hmm
        subst hmm
        have hV : ∀ i, i < mm → ∃ q : Int × Int, V0 i = .int .i64 q.1 ∧ V1 i = .int .i64 q.2 := by
          intro i him
          obtain ⟨_, _, w0, w1⟩ := hcell i him
          rw [Q1] at w0
          rw [Q3] at w1
          obtain ⟨u0, e0, _⟩ := DataW.trod_int hi w0
          obtain ⟨u1, e1, _⟩ := DataW.trod_int hi w1
          simp at e0 e1
          exact ⟨(u0, u1), e0, e1⟩
        obtain ⟨q, hq⟩ := Go.Deep.choose_lt hV
        refine ⟨o, l, m, some A, mm, (List.range len).map fun i => ⟨(q i).1, (q i).2⟩, base, last, by simp, by simpa using hlc, by simpa [maxLen] using hcm, ?_⟩
        rcases Nat.eq_zero_or_pos mm with hm0 | hm0
        · exact .inl hm0
        · have hspot : A.spot = none := by
            have := (hcell 0 hm0).1
            unfold World.cell? at this
            split at this
            · cases hsp : A.spot with
              | none => rfl
              | some z => simp [Addr.add, hsp] at this
            · cases this
          have hblk := World.block_lt_of_cell? W _ (hcell 0 hm0).1
          refine .inr ⟨A.block, A.off, by cases A; simp_all, by simpa [Addr.add] using hblk, ?_⟩
          refine row_cells encP (fun j => W.cell? ⟨A.block, A.off + j, none⟩) _ fun i x hx j hj => ?_
          have hi' : i < len := by have := (List.getElem?_eq_some_iff.1 hx).1; simpa using this
          simp [hi'] at hx
          subst hx
          obtain ⟨w0, w1, _, _⟩ := hcell i (by omega)
          rw [(hq i (by omega)).1] at w0
          rw [(hq i (by omega)).2] at w1
          have hj' : j < 2 := hj
          rcases (by omega : j = 0 ∨ j = 1) with rfl | rfl
          · have : A.add (i * 2) = ⟨A.block, A.off + (i * encP.sz + 0), none⟩ := by
              obtain ⟨bb, oo, ss⟩ := A
              simp only at hspot
              subst hspot
              rw [Addr.add_lit]; rfl
            rw [this] at w0; exact w0
          · have : A.add (i * 2 + 1) = ⟨A.block, A.off + (i * encP.sz + 1), none⟩ := by
              obtain ⟨bb, oo, ss⟩ := A
              simp only at hspot
              subst hspot
              rw [Addr.add_lit]; rfl
            rw [this] at w1; exact w1

/-- a reader, opened -/
theorem open_reader {tr t ts tsl te ti tstr : TypeId} {r0 r1 r2 r3 r4 f0 f1 f2 f3 g0 g1 g2 p0 p1 : Field} {r : Reach} {b0 : Nat} {v : Value} {d : DataW H} {pl : List MemPlace}
    (htr : P.underlying tr = some (.struct #[r0, r1, r2, r3, r4])) (hstr : P.underlying tstr = some .string)
    (ht : P.underlying t = some (.struct #[f0, f1, f2, f3])) (hs : P.underlying ts = some (.struct #[g0, g1, g2])) (hsl : P.underlying tsl = some (.slice te)) (he : P.underlying te = some (.struct #[p0, p1])) (hi : P.underlying ti = some (.int .i64))
    (R : (r0.type, r0.offset, r1.type, r1.offset, r2.type, r2.offset, r3.type, r3.offset, r4.type, r4.offset) = (t, 0, tstr, 6, ti, 7, ti, 8, ti, 9))
    (F : (f0.type, f0.offset, f1.type, f1.offset, f2.type, f2.offset, f3.type, f3.offset) = (ts, 0, tsl, 3, ti, 4, ti, 5)) (G : (g0.type, g0.offset, g1.type, g1.offset, g2.type, g2.offset) = (ti, 0, ti, 1, ti, 2)) (Q : (p0.type, p0.offset, p1.type, p1.offset) = (ti, 0, ti, 1))
    (C : (P.cellsOf t, P.cellsOf ts, P.cellsOf tsl, P.cellsOf te, P.cellsOf ti) = (6, 3, 1, 2, 1)) (C' : (P.cellsOf tr, P.cellsOf tstr) = (10, 1))
    (hval : Value.okWide P W r b0 tr v) (h : DataW.Trod enc P W 0 (fun _ => true) true tr v d pl) :
    ∃ (o l m : Int) (a : Option Addr) (cap : Nat) (ps : List Pr) (base last : Int) (s : ByteArray) (z c e : Int), v = .agg #[.int .i64 o, .int .i64 l, .int .i64 m, .slice a ps.length cap, .int .i64 base, .int .i64 last, .string s, .int .i64 z, .int .i64 c, .int .i64 e] ∧ RdP W a cap ps ∧ s.size ≤ maxLen := by
  have C2 := C
  simp only [Prod.mk.injEq] at R C2 C'
  obtain ⟨R1, R2, R3, R4, R5, R6, R7, R8, R9, R10⟩ := R
  obtain ⟨D1, D2⟩ := C'
  obtain ⟨C1, _, _, _, C5⟩ := C2
  obtain ⟨cs, rfl, hsz⟩ := okWide_struct htr hval
  rw [D1] at hsz
  obtain ⟨fuel, hf⟩ := h
  obtain ⟨xs, n, _, hx, _, hlen, hg⟩ := DataW.trod_struct htr hf
  obtain ⟨l⟩ := cs
  match l, hsz with
  | [c0, c1, c2, c3, c4, c5, c6, c7, c8, c9], _ =>
    match xs, hlen with
    | [y0, y1, y2, y3, y4], _ =>
      have h0 := hg 0 r0 rfl
      have h1 := hg 1 r1 rfl
      have h2 := hg 2 r2 rfl
      have h3 := hg 3 r3 rfl
      have h4 := hg 4 r4 rfl
      simp [R1, R2, R3, R4, R5, R6, R7, R8, R9, R10, C1, C5, D2, Value.cells] at h0 h1 h2 h3 h4
      obtain ⟨o, l, m, a, cap, ps, base, last, hc, hr⟩ := known_cells ht hs hsl he hi F G Q C h0
      obtain ⟨s, e1, _, e2⟩ := DataW.trod_string hstr h1
      obtain ⟨z, e3, _⟩ := DataW.trod_int hi h2
      obtain ⟨c, e4, _⟩ := DataW.trod_int hi h3
      obtain ⟨e, e5, _⟩ := DataW.trod_int hi h4
      simp only [List.cons.injEq, and_true] at hc e1 e3 e4 e5
      obtain ⟨rfl, rfl, rfl, rfl, rfl, rfl⟩ := hc
      subst e1 e3 e4 e5
      exact ⟨o, l, m, a, cap, ps, base, last, s, z, c, e, rfl, hr, e2⟩

end
end Go.Proofs.Ytbedikodiboofaa
