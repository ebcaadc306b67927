/- How a law's row is closed: from the walk's 'true, and nothing old has turned'; and arguments opened. -/
import Derived.Test.YtbedikodiboofaaFin
import Derived.Deep.SlicePairs
namespace Go.Proofs.Ytbedikodiboofaa
open Go.RowKit
open Go.ChangeShapes Go.WideShapes Go.ChangeAt Go.RowKit Go.WideElems
set_option linter.unusedVariables false
set_option linter.unusedSimpArgs false

section
variable {H : Type} {enc : TypeId × Value → H} {P : Program} {W W' : World}

theorem trodAll_later (hl : laidOutB P = true) {sp : Nat → Bool} (hb : Below W.heap.size W W') :
    ∀ (ts : List TypeId) (vs : List Value) (ds : List (DataW H)) (p : List MemPlace), ts.all (fun t => P.readableRec t && decide (t < P.types.size)) = true → DataW.TrodAll enc P W 0 (fun _ => true) true ts vs ds p →
      (∀ x ∈ p, x.block < W.heap.size) → (∀ x ∈ p, sp x.block = true) → DataW.TrodAll enc P W' 0 sp true ts vs ds p
  | [], vs, ds, p, _, h, _, _ => by
    obtain ⟨rfl, rfl, rfl⟩ := trodAll_nil h
    exact trodAll_mk0
  | t :: ts, vs, ds, p, ht, h, hlt, hsp => by
    simp only [List.all_cons, Bool.and_eq_true, decide_eq_true_eq] at ht
    obtain ⟨⟨h1, h2⟩, h3⟩ := ht
    obtain ⟨v, vs', d, ds', p1, p2, rfl, rfl, rfl, h4, h5⟩ := trodAll_cons h
    exact trodAll_cons_mk (Trod_stays hl h1 h2 h4 (fun x hx => hb.same (hlt x (List.mem_append_left _ hx))) (fun x hx => hsp x (List.mem_append_left _ hx)))
      (trodAll_later hl hb ts vs' ds' p2 (by simpa using h3) h5 (fun x hx => hlt x (List.mem_append_right _ hx)) (fun x hx => hsp x (List.mem_append_right _ hx)))

/-- the row's post, from a walk that returns true and turns nothing old -/
theorem law_post {f : Func} {s : ChangeSpec} {args : Array Value} {ds gs : List (DataW H)} {before : List MemPlace} {tb : TypeId} (hl : laidOutB P = true)
    (hW : DataW.Whole enc P f.params.toList s.vars false W args.toList ds gs before) (hv : s.vars = []) (hts : f.params.toList.all (fun t => P.readableRec t && decide (t < P.types.size)) = true)
    (hres : f.resultTypes.toList = [tb]) (hbool : P.underlying tb = some .bool) (hfn : s.fn H ds = { results := [.lit (.bool true)], args := ds }) (hb : Below W.heap.size W W') :
    s.post enc P f false true false false W args (.bool true) W' := by
  have hlt : ∀ p ∈ before, p.block < W.heap.size := fun p hp => hW.lt p hp
  have hW2 := hW
  obtain ⟨p, q, hA, hV, rfl, _, _⟩ := hW
  rw [hv] at hV
  obtain ⟨rfl, rfl⟩ := trodVars_none hV
  simp only [List.append_nil] at hW2 hlt
  refine ⟨ds, [], p, [], p, [], hW2, ?_, ?_, ?_, hb.frame _, fun h => by cases h⟩
  · simp only [List.append_nil, hfn, hres]
    have hn : f.resultTypes.size = 1 := by
      have := congrArg List.length hres
      simpa using this
    rw [hn]
    exact trodAll_cons_mk (shut_bool hbool _) trodAll_mk0
  · simp only [List.append_nil, hfn]
    exact trodAll_later hl hb _ _ _ _ hts hA hlt (fun x hx => by simpa using hlt x hx)
  · simp only [List.append_nil, hfn, hv]
    rfl

theorem row_cells {α : Type} (E : Enc α) (g : Nat → Option Value) (xs : List α) (h : ∀ i x, xs[i]? = some x → ∀ j, j < E.sz → g (i * E.sz + j) = (E.enc x)[j]?) : ∀ (j : Nat) (u : Value), (flat E xs)[j]? = some u → g j = some u := by
  intro j u hj
  have hl := (List.getElem?_eq_some_iff.1 hj).1
  rw [flat_len] at hl
  have hpos : 0 < E.sz := by
    rcases Nat.eq_zero_or_pos E.sz with h0 | h0
    · rw [h0] at hl; omega
    · exact h0
  have hi : j / E.sz < xs.length := Nat.div_lt_of_lt_mul (by rw [Nat.mul_comm]; exact hl)
  have hx : xs[j / E.sz]? = some xs[j / E.sz] := List.getElem?_eq_getElem hi
  have hm : j % E.sz < E.sz := Nat.mod_lt _ hpos
  have hj2 : j / E.sz * E.sz + j % E.sz = j := by rw [Nat.mul_comm]; exact Nat.div_add_mod j E.sz
  have h1 := flat_get E xs _ _ hx _ hm
  have h2 := h _ _ hx _ hm
  rw [hj2] at h1 h2
  rw [h2, ← h1, hj]

/-- a struct of a setting, a slice of pairs and two numbers, opened -/
theorem open_known {t ts tsl te ti : TypeId} {f0 f1 f2 f3 g0 g1 g2 p0 p1 : Field} {r : Reach} {b0 : Nat} {v : Value} {d : DataW H} {pl : List MemPlace}
    (ht : P.underlying t = some (.struct #[f0, f1, f2, f3])) (hs : P.underlying ts = some (.struct #[g0, g1, g2])) (hsl : P.underlying tsl = some (.slice te)) (he : P.underlying te = some (.struct #[p0, p1])) (hi : P.underlying ti = some (.int .i64))
    (F : (f0.type, f0.offset, f1.type, f1.offset, f2.type, f2.offset, f3.type, f3.offset) = (ts, 0, tsl, 3, ti, 4, ti, 5)) (G : (g0.type, g0.offset, g1.type, g1.offset, g2.type, g2.offset) = (ti, 0, ti, 1, ti, 2)) (Q : (p0.type, p0.offset, p1.type, p1.offset) = (ti, 0, ti, 1))
    (C : (P.cellsOf t, P.cellsOf ts, P.cellsOf tsl, P.cellsOf te, P.cellsOf ti) = (6, 3, 1, 2, 1))
    (hval : Value.okWide P W r b0 t v) (h : DataW.Trod enc P W 0 (fun _ => true) true t v d pl) (hlt : ∀ x ∈ pl, x.block < W.heap.size) :
    ∃ (o l m : Int) (a : Option Addr) (cap : Nat) (ps : List Pr) (base last : Int), v = .agg #[.int .i64 o, .int .i64 l, .int .i64 m, .slice a ps.length cap, .int .i64 base, .int .i64 last] ∧ RdP W a cap ps := by
  simp only [Prod.mk.injEq] at F G Q C
  obtain ⟨F1, F2, F3, F4, F5, F6, F7, F8⟩ := F
  obtain ⟨G1, G2, G3, G4, G5, G6⟩ := G
  obtain ⟨Q1, Q2, Q3, Q4⟩ := Q
  obtain ⟨C1, C2, C3, C4, C5⟩ := C
  obtain ⟨cs, rfl, hsz⟩ := okWide_struct ht hval
  rw [C1] at hsz
  obtain ⟨fuel, hf⟩ := h
  obtain ⟨xs, n, _, hx, _, hlen, hg⟩ := DataW.trod_struct ht hf
  obtain ⟨l⟩ := cs
  match l, hsz with
  | [c0, c1, c2, c3, c4, c5], _ =>
    match xs, hlen with
    | [y0, y1, y2, y3], _ =>
      have h0 := hg 0 f0 rfl
      have h1 := hg 1 f1 rfl
      have h2 := hg 2 f2 rfl
      have h3 := hg 3 f3 rfl
      simp [F1, F2, F3, F4, F5, F6, F7, F8, C2, C3, C5, Value.cells] at h0 h1 h2 h3
      obtain ⟨zs, n2, _, hz, _, hzl, hzg⟩ := DataW.trod_struct hs h0
      match zs, hzl with
      | [z0, z1, z2], _ =>
        have k0 := hzg 0 g0 rfl
        have k1 := hzg 1 g1 rfl
        have k2 := hzg 2 g2 rfl
        simp [G1, G2, G3, G4, G5, G6, C5] at k0 k1 k2
        obtain ⟨o, e0, _⟩ := DataW.trod_int hi k0
        obtain ⟨l, e1, _⟩ := DataW.trod_int hi k1
        obtain ⟨m, e2, _⟩ := DataW.trod_int hi k2
        obtain ⟨base, e4, _⟩ := DataW.trod_int hi h2
        obtain ⟨last, e5, _⟩ := DataW.trod_int hi h3
        simp at e0 e1 e2 e4 e5
        subst e0 e1 e2 e4 e5
        rcases Go.Deep.open_slice_pairs hsl he C4 Q2 Q4 (by rw [Q1]; exact C5) (by rw [Q3]; exact C5) h1 with ⟨hc, _⟩ | ⟨A, len, cap, mm, k, V0, V1, D0, D1, P0, P1, hc, hbA, hlc, hcm, hmm, hy, hcell⟩
        · simp at hc
          subst hc
          exact ⟨o, l, m, none, 0, [], base, last, rfl, by simp, by omega, .inl rfl⟩
        · simp at hc
          subst hc
          simp at hmm
          subst hmm
          have hV : ∀ i, i < mm → ∃ q : Int × Int, V0 i = .int .i64 q.1 ∧ V1 i = .int .i64 q.2 := by
            intro i him
            obtain ⟨_, _, w0, w1⟩ := hcell i him
            rw [Q1] at w0
            rw [Q3] at w1
            obtain ⟨u0, e0, _⟩ := DataW.trod_int hi w0
            obtain ⟨u1, e1, _⟩ := DataW.trod_int hi w1
            simp at e0 e1
            exact ⟨(u0, u1), e0, e1⟩
          obtain ⟨q, hq⟩ := Go.Deep.choose_lt hV
          refine ⟨o, l, m, some A, mm, (List.range len).map fun i => ⟨(q i).1, (q i).2⟩, base, last, by simp, by simpa using hlc, by simpa [maxLen] using hcm, ?_⟩
          rcases Nat.eq_zero_or_pos mm with hm0 | hm0
          · exact .inl hm0
          · have hspot : A.spot = none := by
              have := (hcell 0 hm0).1
              unfold World.cell? at this
              split at this
              · cases hsp : A.spot with
                | none => rfl
                | some z => simp [Addr.add, hsp] at this
              · cases this
            have hblk := World.block_lt_of_cell? W _ (hcell 0 hm0).1
            refine .inr ⟨A.block, A.off, by cases A; simp_all, by simpa [Addr.add] using hblk, ?_⟩
            refine row_cells encP (fun j => W.cell? ⟨A.block, A.off + j, none⟩) _ fun i x hx j hj => ?_
            have hi' : i < len := by have := (List.getElem?_eq_some_iff.1 hx).1; simpa using this
            simp [hi'] at hx
            subst hx
            obtain ⟨w0, w1, _, _⟩ := hcell i (by omega)
            rw [(hq i (by omega)).1] at w0
            rw [(hq i (by omega)).2] at w1
            have hj' : j < 2 := hj
            rcases (by omega : j = 0 ∨ j = 1) with rfl | rfl
            · have : A.add (i * 2) = ⟨A.block, A.off + (i * encP.sz + 0), none⟩ := by
                obtain ⟨bb, oo, ss⟩ := A
                simp only at hspot
                subst hspot
                rw [Addr.add_lit]; rfl
              rw [this] at w0; exact w0
            · have : A.add (i * 2 + 1) = ⟨A.block, A.off + (i * encP.sz + 1), none⟩ := by
                obtain ⟨bb, oo, ss⟩ := A
                simp only at hspot
                subst hspot
                rw [Addr.add_lit]; rfl
              rw [this] at w1; exact w1

end
end Go.Proofs.Ytbedikodiboofaa
