/- How an argument reads that is a slice of samples, or a sample. -/
import Derived.Test.YtebjdiiogihcdaaOpen
import Derived.Test.YtebjdiiogihcdaaCa
import Derived.Deep.SlicePairs
namespace Go.Proofs.Ytebjdiiogihcdaa
open Go Go.RowKit Go.ChangeShapes Go.WideShapes Go.ChangeAt Go.Joins Go.Deep Go.WideElems
set_option linter.unusedSimpArgs false

section
variable {H : Type} {enc : TypeId × Value → H} {P : Program} {w : World} {base : Nat} {held : Bool}

theorem arg_smps {t e tn : TypeId} {f0 f1 : Field} {v : Value} {d : DataW H} {ps : List MemPlace} (ht : P.underlying t = some (.slice e)) (he : P.underlying e = some (.struct #[f0, f1])) (ce : P.cellsOf e = 2) (o0 : f0.offset = 0) (o1 : f1.offset = 1)
    (t0 : f0.type = tn) (t1 : f1.type = tn) (cn : P.cellsOf tn = 1) (hn : P.underlying tn = some (.int .i64)) (hb : P.bytesOf e = 16)
    (hv : ∃ a len cap, v = .slice a len cap) (h : DataW.Trod enc P w base (fun _ => true) held t v d ps) (hw : ∀ n ∈ DataW.weights P t d, n ≤ reachBytes) :
    ∃ l : List (Int × Int), Sl w 2 v l.length (sc l) ∧ S64 l ∧ l.length * 16 ≤ 140737488351232 := by
  obtain ⟨fuel, hf⟩ := h
  obtain ⟨a, len, cap, rfl⟩ := hv
  rcases open_slice_pairs (x := (d, ps)) ht he ce o0 o1 (by rw [t0]; exact cn) (by rw [t1]; exact cn) (by simpa [Value.cells] using hf) with ⟨hcs, _⟩ | ⟨a', len', cap', m, n, V0, V1, D0, D1, P0, P1, hcs, _, hl, hm, hmm, hx, hall⟩
  · simp only [List.cons.injEq, and_true] at hcs
    rw [hcs]
    exact ⟨[], Sl.nil w 2, (by intro s hs; cases hs), by simp⟩
  · simp only [List.cons.injEq, Value.slice.injEq, and_true] at hcs
    obtain ⟨rfl, rfl, rfl⟩ := hcs
    simp only [if_true] at hmm
    subst hmm
    have hint : ∀ i, i < m → ∃ x y : Int, V0 i = .int .i64 x ∧ V1 i = .int .i64 y ∧ (Lit.int .i64 x).wf = true ∧ (Lit.int .i64 y).wf = true := by
      intro i hi
      obtain ⟨_, _, h2, h3⟩ := hall i hi
      rw [t0] at h2; rw [t1] at h3
      obtain ⟨x, e1, _, w1⟩ := DataW.trod_int hn h2
      obtain ⟨y, e2, _, w2⟩ := DataW.trod_int hn h3
      simp only [List.cons.injEq, and_true] at e1 e2
      exact ⟨x, y, e1, e2, w1, w2⟩
    refine ⟨(List.range len).map fun i => (intOf (V0 i), intOf (V1 i)), ?_, ?_, ?_⟩
    · rw [List.length_map, List.length_range]
      refine ⟨by simp, some a', m, rfl, hl, hm, (fun h => by cases h), fun a2 ha2 j u hu => ?_⟩
      cases ha2
      have hj : j < len * 2 := by
        have := (List.getElem?_eq_some_iff.1 hu).1
        simpa using this
      have hgd : ∀ i, i < len → ((List.range len).map fun i => (intOf (V0 i), intOf (V1 i))).getD i (0, 0) = (intOf (V0 i), intOf (V1 i)) := by
        intro i hi; simp [List.getD, hi]
      rcases (show j = j / 2 * 2 ∨ j = j / 2 * 2 + 1 by omega) with hj2 | hj2
      · obtain ⟨x, y, e1, e2, _, _⟩ := hint (j / 2) (by omega)
        have h1 := (hall (j / 2) (by omega)).1
        rw [hj2, sc_get0 _ _ (by simp; omega), hgd _ (by omega), e1] at hu
        simp only [intOf, Option.some.injEq] at hu
        rw [hj2, h1, e1, ← hu]
      · obtain ⟨x, y, e1, e2, _, _⟩ := hint (j / 2) (by omega)
        have h1 := (hall (j / 2) (by omega)).2.1
        rw [hj2, sc_get1 _ _ (by simp; omega), hgd _ (by omega), e2] at hu
        simp only [intOf, Option.some.injEq] at hu
        rw [hj2, h1, e2, ← hu]
    · intro s hs
      obtain ⟨i, hi, rfl⟩ := List.mem_map.1 hs
      obtain ⟨x, y, e1, e2, w1, w2⟩ := hint i (by have := List.mem_range.1 hi; omega)
      rw [e1, e2]
      exact ⟨bounds_i64 w1, bounds_i64 w2⟩
    · have := hw (((List.range len).map fun i => DataW.agg [D0 i, D1 i]).length * P.bytesOf e + ((List.range (m - len)).map fun j => DataW.agg [D0 (len + j), D1 (len + j)]).length * P.bytesOf e) (by
        simp only [Prod.mk.injEq] at hx
        rw [hx.1]; simp [DataW.weights, ht, Nat.add_mul])
      simp only [List.length_map, List.length_range] at this ⊢
      rw [hb] at this
      simp only [reachBytes] at this
      omega

/-- A sample, by value. -/
theorem arg_smp {t tn : TypeId} {f0 f1 : Field} {r : Reach} {b0 : Nat} {v : Value} {d : DataW H} {ps : List MemPlace} (hs : P.underlying t = some (.struct #[f0, f1])) (hone : oneCellFields P #[f0, f1] = true) (hC : P.cellsOf t = 2)
    (e0 : f0.type = tn) (e1 : f1.type = tn) (hn : P.underlying tn = some (.int .i64))
    (hv : Value.okWide P w r b0 t v) (h : DataW.Trod enc P w base (fun _ => true) held t v d ps) :
    ∃ x y : Int, v = .agg #[.int .i64 x, .int .i64 y] ∧ (-9223372036854775808 ≤ x ∧ x ≤ 9223372036854775807) ∧ (-9223372036854775808 ≤ y ∧ y ≤ 9223372036854775807) := by
  obtain ⟨c0, c1, y0, y1, m, rfl, rfl, rfl, hy0, hy1⟩ := open_agg2 hs hone hC hv h
  rw [e0] at hy0
  rw [e1] at hy1
  obtain ⟨a, ea, _, wa⟩ := DataW.trod_int hn hy0
  obtain ⟨b, eb, _, wb⟩ := DataW.trod_int hn hy1
  simp only [List.cons.injEq, and_true] at ea eb
  subst ea eb
  exact ⟨a, b, rfl, bounds_i64 wa, bounds_i64 wb⟩
end
end Go.Proofs.Ytebjdiiogihcdaa
