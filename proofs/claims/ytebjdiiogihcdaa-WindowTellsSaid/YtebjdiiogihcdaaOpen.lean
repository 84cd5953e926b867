/- How the arguments read: bytes, numbers, bits. Of no program. -/
import Derived.Test.YtebjdiiogihcdaaGk
import Derived.ProofKit
import Derived.OpenShut
import Derived.SizedLaws
import Derived.Lib.SmallJoins
namespace Go.Proofs.Ytebjdiiogihcdaa
open Go Go.RowKit Go.ChangeShapes Go.WideShapes Go.ChangeAt Go.Joins Go.Deep Go.WideElems

theorem u8_list : ∀ zs : List Int, (∀ n ∈ zs, (Lit.int .u8 n).wf = true) → ∃ l : List UInt8, zs = l.map fun b => (b.toNat : Int)
  | [], _ => ⟨[], rfl⟩
  | z :: zs, h => by
    obtain ⟨l, hl⟩ := u8_list zs fun n hn => h n (List.mem_cons_of_mem _ hn)
    have hz := bounds_u8 (h z (List.mem_cons_self ..))
    refine ⟨UInt8.ofNat z.toNat :: l, ?_⟩
    rw [List.map_cons, ← hl]
    congr 1
    rw [UInt8.toNat_ofNat', Nat.mod_eq_of_lt (by omega)]
    omega

section
variable {H : Type} {enc : TypeId × Value → H} {P : Program} {w : World} {base : Nat} {held : Bool}

/-- A slice of integers, as its cells read; its numbers; the form's reach. -/
theorem read_ints {t e : TypeId} {k : IntKind} {fuel : Nat} {v : Value} {x : DataW H × List MemPlace} (ht : P.underlying t = some (.slice e)) (he : P.underlying e = some (.int k)) (hc : P.cellsOf e = 1)
    (h : DataW.trod enc P w base (fun _ => true) held fuel t [v] = some x) (hw : ∀ n ∈ DataW.weights P t x.1, n ≤ reachBytes) :
    ∃ zs : List Int, Sl w 1 v zs.length (zs.map (Value.int k)) ∧ (∀ n ∈ zs, (Lit.int k n).wf = true) ∧ zs.length * P.bytesOf e ≤ reachBytes := by
  rcases open_ints ht he hc h with ⟨hcs, _⟩ | ⟨a, len, cap, zs, hcs, _, hl, hm, hz, hx, hcell, hwz⟩
  · simp only [List.cons.injEq, and_true] at hcs
    subst hcs
    exact ⟨[], Sl.nil w 1, by simp, by simp⟩
  · simp only [List.cons.injEq, and_true] at hcs
    subst hcs
    simp only [if_true] at hz
    refine ⟨zs.take len, ?_, fun n hn => hwz n (List.mem_of_mem_take hn), ?_⟩
    · rw [List.length_take, Nat.min_eq_left (by omega)]
      refine ⟨by simp; omega, some a, cap, rfl, hl, hm, (fun h => by cases h), fun a' ha j u hu => ?_⟩
      cases ha
      have hj : j < zs.length := by
        have := (List.getElem?_eq_some_iff.1 hu).1
        simp at this
        omega
      have hjl : j < len := by
        have := (List.getElem?_eq_some_iff.1 hu).1
        simp at this
        omega
      rw [hcell j hj, ← hu]
      simp [List.getElem?_take, hjl, hj]
    · have hx1 : x.1 = .slice (lits k (zs.take len)) (lits k (zs.drop len)) := by rw [hx]
      have := hw ((zs.take len).length * P.bytesOf e + (zs.drop len).length * P.bytesOf e) (by
        rw [hx1]; simp [DataW.weights, ht, lits, Nat.add_mul])
      omega

/-- Bytes. -/
theorem read_bytes {t e : TypeId} {fuel : Nat} {v : Value} {x : DataW H × List MemPlace} (ht : P.underlying t = some (.slice e)) (he : P.underlying e = some (.int .u8)) (hc : P.cellsOf e = 1) (hb : P.bytesOf e = 1)
    (h : DataW.trod enc P w base (fun _ => true) held fuel t [v] = some x) (hw : ∀ n ∈ DataW.weights P t x.1, n ≤ reachBytes) :
    ∃ l : List UInt8, Sl w 1 v l.length (bc l) ∧ l.length ≤ 140737488351232 := by
  obtain ⟨zs, h1, h2, h3⟩ := read_ints ht he hc h hw
  obtain ⟨l, rfl⟩ := u8_list zs h2
  refine ⟨l, ?_, ?_⟩
  · simpa [bc, List.map_map, Function.comp_def] using h1
  · rw [hb] at h3
    simpa [reachBytes] using h3

/-- An argument that is bytes. -/
theorem arg_bytes {t e : TypeId} {v : Value} {d : DataW H} {ps : List MemPlace} (ht : P.underlying t = some (.slice e)) (he : P.underlying e = some (.int .u8)) (hc : P.cellsOf e = 1) (hb : P.bytesOf e = 1)
    (hv : ∃ a len cap, v = .slice a len cap) (h : DataW.Trod enc P w base (fun _ => true) held t v d ps) (hw : ∀ n ∈ DataW.weights P t d, n ≤ reachBytes) :
    ∃ l : List UInt8, Sl w 1 v l.length (bc l) ∧ l.length ≤ 140737488351232 := by
  obtain ⟨fuel, hf⟩ := h
  obtain ⟨a, len, cap, rfl⟩ := hv
  exact read_bytes (x := (d, ps)) ht he hc hb (by simpa [Value.cells] using hf) hw

theorem arg_ints {t e : TypeId} {k : IntKind} {v : Value} {d : DataW H} {ps : List MemPlace} (ht : P.underlying t = some (.slice e)) (he : P.underlying e = some (.int k)) (hc : P.cellsOf e = 1) (hb : P.bytesOf e = 8)
    (hv : ∃ a len cap, v = .slice a len cap) (h : DataW.Trod enc P w base (fun _ => true) held t v d ps) (hw : ∀ n ∈ DataW.weights P t d, n ≤ reachBytes) :
    ∃ zs : List Int, Sl w 1 v zs.length (zs.map (Value.int k)) ∧ (∀ n ∈ zs, (Lit.int k n).wf = true) ∧ zs.length * 8 ≤ 140737488351232 := by
  obtain ⟨fuel, hf⟩ := h
  obtain ⟨a, len, cap, rfl⟩ := hv
  obtain ⟨zs, h1, h2, h3⟩ := read_ints (x := (d, ps)) ht he hc (by simpa [Value.cells] using hf) hw
  exact ⟨zs, h1, h2, by rw [hb] at h3; simpa [reachBytes] using h3⟩

/-- A struct of bytes and an int, by value. -/
theorem arg_bits {t tb tn e : TypeId} {f0 f1 : Field} {r : Reach} {b0 : Nat} {v : Value} {d : DataW H} {ps : List MemPlace} (hs : P.underlying t = some (.struct #[f0, f1])) (hone : oneCellFields P #[f0, f1] = true) (hC : P.cellsOf t = 2)
    (e0 : f0.type = tb) (e1 : f1.type = tn) (ht : P.underlying tb = some (.slice e)) (he : P.underlying e = some (.int .u8)) (hc : P.cellsOf e = 1) (hb : P.bytesOf e = 1) (hn : P.underlying tn = some (.int .i64))
    (hv : Value.okWide P w r b0 t v) (h : DataW.Trod enc P w base (fun _ => true) held t v d ps) (hw : ∀ n ∈ DataW.weights P t d, n ≤ reachBytes) :
    ∃ (bv : Value) (l : List UInt8) (N : Int), v = .agg #[bv, .int .i64 N] ∧ Sl w 1 bv l.length (bc l) ∧ l.length ≤ 140737488351232 ∧ -9223372036854775808 ≤ N ∧ N ≤ 9223372036854775807 := by
  obtain ⟨c0, c1, y0, y1, m, rfl, rfl, rfl, hy0, hy1⟩ := open_agg2 hs hone hC hv h
  rw [e0] at hy0
  rw [e1] at hy1
  obtain ⟨a, ea, rfl, wa⟩ := DataW.trod_int hn hy1
  simp only [List.cons.injEq, and_true] at ea
  subst ea
  have hw0 : ∀ n ∈ DataW.weights P tb y0.1, n ≤ reachBytes := fun n hn => hw n (by
    simp only [DataW.weights, hs, List.map_cons, List.map_nil, DataW.weightsEach, e0, List.mem_append]
    exact .inl hn)
  obtain ⟨l, h1, h2⟩ := read_bytes ht he hc hb hy0 hw0
  exact ⟨c0, l, a, rfl, h1, h2, bounds_i64 wa⟩

/-- How many elements the datum of a slice of numbers has. -/
theorem read_len {t e : TypeId} {k : IntKind} {v : Value} {d : DataW H} {ps : List MemPlace} (ht : P.underlying t = some (.slice e)) (he : P.underlying e = some (.int k)) (hc : P.cellsOf e = 1)
    (h : DataW.Trod enc P w base (fun _ => true) held t v d ps) {ao : Option Addr} {n c : Nat} (hv : v = .slice ao n c) : (d = .nil ∧ n = 0) ∨ ∃ el sp, d = .slice el sp ∧ el.length = n := by
  obtain ⟨fuel, hf⟩ := h
  subst hv
  rcases open_ints (x := (d, ps)) ht he hc (by simpa [Value.cells] using hf) with ⟨hcs, hx⟩ | ⟨a, len, cap, zs, hcs, _, hl, hm, hz, hx, hcell, hwz⟩
  · simp only [List.cons.injEq, Value.slice.injEq, and_true] at hcs
    simp only [Prod.mk.injEq] at hx
    exact .inl ⟨hx.1, hcs.2.1⟩
  · simp only [List.cons.injEq, Value.slice.injEq, and_true] at hcs
    simp only [Prod.mk.injEq] at hx
    refine .inr ⟨_, _, hx.1, ?_⟩
    simp only [if_true] at hz
    simp [lits]
    omega

end
end Go.Proofs.Ytebjdiiogihcdaa
