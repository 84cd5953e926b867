/- How an argument reads that is a slice of slices of bytes; its bulk. -/
import Derived.Test.YtecnjgiodnphcaaUpto
import Derived.Test.YtecnjgiodnphcaaGm
import Derived.Deep.Matrix
namespace Go.Proofs.Ytecnjgiodnphcaa
open Go Go.RowKit Go.ChangeShapes Go.WideShapes Go.ChangeAt Go.Joins Go.Deep Go.WideElems

theorem bulk_rows {H : Type} (D : Nat → DataW H) (g : Nat → List UInt8) (rs : List Nat) (h : ∀ r ∈ rs, (g r).length + 1 ≤ Rows.uptoBulk (D r)) :
    (rs.map g).length + sumLen (rs.map g) ≤ Rows.uptoBulkAll (rs.map D) := by
  induction rs with
  | nil => simp [sumLen, Rows.uptoBulkAll]
  | cons r rs ih =>
    have h1 := ih fun x hx => h x (List.mem_cons_of_mem _ hx)
    have h2 := h r (List.mem_cons_self ..)
    simp only [List.map_cons, List.length_cons, sumLen, List.sum_cons, Rows.uptoBulkAll] at *
    omega
theorem bulk_row {H : Type} (k : IntKind) (A : Option Addr) (L : Nat) (zs : List Int) (h : L ≤ zs.length) (h0 : A = none → zs.length = 0) : L + 1 ≤ Rows.uptoBulk (intRow (H := H) k A L zs) := by
  unfold intRow
  cases A with
  | none => have := h0 rfl; simp [Rows.uptoBulk]; omega
  | some a =>
    have h1 := bulk_length (H := H) (lits k (zs.take L))
    simp only [Rows.uptoBulk]
    simp [lits] at h1 ⊢
    omega

section
variable {H : Type} {enc : TypeId × Value → H} {P : Program} {w : World} {base : Nat} {held : Bool}
theorem arg_rows {t e q : TypeId} {v : Value} {d : DataW H} {ps : List MemPlace} (ht : P.underlying t = some (.slice e)) (he : P.underlying e = some (.slice q)) (hq : P.underlying q = some (.int .u8)) (ce : P.cellsOf e = 1) (cq : P.cellsOf q = 1)
    (hv : ∃ a len cap, v = .slice a len cap) (h : DataW.Trod enc P w base (fun _ => true) held t v d ps) : ∃ Ls, RdRows w v Ls ∧ Ls.length + sumLen Ls ≤ Rows.uptoBulk d := by
  obtain ⟨fuel, hf⟩ := h
  obtain ⟨a0, len0, cap0, rfl⟩ := hv
  rcases open_int_rows (x := (d, ps)) ht he hq ce cq (by simpa [Value.cells] using hf) with ⟨hcs, hx⟩ | ⟨a, len, cap, A, L, C, Z, hcs, _, hl, hm, hx, hr⟩
  · simp only [List.cons.injEq, Value.slice.injEq, and_true] at hcs
    obtain ⟨rfl, rfl, rfl⟩ := hcs
    exact ⟨[], ⟨none, 0, rfl, Nat.le_refl _, fun i hi => by simp at hi⟩, by simp [sumLen]⟩
  · simp only [List.cons.injEq, Value.slice.injEq, and_true] at hcs
    obtain ⟨rfl, rfl, rfl⟩ := hcs
    simp only [Prod.mk.injEq] at hx
    refine ⟨(List.range len0).map fun r => ((Z r).take (L r)).map fun n => UInt8.ofNat n.toNat, ⟨some a, cap0, by simp, by simpa using hl, fun i hi => ?_⟩, ?_⟩
    · have hi' : i < len0 := by simpa using hi
      obtain ⟨r1, r2, r3, r4, r5, r6, r7⟩ := hr i (by omega)
      have eg : ((List.range len0).map fun r => ((Z r).take (L r)).map fun n => UInt8.ofNat n.toNat).getD i [] = ((Z i).take (L i)).map fun n => UInt8.ofNat n.toNat := by simp [List.getD, hi']
      have el : (((Z i).take (L i)).map fun n => UInt8.ofNat n.toNat).length = L i := by simp; omega
      rw [eg]
      obtain ⟨b, off, spot⟩ := a
      have hspot : spot = none := by
        obtain ⟨r1', _⟩ := hr 0 (by omega)
        simpa [Addr.add] using World.cell?_spot r1'
      subst hspot
      rw [Addr.add_lit] at r1
      have hb := World.block_lt_of_cell? w _ r1
      refine ⟨b, off, A i, C i, rfl, hb, by rw [el]; exact r1, ⟨by simp [bc], A i, C i, by rw [el], by omega, r3, r6, fun a' ha' j u hu => ?_⟩⟩
      have hj : j < L i := by
        have := (List.getElem?_eq_some_iff.1 hu).1
        simp at this; omega
      have hcell := (r7 a' ha').2 j (by omega)
      rw [hcell, ← hu]
      have hjz : j < (Z i).length := by omega
      have hw := bounds_u8 (r5 ((Z i)[j]) (List.getElem_mem hjz))
      simp [bc, hj, hjz, List.getElem?_take]
      omega
    · rw [hx.1]
      have hb := bulk_rows (fun r => intRow (H := H) .u8 (A r) (L r) (Z r)) (fun r => ((Z r).take (L r)).map fun n => UInt8.ofNat n.toNat) (List.range len0) (fun r hr' => by
        obtain ⟨_, r2, _, r4, _, r6, _⟩ := hr r (by have := List.mem_range.1 hr'; omega)
        have := bulk_row (H := H) .u8 (A r) (L r) (Z r) (by omega) (fun h => by rw [r4]; exact r6 h)
        simp
        omega)
      simp only [Rows.uptoBulk]
      omega
end
end Go.Proofs.Ytecnjgiodnphcaa
