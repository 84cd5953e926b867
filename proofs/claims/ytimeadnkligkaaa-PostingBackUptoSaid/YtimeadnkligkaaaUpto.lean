/- What the second form's bound gives: lengths. -/
import Derived.Test.YtimeadnkligkaaaRows
import Derived.Test.YtimeadnkligkaaaOpen
namespace Go.Proofs.Ytimeadnkligkaaa
open Go Go.RowKit Go.ChangeShapes Go.WideShapes Go.ChangeAt Go.Joins Go.Deep Go.WideElems

theorem bulk_one {H : Type} (d : DataW H) : 1 ≤ Rows.uptoBulk d := by
  cases d with
  | lit l => cases l <;> simp [Rows.uptoBulk]
  | nil => simp [Rows.uptoBulk]
  | ptr d => simp [Rows.uptoBulk]
  | slice elems spare => simp [Rows.uptoBulk]
  | agg parts => simp [Rows.uptoBulk]
  | iface t d => simp [Rows.uptoBulk]
  | map entries => simp [Rows.uptoBulk]
  | held h => simp [Rows.uptoBulk]
theorem bulk_length {H : Type} (l : List (DataW H)) : l.length ≤ Rows.uptoBulkAll l := by
  induction l with
  | nil => simp [Rows.uptoBulkAll]
  | cons x r ih => have := bulk_one x; simp only [Rows.uptoBulkAll, List.length_cons]; omega
theorem bulk_str {H : Type} (b : List UInt8) : b.length ≤ Rows.uptoBulk (DataW.lit (H := H) (.string b)) := by simp [Rows.uptoBulk]
section
variable {H : Type} {enc : TypeId × Value → H} {P : Program} {w : World} {base : Nat} {held : Bool}
theorem bulk_ints {t e : TypeId} {k : IntKind} {v : Value} {d : DataW H} {ps : List MemPlace} (ht : P.underlying t = some (.slice e)) (he : P.underlying e = some (.int k)) (hc : P.cellsOf e = 1)
    (h : DataW.Trod enc P w base (fun _ => true) held t v d ps) {n : Nat} {xs : List Value} (hs : Sl w 1 v n xs) : n ≤ Rows.uptoBulk d := by
  obtain ⟨ao, c, rfl, _⟩ := hs.shape
  rcases read_len ht he hc h rfl with ⟨_, rfl⟩ | ⟨el, sp, rfl, hl⟩
  · exact Nat.zero_le _
  · have := bulk_length el
    simp only [Rows.uptoBulk]
    omega
end
end Go.Proofs.Ytimeadnkligkaaa
