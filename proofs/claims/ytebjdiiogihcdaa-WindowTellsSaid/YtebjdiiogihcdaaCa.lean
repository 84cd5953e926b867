/- Samples as cells; chunk.may and the reference's May. -/
import Derived.Test.YtebjdiiogihcdaaProg
import Derived.Test.YtebjdiiogihcdaaGk
namespace Go.Proofs.Ytebjdiiogihcdaa
open Go.RowKit

/-- Samples as cells. -/
def sc (l : List (Int × Int)) : List Value := l.flatMap fun s => [.int .i64 s.1, .int .i64 s.2]
@[simp] theorem sc_length (l : List (Int × Int)) : (sc l).length = l.length * 2 := by
  induction l with
  | nil => rfl
  | cons a t ih => simp only [sc, List.flatMap_cons, List.length_append, List.length_cons, List.length_nil] at ih ⊢; omega
theorem sc_append (a b : List (Int × Int)) : sc (a ++ b) = sc a ++ sc b := by simp [sc]
theorem sc_get0 (l : List (Int × Int)) (i : Nat) (h : i < l.length) : (sc l)[i * 2]? = some (.int .i64 (l.getD i (0, 0)).1) := by
  induction l generalizing i with
  | nil => simp at h
  | cons a t ih =>
    cases i with
    | zero => simp [sc]
    | succ i =>
      have := ih i (by simpa using h)
      simp only [sc, List.flatMap_cons, List.getD_cons_succ, Nat.succ_mul] at this ⊢
      rw [List.getElem?_append_right (by simp)]
      simpa using this
theorem sc_get1 (l : List (Int × Int)) (i : Nat) (h : i < l.length) : (sc l)[i * 2 + 1]? = some (.int .i64 (l.getD i (0, 0)).2) := by
  induction l generalizing i with
  | nil => simp at h
  | cons a t ih =>
    cases i with
    | zero => simp [sc]
    | succ i =>
      have := ih i (by simpa using h)
      simp only [sc, List.flatMap_cons, List.getD_cons_succ, Nat.succ_mul] at this ⊢
      rw [List.getElem?_append_right (by simp)]
      rw [show i * 2 + 2 + 1 - [Value.int IntKind.i64 a.1, Value.int IntKind.i64 a.2].length = i * 2 + 1 by simp]
      exact this
theorem sc_one (l : List (Int × Int)) : ∀ u ∈ sc l, u.oneCell' = true := by
  intro u hu
  simp only [sc, List.mem_flatMap] at hu
  obtain ⟨s, _, h⟩ := hu
  simp only [List.mem_cons, List.not_mem_nil, or_false] at h
  rcases h with rfl | rfl <;> rfl
/-- each is a sample of two ints of 64 bits -/
def S64 (l : List (Int × Int)) : Prop := ∀ s ∈ l, (-9223372036854775808 ≤ s.1 ∧ s.1 ≤ 9223372036854775807) ∧ (-9223372036854775808 ≤ s.2 ∧ s.2 ≤ 9223372036854775807)
theorem S64.at {l : List (Int × Int)} (h : S64 l) (i : Nat) : (-9223372036854775808 ≤ (l.getD i (0, 0)).1 ∧ (l.getD i (0, 0)).1 ≤ 9223372036854775807) ∧ (-9223372036854775808 ≤ (l.getD i (0, 0)).2 ∧ (l.getD i (0, 0)).2 ≤ 9223372036854775807) := by
  simp only [List.getD]
  cases hh : l[i]? with
  | none => simp
  | some x => exact h x (List.mem_of_getElem? hh)

/-- may a sample be? -/
def mayB (t v : Int) : Bool := decide (0 ≤ t) && decide (t ≤ 1099511627776) && decide (-1152921504606846976 ≤ v) && decide (v ≤ 1152921504606846976)
theorem mayB_iff {t v : Int} : mayB t v = true ↔ 0 ≤ t ∧ t ≤ 1099511627776 ∧ -1152921504606846976 ≤ v ∧ v ≤ 1152921504606846976 := by
  unfold mayB; simp [and_assoc]

set_option maxRecDepth 100000 in
set_option maxHeartbeats 2000000 in
theorem may_any (t v : Int) (w : World) : Calls Try.prog 33 #[.agg #[.int .i64 t, .int .i64 v]] w fun e w' => e = .returned (.bool (mayB t v)) ∧ Below w.heap.size w w' := by
  unfold mayB
  rcases Bool.eq_false_or_eq_true (decide (0 ≤ t)) with h1 | h1
  · rcases Bool.eq_false_or_eq_true (decide (t ≤ 1099511627776)) with h2 | h2
    · rcases Bool.eq_false_or_eq_true (decide (-1152921504606846976 ≤ v)) with h3 | h3
      · rcases Bool.eq_false_or_eq_true (decide (v ≤ 1152921504606846976)) with h4 | h4
        all_goals
          rw [h1, h2, h3, h4]
          go_enter Try.func33, Try.ntmps33
          go_wp2
          go_ret
          exact ⟨rfl, (Below.refl _ _).alloc (Nat.le_refl _) _⟩
      · rw [h1, h2, h3]
        go_enter Try.func33, Try.ntmps33
        go_wp2
        go_ret
        exact ⟨rfl, (Below.refl _ _).alloc (Nat.le_refl _) _⟩
    · rw [h1, h2]
      go_enter Try.func33, Try.ntmps33
      go_wp2
      go_ret
      exact ⟨rfl, (Below.refl _ _).alloc (Nat.le_refl _) _⟩
  · rw [h1]
    go_enter Try.func33, Try.ntmps33
    go_wp2
    go_ret
    exact ⟨rfl, (Below.refl _ _).alloc (Nat.le_refl _) _⟩

set_option maxRecDepth 100000 in
set_option maxHeartbeats 2000000 in
theorem refMay_any (t v : Int) (w : World) : Calls Try.prog 27 #[.agg #[.int .i64 t, .int .i64 v]] w fun e w' => e = .returned (.bool (mayB t v)) ∧ Below w.heap.size w w' := by
  unfold mayB
  rcases Bool.eq_false_or_eq_true (decide (0 ≤ t)) with h1 | h1
  · rcases Bool.eq_false_or_eq_true (decide (t ≤ 1099511627776)) with h2 | h2
    · rcases Bool.eq_false_or_eq_true (decide (-1152921504606846976 ≤ v)) with h3 | h3
      · rcases Bool.eq_false_or_eq_true (decide (v ≤ 1152921504606846976)) with h4 | h4
        all_goals
          rw [h1, h2, h3, h4]
          go_enter Try.func27, Try.ntmps27
          go_wp2
          go_ret
          exact ⟨rfl, (Below.refl _ _).alloc (Nat.le_refl _) _⟩
      · rw [h1, h2, h3]
        go_enter Try.func27, Try.ntmps27
        go_wp2
        go_ret
        exact ⟨rfl, (Below.refl _ _).alloc (Nat.le_refl _) _⟩
    · rw [h1, h2]
      go_enter Try.func27, Try.ntmps27
      go_wp2
      go_ret
      exact ⟨rfl, (Below.refl _ _).alloc (Nat.le_refl _) _⟩
  · rw [h1]
    go_enter Try.func27, Try.ntmps27
    go_wp2
    go_ret
    exact ⟨rfl, (Below.refl _ _).alloc (Nat.le_refl _) _⟩
end Go.Proofs.Ytebjdiiogihcdaa
