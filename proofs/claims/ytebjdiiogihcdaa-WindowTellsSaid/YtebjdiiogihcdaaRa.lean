/- the reference's Fits, Add, Sub, size, digits. -/
import Derived.Test.YtebjdiiogihcdaaWt
namespace Go.Proofs.Ytebjdiiogihcdaa
open Go.RowKit
set_option linter.unusedSimpArgs false

set_option maxRecDepth 100000 in
set_option maxHeartbeats 1000000 in
theorem refFits_any (n : Int) (w : World) : Calls Try.prog 54 #[.int .i64 n] w fun e w' => e = .returned (.bool (fitB n)) ∧ w' = w := by
  unfold fitB
  rcases Bool.eq_false_or_eq_true (decide (-1152921504606846976 ≤ n)) with h1 | h1
  · rcases Bool.eq_false_or_eq_true (decide (n ≤ 1152921504606846976)) with h2 | h2
    all_goals
      rw [h1, h2]
      go_enter Try.func54, Try.ntmps54
      go_wp2
      go_ret
      exact ⟨rfl, rfl⟩
  · rw [h1]
    go_enter Try.func54, Try.ntmps54
    go_wp2
    go_ret
    exact ⟨rfl, rfl⟩

set_option maxRecDepth 100000 in
set_option maxHeartbeats 1000000 in
theorem refAdd_any (a b : Int) (w : World) : Calls Try.prog 53 #[.int .i64 a, .int .i64 b] w fun e w' => e = two (addV a b) ∧ w' = w := by
  have HA := hid (refFits_any a w); have HB := hid (refFits_any b w)
  unfold addV
  rcases Bool.eq_false_or_eq_true (fitB a) with h1 | h1
  · rcases Bool.eq_false_or_eq_true (fitB b) with h2 | h2
    · rw [if_pos ⟨h1, h2⟩]
      have k1 := fitB_iff.1 h1; have k2 := fitB_iff.1 h2
      have kw : IntKind.i64.wrap (a + b) = a + b := IntWalk.i64_in _ (by omega)
      rw [h1] at HA; rw [h2] at HB
      have HT := hid (refFits_any (a + b) w)
      unfold toldV
      rcases Bool.eq_false_or_eq_true (fitB (a + b)) with h3 | h3
      · rw [if_pos h3]
        rw [h3] at HT
        clear k1 k2 h1 h2 h3
        unfold two
        go_enter Try.func53, Try.ntmps53
        go_wp2_with fail
        refine HA.out.mono ?_
        rintro e wz ⟨rfl, hwz⟩
        subst wz
        go_wp2_with fail
        refine HB.out.mono ?_
        rintro e wz ⟨rfl, hwz⟩
        subst wz
        go_wp2_with fail
        refine HT.out.mono ?_
        rintro e wz ⟨rfl, hwz⟩
        subst wz
        go_wp2
        go_ret2
        exact ⟨rfl, rfl⟩
      · rw [if_neg (by rw [h3]; simp)]
        rw [h3] at HT
        clear k1 k2 h1 h2 h3
        unfold two
        go_enter Try.func53, Try.ntmps53
        go_wp2_with fail
        refine HA.out.mono ?_
        rintro e wz ⟨rfl, hwz⟩
        subst wz
        go_wp2_with fail
        refine HB.out.mono ?_
        rintro e wz ⟨rfl, hwz⟩
        subst wz
        go_wp2_with fail
        refine HT.out.mono ?_
        rintro e wz ⟨rfl, hwz⟩
        subst wz
        go_wp2
        go_ret2
        exact ⟨rfl, rfl⟩
    · rw [if_neg (by rw [h2]; simp)]
      rw [h1] at HA; rw [h2] at HB
      unfold two
      go_enter Try.func53, Try.ntmps53
      go_wp2_with fail
      refine HA.out.mono ?_
      rintro e wz ⟨rfl, hwz⟩
      subst wz
      go_wp2_with fail
      refine HB.out.mono ?_
      rintro e wz ⟨rfl, hwz⟩
      subst wz
      go_wp2
      go_ret2
      exact ⟨rfl, rfl⟩
  · rw [if_neg (by rw [h1]; simp)]
    rw [h1] at HA
    unfold two
    go_enter Try.func53, Try.ntmps53
    go_wp2_with fail
    refine HA.out.mono ?_
    rintro e wz ⟨rfl, hwz⟩
    subst wz
    go_wp2
    go_ret2
    exact ⟨rfl, rfl⟩

theorem addV_neg (a b : Int) (h : fitB a = true ∧ fitB b = true) : addV a (-b) = subV a b := by
  unfold addV subV
  have hb : fitB (-b) = true := by have := fitB_iff.1 h.2; exact fitB_iff.2 ⟨by omega, by omega⟩
  rw [if_pos h, if_pos ⟨h.1, hb⟩]
  rfl

set_option maxRecDepth 100000 in
set_option maxHeartbeats 1000000 in
theorem refSub_any (a b : Int) (w : World) : Calls Try.prog 46 #[.int .i64 a, .int .i64 b] w fun e w' => e = two (subV a b) ∧ w' = w := by
  have HA := hid (refFits_any a w); have HB := hid (refFits_any b w)
  rcases Bool.eq_false_or_eq_true (fitB a) with h1 | h1
  · rcases Bool.eq_false_or_eq_true (fitB b) with h2 | h2
    · have HT := hid (refAdd_any a (-b) w)
      rw [addV_neg a b ⟨h1, h2⟩] at HT
      have k2 := fitB_iff.1 h2
      have kw : IntKind.i64.wrap (-b) = -b := IntWalk.i64_in _ (by omega)
      rw [h1] at HA; rw [h2] at HB
      generalize subV a b = q at *
      clear k2 h1 h2
      unfold two at HT ⊢
      go_enter Try.func46, Try.ntmps46
      go_wp2_with fail
      refine HA.out.mono ?_
      rintro e wz ⟨rfl, hwz⟩
      subst wz
      go_wp2_with fail
      refine HB.out.mono ?_
      rintro e wz ⟨rfl, hwz⟩
      subst wz
      go_wp2_with fail
      refine HT.out.mono ?_
      rintro e wz ⟨rfl, hwz⟩
      subst wz
      go_wp2
      go_ret2
      exact ⟨rfl, rfl⟩
    · unfold subV
      rw [if_neg (by rw [h2]; simp)]
      rw [h1] at HA; rw [h2] at HB
      unfold two
      go_enter Try.func46, Try.ntmps46
      go_wp2_with fail
      refine HA.out.mono ?_
      rintro e wz ⟨rfl, hwz⟩
      subst wz
      go_wp2_with fail
      refine HB.out.mono ?_
      rintro e wz ⟨rfl, hwz⟩
      subst wz
      go_wp2
      go_ret2
      exact ⟨rfl, rfl⟩
  · unfold subV
    rw [if_neg (by rw [h1]; simp)]
    rw [h1] at HA
    unfold two
    go_enter Try.func46, Try.ntmps46
    go_wp2_with fail
    refine HA.out.mono ?_
    rintro e wz ⟨rfl, hwz⟩
    subst wz
    go_wp2
    go_ret2
    exact ⟨rfl, rfl⟩

set_option maxRecDepth 100000 in
set_option maxHeartbeats 1000000 in
theorem refSize_any (n : Int) (h0 : -1152921504606846976 ≤ n) (h1 : n ≤ 1152921504606846976) (w : World) :
    Calls Try.prog 57 #[.int .i64 n] w fun e w' => e = .returned (.int .i64 ((n.natAbs : Nat) : Int)) ∧ w' = w := by
  have kn : IntKind.i64.wrap (-n) = -n := IntWalk.i64_in _ (by omega)
  go_enter Try.func57, Try.ntmps57
  go_wp2
  all_goals
    go_ret
    exact ⟨ret_int (by omega), rfl⟩

/-- a number's digits to the base 2^20 -/
def dg (n : Nat) : List Nat := [n % 1048576, n / 1048576 % 1048576, n / 1048576 / 1048576 % 1048576, n / 1048576 / 1048576 / 1048576]
def ic (l : List Nat) : List Value := l.map fun (n : Nat) => Value.int .i64 (n : Int)
@[simp] theorem ic_length (l : List Nat) : (ic l).length = l.length := by simp [ic]
theorem ic_get (l : List Nat) (i : Nat) (h : i < l.length) : (ic l)[i]? = some (.int .i64 ((l.getD i 0 : Nat) : Int)) := by simp [ic, h]
def digsW (n : Nat) (w : World) : World := w.alloc (.cells (ic (dg n)).toArray 3)
set_option maxRecDepth 100000 in
set_option maxHeartbeats 1000000 in
theorem digits_any (n : Nat) (h : n ≤ 1152921504606846976) (w : World) :
    Calls Try.prog 63 #[.int .i64 (n : Int)] w fun e w' => e = .returned (.slice (some ⟨w.heap.size, 0, none⟩) 4 4) ∧ w' = digsW n w := by
  unfold digsW dg ic
  go_enter Try.func63, Try.ntmps63
  go_wp2
  go_ret
  exact ⟨rfl, rfl⟩

/-- the number that digits are -/
def dval : List Nat → Nat
  | [] => 0
  | c :: t => c + 1048576 * dval t
theorem dval_set (l : List Nat) (j x : Nat) (hj : j < l.length) : dval (l.set j x) + l.getD j 0 * 1048576 ^ j = dval l + x * 1048576 ^ j := by
  induction l generalizing j with
  | nil => simp at hj
  | cons c t ih =>
    cases j with
    | zero => simp [dval]; omega
    | succ j =>
      have := ih j (by simpa using hj)
      simp only [List.set_cons_succ, dval, List.getD_cons_succ, Nat.pow_succ]
      rw [← Nat.mul_assoc, ← Nat.mul_assoc]
      generalize t.getD j 0 * 1048576 ^ j = a at *
      generalize x * 1048576 ^ j = b at *
      omega
theorem dval_dg (n : Nat) : dval (dg n) = n := by
  simp only [dg, dval]
  omega
theorem dval_drop (l : List Nat) (i : Nat) (h : i < l.length) : dval (l.drop i) = l.getD i 0 + 1048576 * dval (l.drop (i + 1)) := by
  rw [List.drop_eq_getElem_cons h]; simp [dval, h]
theorem dval_drop_le (l : List Nat) (i : Nat) : dval (l.drop i) ≤ dval l := by
  induction l generalizing i with
  | nil => simp
  | cons c t ih =>
    cases i with
    | zero => simp
    | succ i => have := ih i; simp only [List.drop_succ_cons, dval]; omega
theorem dval_last (l : List Nat) (i : Nat) (h : i < l.length) : l.getD i 0 * 1048576 ^ i ≤ dval l := by
  have h1 := dval_set l i 0 h
  omega
theorem dg_lt (n i : Nat) (h : n ≤ 1152921504606846976) : (dg n).getD i 0 < 1048576 := by
  match i with
  | 0 => simp [dg]; omega
  | 1 => simp [dg]; omega
  | 2 => simp [dg]; omega
  | 3 => simp [dg]; omega
  | i + 4 => simp [dg]
/-- the part of a product that is reckoned: all of the first i digits, k of the next -/
def part (x y : List Nat) (i k : Nat) : Nat := dval (x.take i) * dval y + x.getD i 0 * dval (y.take k) * 1048576 ^ i
theorem dval_take (l : List Nat) (k : Nat) (h : k < l.length) : dval (l.take (k + 1)) = dval (l.take k) + l.getD k 0 * 1048576 ^ k := by
  induction l generalizing k with
  | nil => simp at h
  | cons c t ih =>
    cases k with
    | zero => simp [dval]
    | succ k =>
      have := ih k (by simpa using h)
      simp only [List.take_succ_cons, dval, List.getD_cons_succ, this, Nat.pow_succ, Nat.mul_add]
      rw [← Nat.mul_assoc (t.getD k 0)]
      omega
theorem part_next (x y : List Nat) (i k : Nat) (hk : k < y.length) : part x y i (k + 1) = part x y i k + x.getD i 0 * y.getD k 0 * 1048576 ^ (i + k) := by
  unfold part
  rw [dval_take y k hk, Nat.mul_add, Nat.add_mul, Nat.pow_add, Nat.add_assoc]
  congr 2
  rw [Nat.mul_assoc, Nat.mul_assoc, Nat.mul_assoc, Nat.mul_comm (1048576 ^ k)]
theorem part_row (x y : List Nat) (i : Nat) (hi : i < x.length) : part x y i y.length = part x y (i + 1) 0 := by
  unfold part
  rw [List.take_length, dval_take x i hi, Nat.add_mul]
  simp only [List.take_zero, dval, Nat.mul_zero, Nat.zero_mul, Nat.add_zero]
  rw [Nat.mul_right_comm]
theorem part_all (x y : List Nat) : part x y x.length 0 = dval x * dval y := by
  unfold part
  simp [dval]
theorem part_start (x y : List Nat) : part x y 0 0 = 0 := by simp [part, dval]
end Go.Proofs.Ytebjdiiogihcdaa
