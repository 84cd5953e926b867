/- fixed: Fits, told, Add, Sub. -/
import Derived.Test.YtebjdiiogihcdaaWa
namespace Go.Proofs.Ytebjdiiogihcdaa
open Go.RowKit
set_option linter.unusedSimpArgs false

/-- does a number fit? -/
def fitB (n : Int) : Bool := decide (-1152921504606846976 ≤ n) && decide (n ≤ 1152921504606846976)
theorem fitB_iff {n : Int} : fitB n = true ↔ -1152921504606846976 ≤ n ∧ n ≤ 1152921504606846976 := by unfold fitB; simp

set_option maxRecDepth 100000 in
set_option maxHeartbeats 1000000 in
theorem fits_any (n : Int) (w : World) : Calls Try.prog 49 #[.int .i64 n] w fun e w' => e = .returned (.bool (fitB n)) ∧ w' = w := by
  unfold fitB
  rcases Bool.eq_false_or_eq_true (decide (-1152921504606846976 ≤ n)) with h1 | h1
  · rcases Bool.eq_false_or_eq_true (decide (n ≤ 1152921504606846976)) with h2 | h2
    all_goals
      rw [h1, h2]
      go_enter Try.func49, Try.ntmps49
      go_wp2
      go_ret
      exact ⟨rfl, rfl⟩
  · rw [h1]
    go_enter Try.func49, Try.ntmps49
    go_wp2
    go_ret
    exact ⟨rfl, rfl⟩

def toldV (n : Int) : Int × Int := if fitB n = true then (n, 0) else (0, 11)
def addV (a b : Int) : Int × Int := if fitB a = true ∧ fitB b = true then toldV (a + b) else (0, 2)
def subV (a b : Int) : Int × Int := if fitB a = true ∧ fitB b = true then toldV (a - b) else (0, 2)
def two (r : Int × Int) : Ending := .returned (.tuple #[.int .i64 r.1, .int .i64 r.2])

set_option maxRecDepth 100000 in
set_option maxHeartbeats 1000000 in
theorem told_any (n : Int) (w : World) : Calls Try.prog 52 #[.int .i64 n] w fun e w' => e = two (toldV n) ∧ w' = w := by
  have HF := hid (fits_any n w)
  unfold toldV
  rcases Bool.eq_false_or_eq_true (fitB n) with h | h
  · rw [if_pos h]
    rw [h] at HF
    go_enter Try.func52, Try.ntmps52
    go_wp2_with fail
    refine HF.out.mono ?_
    rintro e wz ⟨rfl, hwz⟩
    subst wz
    go_wp2
    go_ret2
    exact ⟨rfl, rfl⟩
  · rw [if_neg (by rw [h]; simp)]
    rw [h] at HF
    go_enter Try.func52, Try.ntmps52
    go_wp2_with fail
    refine HF.out.mono ?_
    rintro e wz ⟨rfl, hwz⟩
    subst wz
    go_wp2
    go_ret2
    exact ⟨rfl, rfl⟩

set_option maxRecDepth 100000 in
set_option maxHeartbeats 1000000 in
theorem add_any (a b : Int) (w : World) : Calls Try.prog 48 #[.int .i64 a, .int .i64 b] w fun e w' => e = two (addV a b) ∧ w' = w := by
  have HA := hid (fits_any a w); have HB := hid (fits_any b w)
  have HT := hid (told_any (a + b) w)
  unfold addV
  rcases Bool.eq_false_or_eq_true (fitB a) with h1 | h1
  · rcases Bool.eq_false_or_eq_true (fitB b) with h2 | h2
    · rw [if_pos ⟨h1, h2⟩]
      have k1 := fitB_iff.1 h1; have k2 := fitB_iff.1 h2
      have kw : IntKind.i64.wrap (a + b) = a + b := IntWalk.i64_in _ (by omega)
      rw [h1] at HA; rw [h2] at HB
      generalize toldV (a + b) = r at *
      clear k1 k2 h1 h2
      go_enter Try.func48, Try.ntmps48
      go_wp2_with fail
      refine HA.out.mono ?_
      rintro e wz ⟨rfl, hwz⟩
      subst wz
      go_wp2_with fail
      refine HB.out.mono ?_
      rintro e wz ⟨rfl, hwz⟩
      subst wz
      go_wp2_with fail
      refine HT.out.mono ?_
      rintro e wz ⟨rfl, hwz⟩
      subst wz
      unfold two
      go_wp2
      go_ret2
      exact ⟨rfl, rfl⟩
    · rw [if_neg (by rw [h2]; simp)]
      rw [h1] at HA; rw [h2] at HB
      go_enter Try.func48, Try.ntmps48
      go_wp2_with fail
      refine HA.out.mono ?_
      rintro e wz ⟨rfl, hwz⟩
      subst wz
      go_wp2_with fail
      refine HB.out.mono ?_
      rintro e wz ⟨rfl, hwz⟩
      subst wz
      go_wp2
      go_ret2
      exact ⟨rfl, rfl⟩
  · rw [if_neg (by rw [h1]; simp)]
    rw [h1] at HA
    go_enter Try.func48, Try.ntmps48
    go_wp2_with fail
    refine HA.out.mono ?_
    rintro e wz ⟨rfl, hwz⟩
    subst wz
    go_wp2
    go_ret2
    exact ⟨rfl, rfl⟩
set_option maxRecDepth 100000 in
set_option maxHeartbeats 1000000 in
theorem sub_any (a b : Int) (w : World) : Calls Try.prog 41 #[.int .i64 a, .int .i64 b] w fun e w' => e = two (subV a b) ∧ w' = w := by
  have HA := hid (fits_any a w); have HB := hid (fits_any b w)
  have HT := hid (told_any (a - b) w)
  unfold subV
  rcases Bool.eq_false_or_eq_true (fitB a) with h1 | h1
  · rcases Bool.eq_false_or_eq_true (fitB b) with h2 | h2
    · rw [if_pos ⟨h1, h2⟩]
      have k1 := fitB_iff.1 h1; have k2 := fitB_iff.1 h2
      have kw : IntKind.i64.wrap (a - b) = a - b := IntWalk.i64_in _ (by omega)
      rw [h1] at HA; rw [h2] at HB
      generalize toldV (a - b) = r at *
      clear k1 k2 h1 h2
      go_enter Try.func41, Try.ntmps41
      go_wp2_with fail
      refine HA.out.mono ?_
      rintro e wz ⟨rfl, hwz⟩
      subst wz
      go_wp2_with fail
      refine HB.out.mono ?_
      rintro e wz ⟨rfl, hwz⟩
      subst wz
      go_wp2_with fail
      refine HT.out.mono ?_
      rintro e wz ⟨rfl, hwz⟩
      subst wz
      unfold two
      go_wp2
      go_ret2
      exact ⟨rfl, rfl⟩
    · rw [if_neg (by rw [h2]; simp)]
      rw [h1] at HA; rw [h2] at HB
      go_enter Try.func41, Try.ntmps41
      go_wp2_with fail
      refine HA.out.mono ?_
      rintro e wz ⟨rfl, hwz⟩
      subst wz
      go_wp2_with fail
      refine HB.out.mono ?_
      rintro e wz ⟨rfl, hwz⟩
      subst wz
      go_wp2
      go_ret2
      exact ⟨rfl, rfl⟩
  · rw [if_neg (by rw [h1]; simp)]
    rw [h1] at HA
    go_enter Try.func41, Try.ntmps41
    go_wp2_with fail
    refine HA.out.mono ?_
    rintro e wz ⟨rfl, hwz⟩
    subst wz
    go_wp2
    go_ret2
    exact ⟨rfl, rfl⟩
end Go.Proofs.Ytebjdiiogihcdaa
