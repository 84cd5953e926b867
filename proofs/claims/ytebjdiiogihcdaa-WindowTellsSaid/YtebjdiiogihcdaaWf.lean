/- the folds: total, risen, picked of least, greatest, second. -/
import Derived.Test.YtebjdiiogihcdaaWe
namespace Go.Proofs.Ytebjdiiogihcdaa
open Go.RowKit
set_option linter.unusedSimpArgs false

set_option maxRecDepth 100000 in
set_option maxHeartbeats 1000000 in
theorem total_any (s v a : Int) (w : World) : Calls Try.prog 35 #[.int .i64 s, .int .i64 v, .int .i64 a] w fun e w' => e = two (addV s v) ∧ w' = w := by
  have HT := hid (add_any s v w)
  generalize addV s v = r at *
  unfold two at HT ⊢
  go_enter Try.func35, Try.ntmps35
  go_wp2_with fail
  refine HT.out.mono ?_
  rintro e wz ⟨rfl, hwz⟩
  subst wz
  go_wp2
  go_ret2
  exact ⟨rfl, rfl⟩

/-- what a value rose, or the value -/
def riseV (s v a : Int) : Int × Int := if a ≤ v then (if (subV v a).2 ≠ 0 then (0, (subV v a).2) else addV s (subV v a).1) else addV s v

set_option maxRecDepth 100000 in
set_option maxHeartbeats 1000000 in
theorem risen_any (s v a : Int) (w : World) : Calls Try.prog 42 #[.int .i64 s, .int .i64 v, .int .i64 a] w fun e w' => e = two (riseV s v a) ∧ w' = w := by
  have HS := hid (sub_any v a w)
  have HA := hid (fun d => add_any s d w)
  unfold riseV
  generalize subV v a = d at *
  unfold two at HS HA ⊢
  rcases Bool.eq_false_or_eq_true (decide (a ≤ v)) with h1 | h1
  · rw [if_pos (of_decide_eq_true h1)]
    rcases Bool.eq_false_or_eq_true (d.2 != 0) with h2 | h2
    · have hne : d.2 ≠ 0 := by simpa using h2
      rw [if_pos hne]
      clear hne
      go_enter Try.func42, Try.ntmps42
      go_wp2_with fail
      refine HS.out.mono ?_
      rintro e wz ⟨rfl, hwz⟩
      subst wz
      go_wp2
      go_ret2
      exact ⟨rfl, rfl⟩
    · have hne : ¬ d.2 ≠ 0 := by simpa using h2
      rw [if_neg hne]
      clear hne
      have HB := hid (HA.out d.1)
      generalize addV s d.1 = r at *
      go_enter Try.func42, Try.ntmps42
      go_wp2_with fail
      refine HS.out.mono ?_
      rintro e wz ⟨rfl, hwz⟩
      subst wz
      go_wp2_with fail
      refine HB.out.mono ?_
      rintro e wz ⟨rfl, hwz⟩
      subst wz
      go_wp2
      go_ret2
      exact ⟨rfl, rfl⟩
  · rw [if_neg (of_decide_eq_false h1)]
    have HB := hid (HA.out v)
    generalize addV s v = r at *
    go_enter Try.func42, Try.ntmps42
    go_wp2_with fail
    refine HB.out.mono ?_
    rintro e wz ⟨rfl, hwz⟩
    subst wz
    go_wp2
    go_ret2
    exact ⟨rfl, rfl⟩

def fnV (F : FuncId) : Value := .func (Fn.func F) #[] #[]

set_option maxRecDepth 100000 in
set_option maxHeartbeats 1000000 in
theorem picked_any (F : FuncId) (w : World) : Calls Try.prog 37 #[fnV F] w fun e w' => e = .returned (.func (Fn.func 51) #[] #[.pointer (some ⟨w.heap.size, 0, none⟩)]) ∧ w' = w.alloc (.cells #[fnV F] 63 (0, 0)) := by
  have hmf : ∀ (fn : Fn) (first cap : Array Value) (w : World), (Instr.makeFunc fn first cap).run Try.prog w = .ok (.func fn first cap) w := fun _ _ _ _ => rfl
  unfold fnV
  go_enter Try.func37, Try.ntmps37
  go_wp2
  go_ret
  exact ⟨rfl, rfl⟩

set_option maxRecDepth 100000 in
set_option maxHeartbeats 1000000 in
theorem least_any (a b : Int) (w : World) : Calls Try.prog 38 #[.int .i64 a, .int .i64 b] w fun e w' => e = .returned (.int .i64 (min a b)) ∧ w' = w := by
  go_enter Try.func38, Try.ntmps38
  go_wp2
  all_goals
    go_ret
    exact ⟨ret_int (by omega), rfl⟩
set_option maxRecDepth 100000 in
set_option maxHeartbeats 1000000 in
theorem greatest_any (a b : Int) (w : World) : Calls Try.prog 39 #[.int .i64 a, .int .i64 b] w fun e w' => e = .returned (.int .i64 (max a b)) ∧ w' = w := by
  go_enter Try.func39, Try.ntmps39
  go_wp2
  all_goals
    go_ret
    exact ⟨ret_int (by omega), rfl⟩
set_option maxRecDepth 100000 in
set_option maxHeartbeats 1000000 in
theorem second_any (a b : Int) (w : World) : Calls Try.prog 40 #[.int .i64 a, .int .i64 b] w fun e w' => e = .returned (.int .i64 b) ∧ w' = w := by
  go_enter Try.func40, Try.ntmps40
  go_wp2
  go_ret
  exact ⟨rfl, rfl⟩


set_option maxRecDepth 100000 in
set_option maxHeartbeats 1000000 in
theorem picked1_any (F : FuncId) (hin : ∀ args w, (callFunc F args).run Try.prog w = .ok (.enter F args) w) (g : Int → Int → Int) (hF : ∀ s v w, Calls Try.prog F #[.int .i64 s, .int .i64 v] w fun e w' => e = .returned (.int .i64 (g s v)) ∧ w' = w)
    (p : Nat) (s v a : Int) (w : World) (hp : w.heap[p]? = some (.cells #[fnV F] 63 (0, 0))) :
    Calls Try.prog 51 #[.int .i64 s, .int .i64 v, .int .i64 a, .pointer (some ⟨p, 0, none⟩)] w fun e w' => e = two (g s v, 0) ∧ w' = w := by
  obtain ⟨p0, _, _⟩ := blk1 hp
  have HF := hid (hF s v w)
  generalize g s v = r at *
  unfold fnV at *
  clear hp hF
  unfold two
  go_enter Try.func51, Try.ntmps51
  go_wp2_with fail
  refine HF.out.mono ?_
  rintro e wz ⟨rfl, hwz⟩
  subst wz
  go_wp2
  go_ret2
  exact ⟨rfl, rfl⟩
end Go.Proofs.Ytebjdiiogihcdaa
