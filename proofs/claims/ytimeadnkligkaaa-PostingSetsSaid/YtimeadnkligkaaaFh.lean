/- Contracts of package frame: GetUint, all cases. -/
import Derived.Test.YtimeadnkligkaaaFg
namespace Go.Proofs.Ytimeadnkligkaaa
open Go.RowKit

def retU (r : Int × Int × Int) : Ending := .returned (.tuple #[.int .i64 r.1, .int .i64 r.2.1, .int .i64 r.2.2])

theorem getUint_out (ao : Option Addr) (n c : Nat) (a : Int) (w : World) (hn : n ≤ 140737488355328) (ha0 : -9223372036854775808 ≤ a) (ha1 : a ≤ 9223372036854775807) (h : a < 0 ∨ (n : Int) < a) :
    Calls Try.prog 34 #[.slice ao n c, .int .i64 a] w fun e w' => e = retU (0, 0, 2) ∧ w' = w := by
  unfold retU
  rcases h with h | h
  · have hd : decide (a < 0) = true := by simpa using h
    go_enter Try.func34, Try.ntmps34
    go_wp2
    go_ret3
    exact ⟨rfl, rfl⟩
  · have hd : decide (a < 0) = false := by simp; omega
    have hd2 : decide ((n : Int) < a) = true := by simpa using h
    go_enter Try.func34, Try.ntmps34
    go_wp2
    go_ret3
    exact ⟨rfl, rfl⟩

theorem getUint_end (ao : Option Addr) (n c : Nat) (w : World) (hn : n ≤ 140737488355328) (hnc : n ≤ c) :
    Calls Try.prog 34 #[.slice ao n c, .int .i64 n] w fun e w' => e = retU (0, 0, 4) ∧ w' = w := by
  unfold retU
  have i0 : (0 : Int) ≤ (n : Int) := by omega
  have i1 : (n : Int) ≤ (c : Int) := by omega
  have hd : decide ((n : Int) < 0) = false := by simp
  have hd2 : decide ((n : Int) < (n : Int)) = false := by simp
  go_enter Try.func34, Try.ntmps34
  go_wp2
  all_goals (refine wp_loop_rounds 1 ?_; rw [rounds_succ]; go_wp2)
  all_goals go_ret3
  all_goals exact ⟨rfl, rfl⟩

/-- frame.GetUint. -/
theorem getUint_any (v : Value) (l : List UInt8) (a : Int) (w : World) (hl : l.length ≤ 140737488355328) (ha0 : -9223372036854775808 ≤ a) (ha1 : a ≤ 9223372036854775807) (hb : Sl w 1 v l.length (bc l)) :
    Calls Try.prog 34 #[v, .int .i64 a] w fun e w' => e = retU (getU l a) ∧ w' = w := by
  obtain ⟨ao, c, rfl, hlc, _, _⟩ := hb.shape
  by_cases ho : a < 0 ∨ (l.length : Int) < a
  · have e : getU l a = (0, 0, 2) := by unfold getU; rw [if_pos ho]
    rw [e]; exact getUint_out ao _ c a w hl ha0 ha1 ho
  · obtain ⟨m, rfl⟩ := Int.eq_ofNat_of_zero_le (show 0 ≤ a by omega)
    have e : getU l m = getG l m 9 0 0 := by unfold getU; rw [if_neg ho, Int.toNat_natCast]
    rw [e]
    by_cases hm : m < l.length
    · obtain ⟨b, off, c', hv, _, _, _, hcell⟩ := hb.form (by decide) (by omega)
      simp only [Value.slice.injEq] at hv
      obtain ⟨rfl, _, rfl⟩ := hv
      exact getUint_in b off c l m w hl hm hlc (fun j hj => by rw [hcell j (by omega), bc_get l j hj])
    · obtain rfl : m = l.length := by omega
      rw [getG_short l l.length 8 0 0 (by omega)]
      exact getUint_end ao _ c w hl hlc
end Go.Proofs.Ytimeadnkligkaaa
