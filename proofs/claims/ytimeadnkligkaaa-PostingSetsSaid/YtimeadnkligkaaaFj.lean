/- The walk of FrameUints. -/
import Derived.Test.YtimeadnkligkaaaFi
namespace Go.Proofs.Ytimeadnkligkaaa
open Go.RowKit

theorem refGetUint_out (ao : Option Addr) (n c : Nat) (a : Int) (w : World) (hn : n ≤ 140737488355328) (ha0 : -9223372036854775808 ≤ a) (ha1 : a ≤ 9223372036854775807) (h : a < 0 ∨ (n : Int) < a) :
    Calls Try.prog 35 #[.slice ao n c, .int .i64 a] w fun e w' => e = retU (0, 0, 2) ∧ w' = w := by
  unfold retU
  rcases h with h | h
  · have hd : decide (a < 0) = true := by simpa using h
    go_enter Try.func35, Try.ntmps35
    go_wp2
    go_ret3
    exact ⟨rfl, rfl⟩
  · have hd : decide (a < 0) = false := by simp; omega
    have hd2 : decide ((n : Int) < a) = true := by simpa using h
    go_enter Try.func35, Try.ntmps35
    go_wp2
    go_ret3
    exact ⟨rfl, rfl⟩

/-- gaugeref02.GetUint. -/
theorem refGetUint_any (v : Value) (l : List UInt8) (a : Int) (w : World) (hl : l.length ≤ 140737488355328) (ha0 : -9223372036854775808 ≤ a) (ha1 : a ≤ 9223372036854775807) (hb : Sl w 1 v l.length (bc l)) :
    Calls Try.prog 35 #[v, .int .i64 a] w fun e w' => e = retU (getU l a) ∧ w' = w := by
  obtain ⟨ao, c, rfl, hlc, _, _⟩ := hb.shape
  by_cases ho : a < 0 ∨ (l.length : Int) < a
  · have e : getU l a = (0, 0, 2) := by unfold getU; rw [if_pos ho]
    rw [e]; exact refGetUint_out ao _ c a w hl ha0 ha1 ho
  · obtain ⟨m, rfl⟩ := Int.eq_ofNat_of_zero_le (show 0 ≤ a by omega)
    have e : getU l m = getG l m 9 0 0 := by unfold getU; rw [if_neg ho, Int.toNat_natCast]
    rw [e]
    exact refGetUint_in ao c l m w hl (by omega) hb

/-- PutUint in plain words. -/
def putU (l : List UInt8) (n : Int) : List UInt8 × Int := if n < 0 then ([], 2) else (l ++ uintL n.toNat, 0)
def PutUPost (w : World) (r : List UInt8 × Int) (e : Ending) (w' : World) : Prop :=
  ∃ ao c, e = .returned (.tuple #[.slice ao r.1.length c, .int .i64 r.2]) ∧ Below w.heap.size w w' ∧ w'.ownsRow w.heap.size 5 1 (.slice ao r.1.length c) r.1.length (bc r.1)
theorem putU_len (l : List UInt8) (n : Int) : (putU l n).1.length ≤ l.length + 9 := by
  unfold putU
  split
  · simp
  · have : (uintL n.toNat).length ≤ 9 := uintF_length 8 _
    simp; omega

theorem putUint_any (v : Value) (l : List UInt8) (n : Int) (w : World) (hl : l.length ≤ 140737488355000) (hn : n ≤ 9223372036854775807) (hb : Sl w 1 v l.length (bc l)) :
    Calls Try.prog 32 #[v, .int .i64 n] w (PutUPost w (putU l n)) := by
  by_cases h : n < 0
  · have e : putU l n = ([], 2) := by unfold putU; rw [if_pos h]
    rw [e]
    exact (putUint_neg v n w h).mono fun e w' ⟨he, hw⟩ => ⟨none, 0, he, by rw [hw]; exact Below.refl _ _, World.ownsRow_nil _ _ _ _⟩
  · obtain ⟨m, rfl⟩ := Int.eq_ofNat_of_zero_le (show 0 ≤ n by omega)
    have e : putU l m = (l ++ uintL m, 0) := by unfold putU; rw [if_neg h, Int.toNat_natCast]
    rw [e]
    exact (putUint_pos v l m w hl (by omega) hb).mono fun e w' ⟨g, cap, he, h1, h2⟩ => ⟨some ⟨g, 0, none⟩, cap, he, h1, h2⟩

end Go.Proofs.Ytimeadnkligkaaa
