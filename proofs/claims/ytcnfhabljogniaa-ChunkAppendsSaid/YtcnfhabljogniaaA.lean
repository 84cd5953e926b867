/- Contracts of package bits: need, Right. -/
import Derived.Test.YtcnfhabljogniaaProg
import Derived.Test.YtcnfhabljogniaaGk
import Derived.Test.YtcnfhabljogniaaBitsPlain
namespace Go.Proofs.Ytcnfhabljogniaa
open Go.RowKit

theorem need_any (n : Int) (w : World) (h0 : 0 ≤ n) (h1 : n < 9223372036854775808) :
    Calls Try.prog 57 #[.int .i64 n] w fun e w' => e = .returned (.int .i64 ((n + 7) / 8)) ∧ w' = w := by
  by_cases h : n % 8 = 0
  · go_enter Try.func57, Try.ntmps57
    go_wp2
    go_ret
    exact ⟨ret_int (by show _ = _; omega), rfl⟩
  · go_enter Try.func57, Try.ntmps57
    go_wp2
    go_ret
    exact ⟨ret_int (by show _ = _; omega), rfl⟩

/-- Are bytes right for N bits? -/
def rightB (l : List UInt8) (N : Int) : Bool := decide (0 ≤ N) && (decide ((l.length : Int) = (N + 7) / 8) && (decide (N % 8 = 0) || decide (((l.getD (l.length - 1) 0).toNat : Int) * 2 ^ (N % 8).toNat % 256 = 0)))

theorem right_neg (bv : Value) (N : Int) (w : World) (h : N < 0) (hN : -9223372036854775808 ≤ N) :
    Calls Try.prog 49 #[.agg #[bv, .int .i64 N]] w fun e w' => e = .returned (.bool false) ∧ Below w.heap.size w w' := by
  have hd : decide (N < 0) = true := by simpa using h
  go_enter Try.func49, Try.ntmps49
  go_wp2
  go_quiet (fail)
  go_wp2
  go_ret
  exact ⟨rfl, Below_drewN ((Below.refl _ _).alloc (Nat.le_refl _) _) _⟩

theorem right_len (ao : Option Addr) (n c : Nat) (N : Int) (w : World) (h : 0 ≤ N) (hN : N ≤ 9223372036854775807) (hn : n ≤ 9223372036854775807) (hne : ¬ (n : Int) = (N + 7) / 8) :
    Calls Try.prog 49 #[.agg #[.slice ao n c, .int .i64 N]] w fun e w' => e = .returned (.bool false) ∧ Below w.heap.size w w' := by
  have hd : decide (N < 0) = false := by simpa using h
  have hd2 : ((n : Int) != (N + 7) / 8) = true := by simpa using hne
  go_enter Try.func49, Try.ntmps49
  go_wp2
  go_quiet ((go_at_call 57; exact Calls.quiet_of_same (need_any _ _ (by omega) (by omega))))
  go_wp2
  go_ret
  exact ⟨rfl, Below_drewN ((Below.refl _ _).alloc (Nat.le_refl _) _) _⟩

theorem right_whole (ao : Option Addr) (n c : Nat) (N : Int) (w : World) (h : 0 ≤ N) (hN : N ≤ 9223372036854775807) (hn : n ≤ 9223372036854775807) (hne : (n : Int) = (N + 7) / 8) (h8 : N % 8 = 0) :
    Calls Try.prog 49 #[.agg #[.slice ao n c, .int .i64 N]] w fun e w' => e = .returned (.bool true) ∧ Below w.heap.size w w' := by
  have hd : decide (N < 0) = false := by simpa using h
  have hd2 : ((n : Int) != (N + 7) / 8) = false := by simpa using hne
  have hd3 : (N % 8 == 0) = true := by simpa using h8
  have H := hid hne; clear hne
  have H8 := hid h8; clear h8
  go_enter Try.func49, Try.ntmps49
  go_wp2
  go_quiet ((go_at_call 57; exact Calls.quiet_of_same (need_any _ _ (by omega) (by omega))))
  go_wp2
  go_quiet (fail)
  go_wp2
  go_ret
  exact ⟨rfl, Below_drewN (Below_drewN ((Below.refl _ _).alloc (Nat.le_refl _) _) _) _⟩

theorem right_part (b off n c : Nat) (N : Int) (z : Nat) (w : World) (h : 0 ≤ N) (hN : N ≤ 9223372036854775807) (hn : n ≤ 9223372036854775807) (hne : (n : Int) = (N + 7) / 8) (h8 : ¬ N % 8 = 0)
    (hb : b < w.heap.size) (hz : z < 256) (hc : w.cell? ⟨b, off + (n - 1), none⟩ = some (.int .u8 z)) :
    Calls Try.prog 49 #[.agg #[.slice (some ⟨b, off, none⟩) n c, .int .i64 N]] w fun e w' => e = .returned (.bool (decide ((z : Int) * 2 ^ (N % 8).toNat % 256 = 0))) ∧ Below w.heap.size w w' := by
  have hd : decide (N < 0) = false := by simpa using h
  have hd2 : ((n : Int) != (N + 7) / 8) = false := by simpa using hne
  have hd3 : (N % 8 == 0) = false := by simpa using h8
  have hn1 : (1 : Int) ≤ n := by omega
  have H := hid hne; clear hne
  have H8 := hid h8; clear h8
  go_enter Try.func49, Try.ntmps49
  go_wp2
  go_quiet ((go_at_call 57; exact Calls.quiet_of_same (need_any _ _ (by omega) (by omega))))
  go_wp2
  go_quiet (fail)
  go_wp2
  go_ret
  exact ⟨ret_bool rfl, Below_drewN (Below_drewN ((Below.refl _ _).alloc (Nat.le_refl _) _) _) _⟩

/-- bits.Right. -/
theorem right_any (bv : Value) (l : List UInt8) (N : Int) (w : World) (hN0 : -9223372036854775808 ≤ N) (hN : N ≤ 9223372036854775807) (hl : l.length ≤ 9223372036854775807) (hb : Sl w 1 bv l.length (bc l)) :
    Calls Try.prog 49 #[.agg #[bv, .int .i64 N]] w fun e w' => e = .returned (.bool (rightB l N)) ∧ Below w.heap.size w w' := by
  by_cases h : N < 0
  · have e : rightB l N = false := by unfold rightB; simp; omega
    rw [e]; exact right_neg bv N w h hN0
  · obtain ⟨ao, c, rfl, hnc, hcm, h0⟩ := hb.shape
    by_cases hne : (l.length : Int) = (N + 7) / 8
    · by_cases h8 : N % 8 = 0
      · have e : rightB l N = true := by unfold rightB; simp [hne, h8]; omega
        rw [e]; exact right_whole ao _ c N w (by omega) hN hl hne h8
      · obtain ⟨b, off, c', hv, _, _, hbl, hcell⟩ := hb.form (by decide) (by omega)
        simp only [Value.slice.injEq] at hv
        obtain ⟨rfl, _, rfl⟩ := hv
        have hc := hcell (l.length - 1) (by omega)
        rw [bc_get l (l.length - 1) (by omega)] at hc
        have e : rightB l N = decide ((((l.getD (l.length - 1) 0).toNat : Nat) : Int) * 2 ^ (N % 8).toNat % 256 = 0) := by
          unfold rightB
          simp [hne, h8]
          intro _; omega
        rw [e]
        exact right_part b off _ c N _ w (by omega) hN hl hne h8 hbl (UInt8.toNat_lt _) hc
    · have e : rightB l N = false := by unfold rightB; simp [hne]
      rw [e]; exact right_len ao _ c N w (by omega) hN hl hne

end Go.Proofs.Ytcnfhabljogniaa
