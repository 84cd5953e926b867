/- gaugelaw01.lives. -/
import Derived.Test.YtcnfhabljogniaaD
import Derived.Lib.Zigzag
namespace Go.Proofs.Ytcnfhabljogniaa
open Go.RowKit

theorem lives1 : putV [] 0 5 4 = ([80], 4, 0) := by decide +kernel
theorem lives2 : putV [80] 4 3 2 = ([92], 6, 0) := by decide +kernel


/-- 2n, or -2n - 1. -/
def zig (n : Int) : Int := if 0 ≤ n then 2 * n else -2 * n - 1
def zag (u : Int) : Int := if u % 2 = 0 then u / 2 else -(u / 2) - 1

theorem zig_any (n : Int) (w : World) (h0 : -9223372036854775808 ≤ n) (h1 : n ≤ 9223372036854775807) :
    Calls Try.prog 43 #[.int .i64 n] w fun e w' => e = .returned (.int .u64 (zig n)) ∧ w' = w := by
  have hx : bits BinOp.xor IntKind.u64 (IntKind.u64.wrap (wrap64 (n * 2))) (IntKind.u64.wrap (n / 9223372036854775808)) = zig n := by
    unfold zig
    by_cases h : 0 ≤ n
    · rw [if_pos h, show n / 9223372036854775808 = 0 by omega, IntKind.wrap_u64, IntKind.wrap_u64, show (0 : Int) % 18446744073709551616 = 0 by rfl]
      have e : wrap64 (n * 2) % 18446744073709551616 = ((2 * n).toNat : Int) := by unfold wrap64; omega
      rw [e, show (0 : Int) = ((0 : Nat) : Int) by rfl, u64_xor_nat _ _ (by omega) (by decide), Nat.xor_zero]
      omega
    · rw [if_neg h, show n / 9223372036854775808 = -1 by omega, IntKind.wrap_u64, IntKind.wrap_u64]
      have e : wrap64 (n * 2) % 18446744073709551616 = ((n * 2 + 18446744073709551616).toNat : Int) := by unfold wrap64; omega
      rw [e, show (-1 : Int) % 18446744073709551616 = ((2 ^ 64 - 1 : Nat) : Int) by decide, u64_xor_nat _ _ (by omega) (by decide), Nat.xor_comm, Lib.xor_ones64 _ (by omega)]
      omega
  have Hx := hid hx; clear hx
  go_enter Try.func43, Try.ntmps43
  go_wp2
  go_ret
  exact ⟨ret_int (by show _ = _; exact Hx.out), rfl⟩

theorem zag_any (u : Int) (w : World) (h0 : 0 ≤ u) (h1 : u < 18446744073709551616) :
    Calls Try.prog 46 #[.int .u64 u] w fun e w' => e = .returned (.int .i64 (zag u)) ∧ w' = w := by
  have hx : bits BinOp.xor IntKind.i64 (u / 2) (wrap64 (-wrap64 (bits BinOp.and IntKind.u64 u 1))) = zag u := by
    have e1 : u / 2 = ((u / 2).toNat : Int) := by omega
    rw [Lib.u64_and1 u h0 h1, e1]
    unfold zag
    by_cases h : u % 2 = 0
    · rw [if_pos h, h]
      have e2 : wrap64 (-wrap64 0) = 0 := by unfold wrap64; decide
      rw [e2]
      have e3 : ∀ x : Nat, x < 9223372036854775808 → bits .xor .i64 (x : Int) 0 = x := by
        intro x hx
        show IntKind.i64.wrap ((BitVec.ofInt 64 (x : Int) ^^^ BitVec.ofInt 64 0).toNat : Int) = _
        have h2 : (BitVec.ofInt 64 (x : Int)).toNat = x := by rw [BitVec.ofInt_natCast, BitVec.toNat_ofNat]; exact Nat.mod_eq_of_lt (by omega)
        rw [BitVec.toNat_xor, h2, show (BitVec.ofInt 64 0).toNat = 0 by decide, Nat.xor_zero, IntKind.wrap_i64]
        omega
      rw [e3 _ (by omega)]
      omega
    · rw [if_neg h, show u % 2 = 1 by omega]
      have e2 : wrap64 (-wrap64 1) = -1 := by unfold wrap64; decide
      rw [e2]
      have e3 : ∀ x : Nat, x < 9223372036854775808 → bits .xor .i64 (x : Int) (-1) = -(x : Int) - 1 := by
        intro x hx
        show IntKind.i64.wrap ((BitVec.ofInt 64 (x : Int) ^^^ BitVec.ofInt 64 (-1)).toNat : Int) = _
        have h1 : (BitVec.ofInt 64 (-1)).toNat = 2 ^ 64 - 1 := by decide
        have h2 : (BitVec.ofInt 64 (x : Int)).toNat = x := by rw [BitVec.ofInt_natCast, BitVec.toNat_ofNat]; exact Nat.mod_eq_of_lt (by omega)
        rw [BitVec.toNat_xor, h1, h2, Nat.xor_comm, Lib.xor_ones64 x (by omega), IntKind.wrap_i64]
        omega
      rw [e3 _ (by omega)]
      omega
  have Hx := hid hx; clear hx
  go_enter Try.func46, Try.ntmps46
  go_wp2
  go_ret
  exact ⟨ret_int (by show _ = _; exact Hx.out), rfl⟩

theorem zig_range (n : Int) (h0 : -9223372036854775808 ≤ n) (h1 : n ≤ 9223372036854775807) : 0 ≤ zig n ∧ zig n < 18446744073709551616 := by unfold zig; split <;> omega
theorem zag_range (u : Int) (h0 : 0 ≤ u) (h1 : u < 18446744073709551616) : -9223372036854775808 ≤ zag u ∧ zag u ≤ 9223372036854775807 := by unfold zag; split <;> omega
theorem zag_zig (n : Int) : zag (zig n) = n := by unfold zag zig; split <;> split <;> omega
theorem zig_zag (u : Int) (h0 : 0 ≤ u) : zig (zag u) = u := by unfold zag zig; split <;> split <;> omega
theorem refZig_any (n : Int) (w : World) (h0 : -9223372036854775808 ≤ n) (h1 : n ≤ 9223372036854775807) :
    Calls Try.prog 29 #[.int .i64 n] w fun e w' => e = .returned (.int .u64 (zig n)) ∧ w' = w := by
  by_cases h : 0 ≤ n
  · go_enter Try.func29, Try.ntmps29
    go_wp2
    go_ret
    exact ⟨ret_int (by show _ = _; unfold zig; (try simp only [IntKind.wrap_u64]); (split <;> omega)), rfl⟩
  · go_enter Try.func29, Try.ntmps29
    go_wp2
    go_ret
    exact ⟨ret_int (by show _ = _; unfold zig; (try simp only [IntKind.wrap_u64]); (split <;> omega)), rfl⟩
theorem refZag_any (u : Int) (w : World) (h0 : 0 ≤ u) (h1 : u < 18446744073709551616) :
    Calls Try.prog 41 #[.int .u64 u] w fun e w' => e = .returned (.int .i64 (zag u)) ∧ w' = w := by
  by_cases h : u % 2 = 0
  · have hb : (u % 2 == 0) = true := by simpa using h
    go_enter Try.func41, Try.ntmps41
    go_wp2
    go_ret
    exact ⟨ret_int (by show _ = _; unfold zag; rw [if_pos h]; try unfold wrap64; omega), rfl⟩
  · have hb : (u % 2 == 0) = false := by simpa using h
    go_enter Try.func41, Try.ntmps41
    go_wp2
    go_ret
    exact ⟨ret_int (by show _ = _; unfold zag; rw [if_neg h]; try unfold wrap64; omega), rfl⟩
end Go.Proofs.Ytcnfhabljogniaa
