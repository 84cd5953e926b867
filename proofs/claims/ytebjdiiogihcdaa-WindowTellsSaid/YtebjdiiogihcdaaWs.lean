/- math/bits Div64 with a divisor below 2^32. -/
import Derived.Test.YtebjdiiogihcdaaWq
import Derived.Test.YtebjdiiogihcdaaLen
import Derived.Lib.ItoaNum
namespace Go.Proofs.Ytebjdiiogihcdaa
open Go.RowKit
set_option linter.unusedSimpArgs false

set_option maxRecDepth 100000 in
theorem div_plain (hi lo y M N : Nat) (hMN : M * N = 4294967296) (hlo : lo < 18446744073709551616) (hy : hi < y) (hyM : y < M) :
    y * N < 4294967296 ∧ hi * (N * 4294967296) < 18446744073709551616 ∧ lo / M < N * 4294967296 ∧ hi * (N * 4294967296) + lo / M < y * N * 4294967296 ∧ lo % M * N < 4294967296 ∧
    lo * (N * 4294967296) = lo / M * 18446744073709551616 + lo % M * N * 4294967296 ∧
    (hi * 18446744073709551616 + lo) * N = (hi * (N * 4294967296) + lo / M) * 4294967296 + lo % M * N := by
  have hN : 0 < N := Nat.pos_of_ne_zero (by rintro rfl; simp at hMN)
  have hM : 0 < M := by omega
  have e1 : y * N < M * N := Nat.mul_lt_mul_of_pos_right hyM hN
  have e2 : (hi + 1) * N ≤ y * N := Nat.mul_le_mul_right N hy
  have e3 : lo % M * N < M * N := Nat.mul_lt_mul_of_pos_right (Nat.mod_lt lo hM) hN
  have e4 : M * (lo / M) + lo % M = lo := Nat.div_add_mod lo M
  have e5 : lo / M * (M * N) + lo % M * N = lo * N := by rw [← Nat.mul_assoc, ← Nat.add_mul, Nat.mul_comm (lo / M) M, e4]
  have e6 : lo / M * M ≤ lo := Nat.div_mul_le_self lo M
  have e7 : lo / M < N * 4294967296 := by
    refine (Nat.div_lt_iff_lt_mul hM).2 ?_
    rw [Nat.mul_right_comm, Nat.mul_comm N M, hMN]
    omega
  rw [hMN] at e1 e3 e5
  rw [Nat.add_mul] at e2
  have e8 : hi * (N * 4294967296) = hi * N * 4294967296 := by rw [Nat.mul_assoc]
  have e9 : lo * (N * 4294967296) = lo * N * 4294967296 := by rw [Nat.mul_assoc]
  rw [e8, e9, Nat.add_mul, Nat.mul_right_comm hi 18446744073709551616 N]
  clear e4 e6 e8 e9 hMN
  generalize hi * N = a at *
  generalize lo % M * N = b at *
  generalize y * N = c at *
  generalize lo / M = d at *
  generalize lo * N = e at *
  clear hM hyM hlo
  subst e5
  clear hy
  refine ⟨by omega, by omega, by omega, by omega, by omega, ?_, ?_⟩
  · clear e1 e2 e3 e7; omega
  · clear e1 e2 e3 e7; omega
theorem quo_plain (D y N U V1 Y Q1 R1 W : Nat) (hN : 0 < N) (hY : Y = y * N) (hY0 : 0 < Y) (hD : D * N = U * 4294967296 + V1) (hU : U = Q1 * Y + R1) (hW : W = R1 * 4294967296 + V1) : D / y = Q1 * 4294967296 + W / Y := by
  rw [← Nat.mul_div_mul_right D y hN, ← hY, hD, hU]
  rw [show (Q1 * Y + R1) * 4294967296 + V1 = Y * (Q1 * 4294967296) + W by rw [hW, Nat.add_mul, Nat.mul_right_comm, Nat.mul_comm Y]; omega]
  rw [Nat.mul_add_div hY0]
theorem and_low (Y : Nat) (h : Y * 4294967296 < 18446744073709551616) : bits .and .u64 ((Y * 4294967296 : Nat) : Int) 4294967295 = 0 := by
  rw [Mul64.maskN _ h, Nat.mul_mod_left]; rfl
theorem or_low (a b s : Nat) (hb : b < 2 ^ s) (h : a * 2 ^ s + b < 18446744073709551616) : bits .or .u64 ((a * 2 ^ s : Nat) : Int) ((b : Nat) : Int) = ((a * 2 ^ s + b : Nat) : Int) := by
  have h1 := bits_or_u64_nat (a * 2 ^ s) b (by omega) (by omega)
  rw [Nat.mul_comm, ← Nat.two_pow_add_eq_or_of_lt hb, Nat.mul_comm] at h1
  exact h1
theorem cdiv (Y : Nat) : ((Y * 4294967296 : Nat) : Int) / 4294967296 = (Y : Int) := by omega
theorem cmul (Q Y : Nat) : (Q : Int) * ((Y * 4294967296 : Nat) : Int) = ((Q * Y * 4294967296 : Nat) : Int) := by rw [← Int.natCast_mul, Nat.mul_assoc]
theorem wrapU (a b : Nat) (h : a % 18446744073709551616 = b) : IntKind.u64.wrap (a : Int) = (b : Int) := by rw [IntKind.wrap_u64]; omega

theorem bitLen_bounds (u : Nat) (h0 : u ≠ 0) (h : u < 18446744073709551616) : 1 ≤ Lib.bitLen u ∧ 2 ^ (Lib.bitLen u - 1) ≤ u ∧ u < 2 ^ Lib.bitLen u := Lib.bitLenAux_bounds 64 u h h0

set_option maxRecDepth 100000 in
set_option maxHeartbeats 2000000 in
theorem lead_any (u s : Nat) (w : World) (hu : u < 18446744073709551616) (hs : s + Lib.bitLen u = 64) : Calls Try.prog 64 #[.int .u64 u] w fun e w' => e = .returned (.int .i64 (s : Int)) ∧ w' = w := by
  have HL := hid (Try.len64 (u : Int) w (by omega) (by omega))
  simp only [Int.toNat_natCast] at HL
  have kw : IntKind.i64.wrap (64 - (Lib.bitLen u : Int)) = (s : Int) := by rw [show 64 - (Lib.bitLen u : Int) = (s : Int) by omega]; exact IntWalk.i64_in _ (by omega)
  go_enter Try.func64, Try.ntmps64
  go_wp2_with fail
  refine HL.out.mono ?_
  rintro e wz ⟨rfl, hwz⟩
  subst wz
  go_wp2
  go_ret
  exact ⟨rfl, rfl⟩

set_option maxRecDepth 100000 in
set_option maxHeartbeats 2000000 in
theorem div64_small (hi lo y : Nat) (h0 : hi ≠ 0) (hlo : lo < 18446744073709551616) (hy : hi < y) (hy2 : y < 4294967296) (w : World) :
    Calls Try.prog 61 #[.int .u64 hi, .int .u64 lo, .int .u64 y] w fun e w' => (∃ r : Int, e = .returned (.tuple #[.int .u64 (((hi * 18446744073709551616 + lo) / y : Nat) : Int), .int .u64 r])) ∧ Below w.heap.size w w' := by
  have h1 : ((y : Int) == 0) = false := by simp; omega
  have h2 : decide ((y : Int) ≤ (hi : Int)) = false := decide_eq_false (by omega)
  have h2' : decide (y ≤ hi) = false := decide_eq_false (by omega)
  have h3 : ((hi : Int) == 0) = false := by simp; omega
  obtain ⟨n1, n2, n3⟩ := bitLen_bounds y (by omega) (by omega)
  obtain ⟨n, hn⟩ : ∃ n, n = Lib.bitLen y := ⟨_, rfl⟩
  rw [← hn] at n1 n2 n3
  have n4 : n ≤ 32 := by rw [hn]; exact Lib.bitLen_le y 32 (by decide) hy2
  obtain ⟨t, ht⟩ : ∃ t, t + n = 32 := ⟨32 - n, by omega⟩
  have HL := hid (lead_any y (t + 32) w (by omega) (by omega))
  have ks : IntKind.u64.wrap ((t + 32 : Nat) : Int) = ((t + 32 : Nat) : Int) := by rw [IntKind.wrap_u64]; omega
  have hMN : 2 ^ n * 2 ^ t = 4294967296 := by rw [← Nat.pow_add, Nat.add_comm n t, ht]
  obtain ⟨p1, p2, p3, p4, p5, p6, p7⟩ := div_plain hi lo y (2 ^ n) (2 ^ t) hMN hlo hy n3
  have hN0 : 0 < 2 ^ t := Nat.two_pow_pos t
  have e2s : 2 ^ (t + 32) = 2 ^ t * 4294967296 := by rw [Nat.pow_add]
  have e64 : 64 - (t + 32) = n := by omega
  obtain ⟨s, hs⟩ : ∃ s, s = t + 32 := ⟨_, rfl⟩
  rw [← hs] at HL ks e2s e64
  obtain ⟨Y, hY⟩ : ∃ Y, Y = y * 2 ^ t := ⟨_, rfl⟩
  have hY0 : 0 < Y := by rw [hY]; exact Nat.mul_pos (by omega) hN0
  obtain ⟨B, hB⟩ : ∃ B, B = lo / 2 ^ n := ⟨_, rfl⟩
  obtain ⟨A, hA⟩ : ∃ A, A = hi * (2 ^ t * 4294967296) := ⟨_, rfl⟩
  obtain ⟨V1, hV1⟩ : ∃ V1, V1 = lo % 2 ^ n * 2 ^ t := ⟨_, rfl⟩
  rw [← hY] at p1 p4
  rw [← hA] at p2 p4 p7
  rw [← hB] at p3 p4 p6 p7
  rw [← hV1] at p5 p6 p7
  have f1 : IntKind.u64.wrap ((y : Int) * 2 ^ s) = ((Y * 4294967296 : Nat) : Int) := by
    rw [show (y : Int) * 2 ^ s = ((y * 2 ^ s : Nat) : Int) by push_cast; rfl]
    refine wrapU _ _ ?_
    rw [e2s, ← Nat.mul_assoc, ← hY]
    omega
  have f4 : IntKind.u64.wrap ((hi : Int) * 2 ^ s) = ((A : Nat) : Int) := by
    rw [show (hi : Int) * 2 ^ s = ((hi * 2 ^ s : Nat) : Int) by push_cast; rfl]
    refine wrapU _ _ ?_
    rw [e2s, ← hA]
    omega
  have f5 : (lo : Int) / 2 ^ n = ((B : Nat) : Int) := by
    rw [hB]; push_cast; rfl
  have m1 : min s 64 = s := by omega
  have m2 : IntKind.u64.wrap (64 - (s : Int)) = (n : Int) := by rw [IntKind.wrap_u64]; omega
  have m3 : min n 64 = n := by omega
  have f7 : IntKind.u64.wrap ((lo : Int) * 2 ^ s) = ((V1 * 4294967296 : Nat) : Int) := by
    rw [show (lo : Int) * 2 ^ s = ((lo * 2 ^ s : Nat) : Int) by push_cast; rfl]
    refine wrapU _ _ ?_
    rw [e2s, p6]
    omega
  have f6 : bits .or .u64 (A : Int) (B : Int) = ((A + B : Nat) : Int) := by
    have hA' : A = hi * 2 ^ s := by rw [e2s, hA]
    have := or_low hi B s (by rw [e2s]; exact p3) (by rw [← hA']; omega)
    rw [← hA'] at this
    exact this
  have f3 : bits .and .u64 ((Y * 4294967296 : Nat) : Int) 4294967295 = 0 := and_low Y (by omega)
  have f9 : bits .and .u64 ((V1 * 4294967296 : Nat) : Int) 4294967295 = 0 := and_low V1 (by omega)
  have f2 : ((Y * 4294967296 : Nat) : Int) / 4294967296 = (Y : Int) := cdiv Y
  have f8 : ((V1 * 4294967296 : Nat) : Int) / 4294967296 = (V1 : Int) := cdiv V1
  obtain ⟨U, hU⟩ : ∃ U, U = A + B := ⟨_, rfl⟩
  obtain ⟨Z, hZ⟩ : ∃ Z, Z = Y * 4294967296 := ⟨_, rfl⟩
  obtain ⟨V, hV⟩ : ∃ V, V = V1 * 4294967296 := ⟨_, rfl⟩
  rw [← hU] at f6 p4 p7
  rw [← hZ] at f1 f2 f3
  rw [← hV] at f7 f8 f9
  obtain ⟨Q1, hQ1⟩ : ∃ Q1, Q1 = U / Y := ⟨_, rfl⟩
  obtain ⟨R1, hR1⟩ : ∃ R1, R1 = U % Y := ⟨_, rfl⟩
  have q1 : (U : Int) / (Y : Int) = (Q1 : Int) := by rw [hQ1]; rfl
  have q2 : U = Q1 * Y + R1 := by rw [hQ1, hR1, Nat.mul_comm]; exact (Nat.div_add_mod U Y).symm
  have q3 : R1 < Y := by rw [hR1]; exact Nat.mod_lt _ hY0
  have q4 : Q1 < 4294967296 := by rw [hQ1]; exact (Nat.div_lt_iff_lt_mul hY0).2 (by rw [Nat.mul_comm]; exact p4)
  obtain ⟨W, hW⟩ : ∃ W, W = R1 * 4294967296 + V1 := ⟨_, rfl⟩
  obtain ⟨Q0, hQ0⟩ : ∃ Q0, Q0 = W / Y := ⟨_, rfl⟩
  obtain ⟨R0, hR0⟩ : ∃ R0, R0 = W % Y := ⟨_, rfl⟩
  have r1 : (W : Int) / (Y : Int) = (Q0 : Int) := by rw [hQ0]; rfl
  have r2 : W = Q0 * Y + R0 := by rw [hQ0, hR0, Nat.mul_comm]; exact (Nat.div_add_mod W Y).symm
  have r4 : Q0 < 4294967296 := by rw [hQ0]; exact (Nat.div_lt_iff_lt_mul hY0).2 (by omega)
  have r3 : R0 < Y := by rw [hR0]; exact Nat.mod_lt _ hY0
  have EQ := hid (quo_plain _ y (2 ^ t) U V1 Y Q1 R1 W hN0 hY hY0 p7 q2 hW)
  rw [← hQ0] at EQ
  obtain ⟨X1, hX1⟩ : ∃ X1, X1 = Q1 * Y := ⟨_, rfl⟩
  obtain ⟨X0, hX0⟩ : ∃ X0, X0 = Q0 * Y := ⟨_, rfl⟩
  rw [← hX1] at q2
  rw [← hX0] at r2
  have wq1 : IntKind.u64.wrap (Q1 : Int) = (Q1 : Int) := by rw [IntKind.wrap_u64]; omega
  have wq0 : IntKind.u64.wrap (Q0 : Int) = (Q0 : Int) := by rw [IntKind.wrap_u64]; omega
  have g1 : IntKind.u64.wrap ((Q1 : Int) * (Y : Int)) = (X1 : Int) := by
    rw [show (Q1 : Int) * (Y : Int) = ((Q1 * Y : Nat) : Int) by push_cast; rfl, ← hX1]; exact wrapU _ _ (by omega)
  have g2 : IntKind.u64.wrap ((U : Int) - (X1 : Int)) = (R1 : Int) := by rw [IntKind.wrap_u64]; omega
  have g3 : IntKind.u64.wrap (4294967296 * (R1 : Int)) = ((4294967296 * R1 : Nat) : Int) := by rw [IntKind.wrap_u64]; omega
  obtain ⟨T1, hT1⟩ : ∃ T1, T1 = 4294967296 * R1 := ⟨_, rfl⟩
  rw [← hT1] at g3
  have g4 : IntKind.u64.wrap ((T1 : Int) + (V1 : Int)) = ((T1 + V1 : Nat) : Int) := by rw [IntKind.wrap_u64]; omega
  have g4' : decide (((T1 + V1 : Nat) : Int) < 0) = false := decide_eq_false (by omega)
  have g5 : decide ((4294967296 : Int) ≤ (Q1 : Int)) = false := decide_eq_false (by omega)
  have g5' : decide (4294967296 ≤ Q1) = false := decide_eq_false (by omega)
  have g6 : IntKind.u64.wrap ((U : Int) * 4294967296) = ((U * 4294967296 % 18446744073709551616 : Nat) : Int) := by rw [IntKind.wrap_u64]; omega
  obtain ⟨E1, hE1⟩ : ∃ E1, E1 = U * 4294967296 % 18446744073709551616 := ⟨_, rfl⟩
  rw [← hE1] at g6
  have g7 : IntKind.u64.wrap ((E1 : Int) + (V1 : Int)) = (((E1 + V1) % 18446744073709551616 : Nat) : Int) := by rw [IntKind.wrap_u64]; omega
  obtain ⟨E2, hE2⟩ : ∃ E2, E2 = (E1 + V1) % 18446744073709551616 := ⟨_, rfl⟩
  rw [← hE2] at g7
  have g8 : IntKind.u64.wrap ((Q1 : Int) * (Z : Int)) = (((X1 * 4294967296) % 18446744073709551616 : Nat) : Int) := by
    rw [show (Q1 : Int) * (Z : Int) = ((X1 * 4294967296 : Nat) : Int) by rw [hX1, hZ]; exact cmul Q1 Y]; exact wrapU _ _ rfl
  obtain ⟨E3, hE3⟩ : ∃ E3, E3 = (X1 * 4294967296) % 18446744073709551616 := ⟨_, rfl⟩
  rw [← hE3] at g8
  have g9 : IntKind.u64.wrap ((E2 : Int) - (E3 : Int)) = (W : Int) := by rw [IntKind.wrap_u64]; omega
  have c1 : IntKind.u64.wrap ((Q0 : Int) * (Y : Int)) = (X0 : Int) := by
    rw [show (Q0 : Int) * (Y : Int) = ((Q0 * Y : Nat) : Int) by push_cast; rfl, ← hX0]; exact wrapU _ _ (by omega)
  have c2 : IntKind.u64.wrap ((W : Int) - (X0 : Int)) = (R0 : Int) := by rw [IntKind.wrap_u64]; omega
  have c3 : IntKind.u64.wrap (4294967296 * (R0 : Int)) = ((4294967296 * R0 : Nat) : Int) := by rw [IntKind.wrap_u64]; omega
  obtain ⟨T0, hT0⟩ : ∃ T0, T0 = 4294967296 * R0 := ⟨_, rfl⟩
  rw [← hT0] at c3
  have c4 : IntKind.u64.wrap (T0 : Int) = (T0 : Int) := by rw [IntKind.wrap_u64]; omega
  have c4' : decide ((T0 : Int) < 0) = false := decide_eq_false (by omega)
  have c5 : decide ((4294967296 : Int) ≤ (Q0 : Int)) = false := decide_eq_false (by omega)
  have c5' : decide (4294967296 ≤ Q0) = false := decide_eq_false (by omega)
  have c6 : IntKind.u64.wrap ((Q1 : Int) * 4294967296) = ((Q1 * 4294967296 : Nat) : Int) := by rw [IntKind.wrap_u64]; omega
  obtain ⟨G1, hG1⟩ : ∃ G1, G1 = Q1 * 4294967296 := ⟨_, rfl⟩
  rw [← hG1] at c6
  have c7 : IntKind.u64.wrap ((G1 : Int) + (Q0 : Int)) = ((G1 + Q0 : Nat) : Int) := by rw [IntKind.wrap_u64]; omega
  rw [EQ.out, ← hG1]
  have y0 : ¬ (Y : Int) = 0 := by omega
  have y1 : ((Y : Int) == 0) = false := by simp; omega
  have y2 : ¬ Y = 0 := by omega
  clear hn n1 n2 n3 n4 ht hMN p1 p2 p3 p4 p5 p6 p7 hN0 e2s e64 hs hY hY0 hB hA hV1 hU hZ hV hQ1 hR1 q2 q3 q4 hW hQ0 hR0 r2 r4 r3 EQ hX1 hX0 hT1 hE1 hE2 hE3 hT0 hG1
  go_enter Try.func61, Try.ntmps61
  go_wp2_with fail
  refine HL.out.mono ?_
  rintro e wz ⟨rfl, hwz⟩
  subst wz
  go_wp2
  go_loopw [15, 16] (fun a b wr => a = .int .u64 (Q1 : Int) ∧ b = .int .u64 (R1 : Int) ∧ wr = w) (fun _ _ _ => 0)
  case atStart => exact ⟨rfl, rfl, rfl⟩
  case round =>
    obtain ⟨rfl, rfl, rfl⟩ := hrel
    go_wp2
    go_loopw [18, 16] (fun a b wr2 => a = .int .u64 (Q0 : Int) ∧ b = .int .u64 (R0 : Int) ∧ wr2 = wr) (fun _ _ _ => 0)
    case atStart => exact ⟨rfl, rfl, rfl⟩
    case round =>
      obtain ⟨rfl, rfl, rfl⟩ := hrel
      go_wp2
      go_ret2
      exact ⟨⟨_, rfl⟩, Below.refl _ _⟩
end Go.Proofs.Ytebjdiiogihcdaa
