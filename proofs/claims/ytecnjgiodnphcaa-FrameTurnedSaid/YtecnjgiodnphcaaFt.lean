/- The sum and bits that are turned: plain. -/
import Derived.Test.YtecnjgiodnphcaaFp
import Derived.Test.YtecnjgiodnphcaaFm
namespace Go.Proofs.Ytecnjgiodnphcaa
open Go.RowKit

theorem crcN_add (c a b : Nat) : crcN c (a + b) = crcN (crcN c a) b := by
  induction b with
  | zero => rfl
  | succ b ih => rw [← Nat.add_assoc, crcN, crcN, ih]
theorem crc1_double (x : Nat) : crc1 (x * 2) = x := by
  unfold crc1
  rw [if_neg (by omega), Nat.xor_zero]; omega
theorem crcN_shift (x k : Nat) : crcN (x * 2 ^ k) k = x := by
  induction k generalizing x with
  | zero => simp [crcN]
  | succ k ih => rw [crcN, show x * 2 ^ (k + 1) = (x * 2) * 2 ^ k by rw [Nat.pow_succ, Nat.mul_assoc, Nat.mul_comm 2], ih, crc1_double]
theorem crcN_bit (i k : Nat) (h : i ≤ k) : crcN (2 ^ i) k = crcN 1 (k - i) := by
  have e : k = i + (k - i) := by omega
  rw [e, crcN_add, show (2 : Nat) ^ i = 1 * 2 ^ i by rw [Nat.one_mul], crcN_shift]
  congr 1
  omega
/-- what a turned register does -/
theorem crcL_reg (l : List UInt8) (r d : Nat) : crcL (r ^^^ d) l = crcL r l ^^^ crcN d (8 * l.length) := by
  induction l generalizing r d with
  | nil => rfl
  | cons b t ih =>
    show crcL (crcB (r ^^^ d) b) t = crcL (crcB r b) t ^^^ _
    have e : crcB (r ^^^ d) b = crcB r b ^^^ crcN d 8 := by
      unfold crcB
      rw [← crcN_xor]
      congr 1
      ac_nf
    rw [e, ih, List.length_cons, show 8 * (t.length + 1) = 8 + 8 * t.length by omega, crcN_add]

/-- one bit turned -/
def flip1 (l : List UInt8) (j : Nat) : List UInt8 := l.set (j / 8) (l.getD (j / 8) 0 ^^^ UInt8.ofNat (2 ^ (j % 8)))
@[simp] theorem flip1_length (l : List UInt8) (j : Nat) : (flip1 l j).length = l.length := by simp [flip1]
theorem crcL_flip1 (l : List UInt8) (c j : Nat) (h : j < 8 * l.length) : crcL c (flip1 l j) = crcL c l ^^^ crcN 1 (8 * l.length - j) := by
  induction l generalizing c j with
  | nil => simp at h
  | cons b t ih =>
    by_cases hj : j < 8
    · have e : flip1 (b :: t) j = (b ^^^ UInt8.ofNat (2 ^ j)) :: t := by
        unfold flip1
        rw [show j / 8 = 0 by omega, show j % 8 = j by omega]
        rfl
      have h2 : (2 : Nat) ^ j < 256 := Nat.lt_of_lt_of_le (Nat.pow_lt_pow_right (by decide) hj) (by decide)
      rw [e]
      show crcL (crcB c (b ^^^ UInt8.ofNat (2 ^ j))) t = crcL (crcB c b) t ^^^ _
      have e1 : crcB c (b ^^^ UInt8.ofNat (2 ^ j)) = crcB c b ^^^ crcN 1 (8 - j) := by
        unfold crcB
        rw [UInt8.toNat_xor, UInt8.toNat_ofNat', Nat.mod_eq_of_lt h2, ← Nat.xor_assoc, crcN_xor, crcN_bit j 8 (by omega)]
      rw [e1, crcL_reg, List.length_cons, ← crcN_add]
      congr 2
      omega
    · have e : flip1 (b :: t) j = b :: flip1 t (j - 8) := by
        unfold flip1
        rw [show j / 8 = (j - 8) / 8 + 1 by omega, show j % 8 = (j - 8) % 8 by omega]
        rfl
      rw [e]
      show crcL (crcB c b) (flip1 t (j - 8)) = crcL (crcB c b) t ^^^ _
      rw [ih _ _ (by rw [List.length_cons] at h; omega), List.length_cons]
      congr 2
      omega

/-- the first k bits of a pattern, from a place on -/
def flips (l : List UInt8) (fr p : Nat) : Nat → List UInt8
  | 0 => l
  | k + 1 => if p / 2 ^ k % 2 = 1 then flip1 (flips l fr p k) (fr + k) else flips l fr p k
@[simp] theorem flips_length (l : List UInt8) (fr p k : Nat) : (flips l fr p k).length = l.length := by
  induction k with
  | zero => rfl
  | succ k ih => unfold flips; split <;> simp [ih]
theorem mod_pow_succ_xor (p k : Nat) : p % 2 ^ (k + 1) = if p / 2 ^ k % 2 = 1 then p % 2 ^ k ^^^ 2 ^ k else p % 2 ^ k := by
  apply Nat.eq_of_testBit_eq
  intro i
  have hb : (p / 2 ^ k % 2 = 1) ↔ p.testBit k = true := by
    rw [Nat.testBit_eq_decide_div_mod_eq]; simp
  have e1 := Nat.testBit_mod_two_pow p (k + 1) i
  have e2 := Nat.testBit_mod_two_pow p k i
  split
  · rename_i h
    have hk := hb.1 h
    rw [e1, Nat.testBit_xor, e2, Nat.testBit_two_pow]
    by_cases hik : i = k
    · subst hik; simp [hk]
    · by_cases h1 : i < k
      · simp [h1, show i < k + 1 by omega, Ne.symm hik]
      · simp [h1, show ¬ i < k + 1 by omega, Ne.symm hik]
  · rename_i h
    have hk : p.testBit k = false := by
      cases hh : p.testBit k
      · rfl
      · exact absurd (hb.2 hh) h
    rw [e1, e2]
    by_cases hik : i = k
    · subst hik; simp [hk]
    · by_cases h1 : i < k
      · simp [h1, show i < k + 1 by omega]
      · simp [h1, show ¬ i < k + 1 by omega]
theorem crcL_flips (l : List UInt8) (c fr p k : Nat) (h : fr + k ≤ 8 * l.length) : crcL c (flips l fr p k) = crcL c l ^^^ crcN (p % 2 ^ k) (8 * l.length - fr) := by
  induction k with
  | zero =>
    have e : ∀ m, crcN 0 m = 0 := by
      intro m
      induction m with
      | zero => rfl
      | succ m ih => rw [crcN, ih]; rfl
    simp [flips, Nat.mod_one, e]
  | succ k ih =>
    rw [mod_pow_succ_xor]
    unfold flips
    split
    · rw [crcL_flip1 _ _ _ (by simp; omega), ih (by omega), crcN_xor, crcN_bit k _ (by omega), flips_length, Nat.xor_assoc]
      congr 3
      omega
    · exact ih (by omega)
theorem crc1_zero {c : Nat} (hc : c < 4294967296) (h : crc1 c = 0) : c = 0 := by
  unfold crc1 at h
  by_cases hd : c % 2 = 1
  · rw [if_pos hd] at h
    have e : c / 2 = 2197175160 := by
      have h2 : (c / 2 ^^^ 2197175160) ^^^ 2197175160 = 0 ^^^ 2197175160 := by rw [h]
      rw [Nat.xor_assoc, Nat.xor_self, Nat.xor_zero, Nat.zero_xor] at h2
      exact h2
    omega
  · rw [if_neg hd, Nat.xor_zero] at h
    omega
theorem crcN_zero {c : Nat} (hc : c < 4294967296) (k : Nat) (h : crcN c k = 0) : c = 0 := by
  induction k with
  | zero => exact h
  | succ k ih => exact ih (crc1_zero (crcN_lt hc k) h)

theorem split8 (s k : Nat) : s % 2 ^ k ^^^ s / 2 ^ k * 2 ^ k = s := by
  apply Nat.eq_of_testBit_eq
  intro i
  rw [Nat.testBit_xor, Nat.testBit_mod_two_pow, Nat.testBit_mul_two_pow, Nat.testBit_div_two_pow]
  by_cases h : i < k
  · simp [h, show ¬ k ≤ i by omega]
  · simp [h, show k ≤ i by omega]
theorem crcB_shift (r y : Nat) (b : UInt8) : crcB (crcN r y) b = crcN (r ^^^ b.toNat * 2 ^ y) (y + 8) := by
  unfold crcB
  rw [crcN_add, crcN_xor r (b.toNat * 2 ^ y) y, crcN_shift]
/-- four bytes of a number, read into the register -/
theorem crcL_le4 (r s : Nat) (hs : s < 4294967296) : crcL r (le4 s) = crcN (r ^^^ s) 32 := by
  have h0 : r = crcN r 0 := rfl
  have hb : ∀ x : Nat, (UInt8.ofNat (x % 256)).toNat = x % 256 := fun x => by
    rw [UInt8.toNat_ofNat', Nat.mod_eq_of_lt (Nat.mod_lt _ (by decide))]
  show crcB (crcB (crcB (crcB r _) _) _) _ = _
  conv => lhs; rw [h0]
  rw [crcB_shift, crcB_shift, crcB_shift, crcB_shift, hb, hb, hb, hb]
  show crcN _ 32 = _
  congr 1
  have e3 : s / 16777216 % 256 * 2 ^ (0 + 8 + 8 + 8) = s / 2 ^ 24 * 2 ^ 24 := by
    rw [show s / 16777216 % 256 = s / 2 ^ 24 by omega]
  have e2 : s / 65536 % 256 * 2 ^ (0 + 8 + 8) = s % 2 ^ 24 / 2 ^ 16 * 2 ^ 16 := by
    rw [show s / 65536 % 256 = s % 2 ^ 24 / 2 ^ 16 by omega]
  have e1 : s / 256 % 256 * 2 ^ (0 + 8) = s % 2 ^ 24 % 2 ^ 16 / 2 ^ 8 * 2 ^ 8 := by
    rw [show s / 256 % 256 = s % 2 ^ 24 % 2 ^ 16 / 2 ^ 8 by omega]
  have e0 : s % 256 * 2 ^ 0 = s % 2 ^ 24 % 2 ^ 16 % 2 ^ 8 := by
    rw [show s % 256 * 2 ^ 0 = s % 2 ^ 24 % 2 ^ 16 % 2 ^ 8 by omega]
  rw [e0, e1, e2, e3, Nat.xor_assoc, Nat.xor_assoc, Nat.xor_assoc, ← Nat.xor_assoc (s % 2 ^ 24 % 2 ^ 16 % 2 ^ 8), split8, ← Nat.xor_assoc (s % 2 ^ 24 % 2 ^ 16), split8, split8]
/-- a frame's sum seals it -/
theorem crcL_sealed (d : List UInt8) : crcL 4294967295 (d ++ le4 (sumL d)) = crcN 4294967295 32 := by
  have h : crcL 4294967295 (d ++ le4 (sumL d)) = crcL (crcL 4294967295 d) (le4 (sumL d)) := by unfold crcL; rw [List.foldl_append]
  have hl := crcL_lt (c := 4294967295) (by decide) d
  rw [h, crcL_le4 _ _ (sumL_lt d)]
  congr 1
  unfold sumL
  rw [ones_sub _ hl, ← Nat.xor_assoc, Nat.xor_comm _ 4294967295, Nat.xor_assoc, Nat.xor_self, Nat.xor_zero]
/-- THE PLAIN LAW: a sealed row of which up to 32 bits in a row are turned is not sealed. -/
theorem turned_open (d y : List UInt8) (fr p n : Nat) (hp : p ≠ 0) (hp2 : p < 4294967296) (hfr : fr + 32 ≤ 8 * (d.length + 4)) (hy : y = flips (d ++ le4 (sumL d)) fr p 32) :
    y.drop n ≠ le4 (sumL (y.take n)) := by
  intro h
  have e : y = y.take n ++ le4 (sumL (y.take n)) := by rw [← h, List.take_append_drop]
  have h1 := crcL_sealed (y.take n)
  rw [← e, hy, crcL_flips _ _ _ _ _ (by simpa [le4_length] using hfr), crcL_sealed] at h1
  have h2 : ∀ a b : Nat, a ^^^ b = a → b = 0 := by
    intro a b hab
    have : a ^^^ (a ^^^ b) = a ^^^ a := by rw [hab]
    rwa [← Nat.xor_assoc, Nat.xor_self, Nat.zero_xor] at this
  have h3 := h2 _ _ h1
  rw [Nat.mod_eq_of_lt (show p < 2 ^ 32 from hp2)] at h3
  exact hp (crcN_zero hp2 _ h3)
theorem flip1_take (l : List UInt8) (j n : Nat) (h : 8 * n ≤ j) : (flip1 l j).take n = l.take n := by
  unfold flip1
  rw [List.take_set, List.set_eq_of_length_le]
  simp; omega
theorem flips_take (l : List UInt8) (fr p k n : Nat) (h : 8 * n ≤ fr) : (flips l fr p k).take n = l.take n := by
  induction k with
  | zero => rfl
  | succ k ih =>
    unfold flips
    split
    · rw [flip1_take _ _ _ (by omega), ih]
    · exact ih
end Go.Proofs.Ytecnjgiodnphcaa
