/- Plain laws on rows of bits: lists of bytes, no program. -/
namespace Go.Proofs.Ytcnfhabljogniaa

/-- The i-th bit of bytes, the highest of the first byte first. -/
def bitAt (l : List UInt8) (i : Nat) : Nat := (l.getD (i / 8) 0).toNat / 2 ^ (7 - i % 8) % 2

/-- Bytes that are right for n bits. -/
def Rt (l : List UInt8) (n : Nat) : Prop := l.length = (n + 7) / 8 ∧ ∀ i, n ≤ i → i < 8 * l.length → bitAt l i = 0

/-- A bit behind n bits. -/
def pushBit (l : List UInt8) (n : Nat) (b : Bool) : List UInt8 :=
  let l' := if n % 8 = 0 then l ++ [0] else l
  if b then l'.set (n / 8) (UInt8.ofNat ((l'.getD (n / 8) 0).toNat + 2 ^ (7 - n % 8))) else l'

/-- digit k of u -/
def dig (u k : Nat) : Bool := u / 2 ^ k % 2 = 1

/-- the first i of the n digits of u behind N bits -/
def putTo (l : List UInt8) (N u n : Nat) : Nat → List UInt8
  | 0 => l
  | i + 1 => pushBit (putTo l N u n i) (N + i) (dig u (n - 1 - i))

/-- u's n digits behind N bits -/
def putN (l : List UInt8) (N u n : Nat) : List UInt8 := putTo l N u n n

/-- the number that n bits from at on are -/
def getN (l : List UInt8) (at_ : Nat) : Nat → Nat
  | 0 => 0
  | n + 1 => 2 * getN l at_ n + bitAt l (at_ + n)

theorem bitAt_lt (l : List UInt8) (i : Nat) : bitAt l i < 2 := Nat.mod_lt _ (by decide)

theorem pushBit_length (l : List UInt8) (n : Nat) (b : Bool) (h : l.length = (n + 7) / 8) : (pushBit l n b).length = (n + 1 + 7) / 8 := by
  unfold pushBit
  by_cases h8 : n % 8 = 0 <;> cases b <;> simp [h8] <;> omega

theorem bit_add_same (a k : Nat) (hk : a / 2 ^ k % 2 = 0) : (a + 2 ^ k) / 2 ^ k % 2 = 1 := by
  have h : 0 < 2 ^ k := Nat.two_pow_pos k
  rw [Nat.add_div_right _ h]
  omega

theorem bit_add_other (a k j : Nat) (hk : a / 2 ^ k % 2 = 0) (hj : j ≠ k) : (a + 2 ^ k) / 2 ^ j % 2 = a / 2 ^ j % 2 := by
  rcases Nat.lt_or_gt_of_ne hj with h | h
  · obtain ⟨d, rfl⟩ := Nat.exists_eq_add_of_lt h
    have e : 2 ^ (j + d + 1) = 2 ^ j * (2 * 2 ^ d) := by rw [show j + d + 1 = j + (d + 1) by omega, Nat.pow_add, Nat.pow_succ, Nat.mul_comm (2 ^ d) 2]
    rw [e, Nat.add_mul_div_left _ _ (Nat.two_pow_pos j)]
    omega
  · obtain ⟨d, rfl⟩ := Nat.exists_eq_add_of_lt h
    have e : 2 ^ (k + d + 1) = 2 ^ k * (2 * 2 ^ d) := by rw [show k + d + 1 = k + (d + 1) by omega, Nat.pow_add, Nat.pow_succ, Nat.mul_comm (2 ^ d) 2]
    rw [e, ← Nat.div_div_eq_div_mul, ← Nat.div_div_eq_div_mul, Nat.add_div_right _ (Nat.two_pow_pos k)]
    rw [← Nat.div_div_eq_div_mul, ← Nat.div_div_eq_div_mul]
    have : (a / 2 ^ k).succ / 2 = a / 2 ^ k / 2 := by omega
    rw [this]

theorem byte_add_lt (a k : Nat) (ha : a < 256) (hk8 : k < 8) (hk : a / 2 ^ k % 2 = 0) : a + 2 ^ k < 256 := by
  rcases (show k = 0 ∨ k = 1 ∨ k = 2 ∨ k = 3 ∨ k = 4 ∨ k = 5 ∨ k = 6 ∨ k = 7 by omega) with rfl | rfl | rfl | rfl | rfl | rfl | rfl | rfl <;> (simp at hk ⊢; omega)

theorem bitAt_append_zero (l : List UInt8) (i : Nat) : bitAt (l ++ [0]) i = bitAt l i := by
  unfold bitAt
  congr 3
  by_cases h : i / 8 < l.length
  · simp [List.getD, h, List.getElem?_append_left h]
  · simp only [List.getD, List.getElem?_append_right (Nat.le_of_not_lt h), List.getElem?_eq_none (Nat.le_of_not_lt h)]
    cases i / 8 - l.length <;> simp

/-- The bits behind a push. -/
theorem bitAt_push (l : List UInt8) (n : Nat) (b : Bool) (h : l.length = (n + 7) / 8) (hz : bitAt l n = 0) (i : Nat) :
    bitAt (pushBit l n b) i = if i = n then (if b then 1 else 0) else bitAt l i := by
  have hz' : ∀ l', l' = (if n % 8 = 0 then l ++ [0] else l) → bitAt l' n = 0 ∧ n / 8 < l'.length ∧ ∀ i, bitAt l' i = bitAt l i := by
    rintro l' rfl
    split
    · exact ⟨by rw [bitAt_append_zero]; exact hz, by simp; omega, fun i => bitAt_append_zero l i⟩
    · exact ⟨hz, by omega, fun i => rfl⟩
  unfold pushBit
  simp only []
  obtain ⟨h1, h2, h3⟩ := hz' _ rfl
  generalize (if n % 8 = 0 then l ++ [0] else l) = l' at *
  cases b with
  | false =>
    simp only [Bool.false_eq_true, if_false, h3]
    split
    · subst_vars; exact hz
    · rfl
  | true =>
    simp only [if_true, ← h3]
    have hb : (l'.getD (n / 8) 0).toNat < 256 := UInt8.toNat_lt _
    have hlt := byte_add_lt _ (7 - n % 8) hb (by omega) h1
    have hof : (UInt8.ofNat ((l'.getD (n / 8) 0).toNat + 2 ^ (7 - n % 8))).toNat = (l'.getD (n / 8) 0).toNat + 2 ^ (7 - n % 8) := by
      simp only [UInt8.toNat_ofNat']; exact Nat.mod_eq_of_lt hlt
    unfold bitAt at h1 ⊢
    by_cases hi : i / 8 = n / 8
    · have hset : (l'.set (n / 8) (UInt8.ofNat ((l'.getD (n / 8) 0).toNat + 2 ^ (7 - n % 8)))).getD (i / 8) 0 = UInt8.ofNat ((l'.getD (n / 8) 0).toNat + 2 ^ (7 - n % 8)) := by
        simp [List.getD, hi, h2]
      rw [hset, hof]
      split
      · subst_vars; exact bit_add_same _ _ h1
      · rw [bit_add_other _ _ _ h1 (by omega), hi]
    · have hset : (l'.set (n / 8) (UInt8.ofNat ((l'.getD (n / 8) 0).toNat + 2 ^ (7 - n % 8)))).getD (i / 8) 0 = l'.getD (i / 8) 0 := by
        simp [List.getD, List.getElem?_set_ne (Ne.symm hi)]
      rw [hset, if_neg (by rintro rfl; exact hi rfl)]

theorem Rt.push {l : List UInt8} {n : Nat} (h : Rt l n) (b : Bool) : Rt (pushBit l n b) (n + 1) ∧ (∀ i, i < n → bitAt (pushBit l n b) i = bitAt l i) ∧ bitAt (pushBit l n b) n = if b then 1 else 0 := by
  have hz : bitAt l n = 0 := by
    by_cases hn : n < 8 * l.length
    · exact h.2 n (Nat.le_refl _) hn
    · unfold bitAt; simp [List.getD, List.getElem?_eq_none (show l.length ≤ n / 8 by omega)]
  have hp := bitAt_push l n b h.1 hz
  have hl := pushBit_length l n b h.1
  refine ⟨⟨hl, fun i hi hlt => ?_⟩, fun i hi => ?_, ?_⟩
  · rw [hp, if_neg (by omega)]
    by_cases hil : i < 8 * l.length
    · exact h.2 i (by omega) hil
    · unfold bitAt; simp [List.getD, List.getElem?_eq_none (show l.length ≤ i / 8 by omega)]
  · rw [hp, if_neg (by omega)]
  · rw [hp, if_pos rfl]

theorem Rt.putTo {l : List UInt8} {N : Nat} (h : Rt l N) (u n i : Nat) : Rt (putTo l N u n i) (N + i) ∧ (∀ j, j < N → bitAt (Go.Proofs.Ytcnfhabljogniaa.putTo l N u n i) j = bitAt l j) ∧
    ∀ j, j < i → bitAt (Go.Proofs.Ytcnfhabljogniaa.putTo l N u n i) (N + j) = u / 2 ^ (n - 1 - j) % 2 := by
  induction i with
  | zero => exact ⟨h, fun _ _ => rfl, fun j hj => by omega⟩
  | succ i ih =>
    obtain ⟨h1, h2, h3⟩ := ih
    obtain ⟨p1, p2, p3⟩ := h1.push (dig u (n - 1 - i))
    refine ⟨p1, fun j hj => (p2 j (by omega)).trans (h2 j hj), fun j hj => ?_⟩
    by_cases hji : j = i
    · subst hji
      rw [show Go.Proofs.Ytcnfhabljogniaa.putTo l N u n (j + 1) = pushBit (Go.Proofs.Ytcnfhabljogniaa.putTo l N u n j) (N + j) (dig u (n - 1 - j)) from rfl, p3]
      unfold dig
      have := Nat.mod_lt (u / 2 ^ (n - 1 - j)) (show 0 < 2 by decide)
      by_cases hd : u / 2 ^ (n - 1 - j) % 2 = 1
      · simp [hd]
      · simp [hd]; omega
    · exact (p2 (N + j) (by omega)).trans (h3 j (by omega))

theorem putTo_length {l : List UInt8} {N : Nat} (h : Rt l N) (u n i : Nat) : (putTo l N u n i).length = (N + i + 7) / 8 := (h.putTo u n i).1.1

end Go.Proofs.Ytcnfhabljogniaa
