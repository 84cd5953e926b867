/- Plain laws of chunks: what is laid down is read, what is read is laid down. -/
import Derived.Test.YtcnfhabljogniaaDb
namespace Go.Proofs.Ytcnfhabljogniaa
open Go.RowKit
set_option linter.unusedSimpArgs false

theorem bitLen_lt (u : Nat) (hu : u < 18446744073709551616) : u < 2 ^ Lib.bitLen u := by
  have h : ∀ f x, x < 2 ^ f → x < 2 ^ Lib.bitLenAux f x := by
    intro f
    induction f with
    | zero => intro x hx; simpa [Lib.bitLenAux] using hx
    | succ f ih =>
      intro x hx
      unfold Lib.bitLenAux
      split
      · rename_i h0; rw [h0]; decide
      · have := ih (x / 2) (by rw [Nat.pow_succ] at hx; omega)
        rw [Nat.add_comm, Nat.pow_succ]; omega
  exact h 64 u hu
theorem half_step (u d : Nat) : 2 * (u / 2 ^ (d + 1)) + u / 2 ^ d % 2 = u / 2 ^ d := by
  rw [Nat.pow_succ, ← Nat.div_div_eq_div_mul]; omega
/-- n bits of a number, read -/
theorem getN_of_bits (L : List UInt8) (a n u : Nat) (hu : u < 2 ^ n) (h : ∀ j, j < n → bitAt L (a + j) = u / 2 ^ (n - 1 - j) % 2) : getN L a n = u := by
  have hk : ∀ k, k ≤ n → getN L a k = u / 2 ^ (n - k) := by
    intro k
    induction k with
    | zero => intro _; rw [Nat.sub_zero, Nat.div_eq_of_lt hu]; rfl
    | succ k ih =>
      intro hk
      rw [getN, ih (by omega), h k (by omega), show n - k = (n - 1 - k) + 1 by omega, half_step, show n - (k + 1) = n - 1 - k by omega]
  have := hk n (Nat.le_refl _)
  simpa using this
/-- what was read, bit by bit -/
theorem getN_bit (L : List UInt8) (a n j : Nat) (hj : j < n) : bitAt L (a + j) = getN L a n / 2 ^ (n - 1 - j) % 2 := by
  induction n with
  | zero => omega
  | succ n ih =>
    have hb := bitAt_lt L (a + n)
    rw [getN]
    by_cases h : j = n
    · subst h
      rw [show j + 1 - 1 - j = 0 by omega, Nat.pow_zero, Nat.div_one]; omega
    · rw [ih (by omega), show n + 1 - 1 - j = (n - 1 - j) + 1 by omega, Nat.pow_succ, Nat.mul_comm (2 ^ _) 2, ← Nat.div_div_eq_div_mul, show (2 * getN L a n + bitAt L (a + n)) / 2 = getN L a n by omega]
theorem getN_one (L : List UInt8) (a : Nat) : getN L a 1 = bitAt L a := by rw [getN, getN]; simp
theorem getN_putN {L : List UInt8} {m : Nat} (h : Rt L m) (u n : Nat) (hu : u < 2 ^ n) : getN (putN L m u n) m n = u :=
  getN_of_bits _ _ _ _ hu (fun j hj => (h.putTo u n n).2.2 j hj)
theorem bitAt_putN {L : List UInt8} {m : Nat} (h : Rt L m) (u n j : Nat) (hj : j < m) : bitAt (putN L m u n) j = bitAt L j := (h.putTo u n n).2.1 j hj
theorem getV_in {L : List UInt8} {N : Nat} (h : Rt L N) (a n : Nat) (hn : n ≤ 64) (ha : a + n ≤ N) : getV L N a n = (getN L a n, 0) := by
  unfold getV
  rw [if_neg (by rw [Rt_rightB h]; simp; omega), if_neg (by omega)]
  simp

theorem Rt_nil : Rt [] 0 := ⟨rfl, fun i _ h => by simp at h⟩
/-- the bits of a number that says how long it is -/
theorem numL_bits {L : List UInt8} {N : Nat} (h : Rt L N) (u : Nat) :
    (∀ j, j < N → bitAt (numL L N u) j = bitAt L j) ∧ (∀ j, j < 7 → bitAt (numL L N u) (N + j) = Lib.bitLen u / 2 ^ (6 - j) % 2) ∧
    (∀ j, j < Lib.bitLen u → bitAt (numL L N u) (N + 7 + j) = u / 2 ^ (Lib.bitLen u - 1 - j) % 2) := by
  have h1 := h.putTo (Lib.bitLen u) 7 7
  have h2 := h1.1.putTo u (Lib.bitLen u) (Lib.bitLen u)
  refine ⟨fun j hj => (h2.2.1 j (by omega)).trans (h1.2.1 j hj), fun j hj => ?_, h2.2.2⟩
  refine (h2.2.1 (N + j) (by omega)).trans ?_
  rw [h1.2.2 j hj, show 7 - 1 - j = 6 - j by omega]
/-- what was read as a number has just the bits that are laid down for it -/
theorem one_bits (L : List UInt8) (a u : Nat) (h1 : getN L a 7 = Lib.bitLen u) (h2 : getN L (a + 7) (Lib.bitLen u) = u) (j : Nat) (hj : j < 7 + Lib.bitLen u) :
    bitAt (numL [] 0 u) j = bitAt L (a + j) := by
  have hb := numL_bits Rt_nil u
  by_cases h : j < 7
  · have := hb.2.1 j h
    rw [Nat.zero_add] at this
    rw [this, getN_bit L a 7 j h, h1]
  · obtain ⟨i, rfl⟩ : ∃ i, j = 7 + i := ⟨j - 7, by omega⟩
    have := hb.2.2 i (by omega)
    rw [Nat.zero_add] at this
    rw [this, ← Nat.add_assoc, getN_bit L (a + 7) (Lib.bitLen u) i (by omega), h2]


theorem Rt_full (F : List UInt8) : Rt F (8 * F.length) := ⟨by omega, fun i h1 h2 => by omega⟩
/-- F begins with the bits x -/
def Agr (F : List UInt8) (x : List UInt8 × Nat) : Prop := Rt x.1 x.2 ∧ x.2 ≤ 8 * F.length ∧ ∀ j, j < x.2 → bitAt F j = bitAt x.1 j
theorem Agr.back {F : List UInt8} {x : List UInt8 × Nat} {u : Nat} (hR : Rt x.1 x.2) (h : Agr F (pushNum x u)) (hu : u < 18446744073709551616) : rdU F x.2 = some ((u : Int), (pushNum x u).2) ∧ Agr F x := by
  have hb := numL_bits hR u
  have hF := Rt_full F
  obtain ⟨_, hle, hm⟩ := h
  have hn : (pushNum x u).2 = x.2 + 7 + Lib.bitLen u := rfl
  have h1 : (pushNum x u).1 = numL x.1 x.2 u := rfl
  rw [h1] at hm
  have h64 := bitLen_le64 u
  have h7 := bitLen_lt u hu
  generalize (pushNum x u).2 = M at *
  refine ⟨?_, hR, by omega, fun j hj => (hm j (by omega)).trans (hb.1 j hj)⟩
  have g1 : getV F ((8 * F.length : Nat) : Int) (x.2 : Nat) 7 = (Lib.bitLen u, 0) := by
    have := getV_in hF x.2 7 (by omega) (by omega)
    rw [getN_of_bits F x.2 7 (Lib.bitLen u) (by have : (2 : Nat) ^ 7 = 128 := by decide
                                                omega) (fun t ht => by rw [hm _ (by omega), hb.2.1 t ht, show 7 - 1 - t = 6 - t by omega])] at this
    exact this
  have g2 : getV F ((8 * F.length : Nat) : Int) ((x.2 : Int) + 7) (Lib.bitLen u : Nat) = (u, 0) := by
    have := getV_in hF (x.2 + 7) (Lib.bitLen u) h64 (by omega)
    rw [getN_of_bits F (x.2 + 7) (Lib.bitLen u) u h7 (fun t ht => by rw [hm _ (by omega), hb.2.2 t ht])] at this
    rw [show ((x.2 + 7 : Nat) : Int) = (x.2 : Int) + 7 by omega] at this
    exact this
  have g3 : getNumV F ((8 * F.length : Nat) : Int) (x.2 : Int) = (u, (M : Int), 0) := by
    unfold getNumV
    rw [g1]
    simp only [ne_eq, not_true_eq_false, if_false]
    rw [if_neg (by omega), g2]
    simp only [ne_eq, not_true_eq_false, if_false]
    refine Prod.ext rfl (Prod.ext ?_ rfl)
    show (x.2 : Int) + 7 + (Lib.bitLen u : Nat) = (M : Nat)
    omega
  unfold rdU
  rw [g3]
  simp
theorem Agr.read {F : List UInt8} {x : List UInt8 × Nat} {u : Int} {b : Nat} (h : Agr F x) (hr : rdU F x.2 = some (u, b)) : Agr F (pushNum x u.toNat) ∧ (pushNum x u.toNat).2 = b := by
  obtain ⟨hu0, hu1, hb8, hg⟩ := rdU_ok hr
  have hok : (getNumV F ((8 * F.length : Nat) : Int) (x.2 : Int)).2.2 = 0 := by rw [hg]
  obtain ⟨hR, hle, hm⟩ := h
  unfold getNumV at hok hg
  by_cases h1 : (getV F ((8 * F.length : Nat) : Int) (x.2 : Int) 7).2 ≠ 0
  · rw [if_pos h1] at hok; exact absurd hok h1
  rw [if_neg h1] at hok hg
  by_cases h2 : 64 < (getV F ((8 * F.length : Nat) : Int) (x.2 : Int) 7).1
  · rw [if_pos h2] at hok; exact absurd hok (by simp)
  rw [if_neg h2] at hok hg
  by_cases h3 : (getV F ((8 * F.length : Nat) : Int) ((x.2 : Int) + 7) (getV F ((8 * F.length : Nat) : Int) (x.2 : Int) 7).1).2 ≠ 0
  · rw [if_pos h3] at hok; exact absurd hok h3
  rw [if_neg h3] at hok hg
  by_cases h4 : Lib.bitLen (getV F ((8 * F.length : Nat) : Int) ((x.2 : Int) + 7) (getV F ((8 * F.length : Nat) : Int) (x.2 : Int) 7).1).1 ≠ (getV F ((8 * F.length : Nat) : Int) (x.2 : Int) 7).1
  · rw [if_pos h4] at hok; exact absurd hok (by simp)
  rw [if_neg h4] at hg
  have h1' : (getV F ((8 * F.length : Nat) : Int) (x.2 : Int) 7).2 = 0 := by simpa using h1
  have h3' := Decidable.not_not.1 h3
  have h4' := Decidable.not_not.1 h4
  have g1 := getV_ok h1'
  have g2 := getV_ok h3'
  have q1 := g1.2.2.2.2.2
  have q2 := g2.2.2.2.2.2
  have q3 := g2.2.2.2.2.1
  simp only [Prod.mk.injEq, and_true] at hg
  obtain ⟨hg1, hg2⟩ := hg
  generalize (getV F ((8 * F.length : Nat) : Int) (x.2 : Int) 7).1 = n at *
  rw [hg1] at h4' q2
  have e1 : ((x.2 : Int) + 7).toNat = x.2 + 7 := by omega
  rw [e1, Int.toNat_natCast] at q2
  rw [Int.toNat_natCast] at q1
  have hn2 : (pushNum x u.toNat).2 = b := by
    show x.2 + 7 + Lib.bitLen u.toNat = b
    omega
  refine ⟨⟨Rt_push hR _, by omega, fun j hj => ?_⟩, hn2⟩
  have hb := numL_bits hR u.toNat
  show bitAt F j = bitAt (numL x.1 x.2 u.toNat) j
  by_cases hj1 : j < x.2
  · rw [hb.1 j hj1]; exact hm j hj1
  · by_cases hj2 : j < x.2 + 7
    · obtain ⟨i, rfl⟩ : ∃ i, j = x.2 + i := ⟨j - x.2, by omega⟩
      rw [hb.2.1 i (by omega), h4', q1]
      exact getN_bit F x.2 7 i (by omega)
    · obtain ⟨i, rfl⟩ : ∃ i, j = x.2 + 7 + i := ⟨j - x.2 - 7, by omega⟩
      have hi : i < Lib.bitLen u.toNat := by have : (pushNum x u.toNat).2 = x.2 + 7 + Lib.bitLen u.toNat := rfl; omega
      rw [hb.2.2 i hi]
      have := getN_bit F (x.2 + 7) n i (by omega)
      rw [← q2] at this
      rw [h4']
      exact this

theorem Agr.begins {F : List UInt8} (ns : List Nat) (hns : ∀ n ∈ ns, n < 18446744073709551616) : ∀ x, Rt x.1 x.2 → Agr F (pushAll x ns) → Agr F x := by
  induction ns with
  | nil => intro x _ h; exact h
  | cons a t ih =>
    intro x hR h
    have h1 := ih (fun n hn => hns n (List.mem_cons_of_mem _ hn)) (pushNum x a) (Rt_push hR a) h
    exact (h1.back hR (hns a (List.mem_cons_self ..))).2
theorem pushAll_Rt' (ns : List Nat) : ∀ x : List UInt8 × Nat, Rt x.1 x.2 → Rt (pushAll x ns).1 (pushAll x ns).2 := by
  induction ns with
  | nil => intro x h; exact h
  | cons a t ih => intro x h; exact ih _ (Rt_push h a)

/-! ### bytes by their bits -/
theorem byte_bits : ∀ z : Fin 256, z.val = (z.val / 128 % 2) * 128 + (z.val / 64 % 2) * 64 + (z.val / 32 % 2) * 32 + (z.val / 16 % 2) * 16 + (z.val / 8 % 2) * 8 + (z.val / 4 % 2) * 4 + (z.val / 2 % 2) * 2 + z.val % 2 := by decide +kernel
theorem ext_bits {A B : List UInt8} (hl : A.length = B.length) (h : ∀ j, j < 8 * A.length → bitAt A j = bitAt B j) : A = B := by
  refine List.ext_getElem hl fun i h1 h2 => ?_
  have hb : ∀ r, r < 8 → (A[i]).toNat / 2 ^ (7 - r) % 2 = (B[i]).toNat / 2 ^ (7 - r) % 2 := by
    intro r hr
    have := h (8 * i + r) (by omega)
    unfold bitAt at this
    rw [show (8 * i + r) / 8 = i by omega, show (8 * i + r) % 8 = r by omega] at this
    simpa [List.getD, h1, h2] using this
  have e1 := byte_bits ⟨(A[i]).toNat, UInt8.toNat_lt _⟩
  have e2 := byte_bits ⟨(B[i]).toNat, UInt8.toNat_lt _⟩
  simp only at e1 e2
  have b0 := hb 0 (by omega); have b1 := hb 1 (by omega); have b2 := hb 2 (by omega); have b3 := hb 3 (by omega)
  have b4 := hb 4 (by omega); have b5 := hb 5 (by omega); have b6 := hb 6 (by omega); have b7 := hb 7 (by omega)
  simp only [Nat.sub_zero, Nat.reduceSub, Nat.reducePow, Nat.sub_self, Nat.pow_zero, Nat.div_one] at b0 b1 b2 b3 b4 b5 b6 b7
  apply UInt8.toNat_inj.1
  omega
theorem low_bits : ∀ m : Fin 8, ∀ z : Fin 256, z.val * 2 ^ m.val % 256 = 0 → ∀ j : Fin 8, m.val ≤ j.val → z.val / 2 ^ (7 - j.val) % 2 = 0 := by decide +kernel
/-- the end of a chunk -/
theorem endBad_false {F : List UInt8} {a : Nat} (ha : a ≤ 8 * F.length) : endBad F a = false ↔ 8 * F.length - a ≤ 7 ∧ ∀ j, a ≤ j → j < 8 * F.length → bitAt F j = 0 := by
  unfold endBad
  by_cases h7 : 7 < 8 * F.length - a
  · rw [decide_eq_true h7]; simp; intro h; omega
  · rw [decide_eq_false h7, Bool.false_or]
    by_cases h0 : 0 < 8 * F.length - a
    · rw [decide_eq_true h0, Bool.true_and]
      have hz := UInt8.toNat_lt (F.getD (F.length - 1) 0)
      have hm : 8 - (8 * F.length - a) < 8 := by omega
      constructor
      · intro h
        refine ⟨by omega, fun j hj1 hj2 => ?_⟩
        have h1 : (F.getD (F.length - 1) 0).toNat * 2 ^ (8 - (8 * F.length - a)) % 256 = 0 := Decidable.not_not.1 (of_decide_eq_false h)
        have := low_bits ⟨_, hm⟩ ⟨_, hz⟩ h1 ⟨j % 8, Nat.mod_lt _ (by decide)⟩ (by simp only; omega)
        unfold bitAt
        rw [show j / 8 = F.length - 1 by omega]
        exact this
      · rintro ⟨_, h⟩
        refine decide_eq_false (Decidable.not_not.2 ?_)
        refine last_bits ⟨_, hm⟩ ⟨_, hz⟩ fun j hj => ?_
        have := h (8 * (F.length - 1) + j.val) (by simp only at hj; omega) (by omega)
        unfold bitAt at this
        rw [show (8 * (F.length - 1) + j.val) / 8 = F.length - 1 by omega, show (8 * (F.length - 1) + j.val) % 8 = j.val by omega] at this
        exact this
    · rw [decide_eq_false h0]
      simp only [Bool.false_and, true_iff]
      exact ⟨by omega, fun j h1 h2 => by omega⟩
end Go.Proofs.Ytcnfhabljogniaa
