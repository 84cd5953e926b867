/- What is read as a number is what is laid down for it; the walk of FrameOne. -/
import Derived.Test.YtimeadnkligkaaaFj
import Derived.Deep.RegionHeld3
namespace Go.Proofs.Ytimeadnkligkaaa
open Go.RowKit

theorem getG_fail (l : List UInt8) (a f k acc : Nat) : (getG l a f k acc).2.2 ≠ 0 → (getG l a f k acc).1 = 0 ∧ (getG l a f k acc).2.1 = 0 := by
  induction f generalizing k acc with
  | zero => intro _; simp [getG]
  | succ f ih =>
    unfold getG
    split
    · intro _; exact ⟨rfl, rfl⟩
    · split
      · intro _; exact ⟨rfl, rfl⟩
      · split
        · intro h; exact absurd rfl h
        · exact ih _ _

theorem getG_back (l : List UInt8) (a : Nat) : ∀ (f k acc : Nat), k + f = 8 → (getG l a (f + 1) k acc).2.2 = 0 →
    ∃ m j : Nat, (getG l a (f + 1) k acc).1 = ((acc + m * 128 ^ k : Nat) : Int) ∧ (getG l a (f + 1) k acc).2.1 = ((a + k + j : Nat) : Int) ∧ a + k + j ≤ l.length ∧ uintF f m = (l.drop (a + k)).take j ∧ (0 < k → 0 < m) ∧ m < 128 * 128 ^ f := by
  intro f
  induction f with
  | zero =>
    intro k acc hk h
    by_cases hlt : a + k < l.length
    · obtain ⟨d, hd⟩ : ∃ d, d = (l.getD (a + k) 0).toNat := ⟨_, rfl⟩
      by_cases hb : (k = 8 ∧ 127 < d) ∨ (0 < k ∧ d = 0)
      · rw [getG_bad l a 0 k acc d hlt hd hb] at h; exact absurd h (by decide)
      · have hs : d < 128 := by omega
        rw [getG_end l a 0 k acc d hlt hd hb hs]
        refine ⟨d, 1, rfl, rfl, by omega, ?_, by omega, by omega⟩
        have e : l.getD (a + k) 0 = l[a + k] := by simp [hlt]
        rw [List.drop_eq_getElem_cons hlt, List.take_succ_cons, List.take_zero, ← e, uintF, hd, UInt8.ofNat_toNat]
    · rw [getG_short l a 0 k acc hlt] at h; exact absurd h (by decide)
  | succ f ih =>
    intro k acc hk h
    by_cases hlt : a + k < l.length
    · obtain ⟨d, hd⟩ : ∃ d, d = (l.getD (a + k) 0).toNat := ⟨_, rfl⟩
      have e : l.getD (a + k) 0 = l[a + k] := by simp [hlt]
      by_cases hb : (k = 8 ∧ 127 < d) ∨ (0 < k ∧ d = 0)
      · rw [getG_bad l a (f + 1) k acc d hlt hd hb] at h; exact absurd h (by decide)
      · by_cases hs : d < 128
        · rw [getG_end l a (f + 1) k acc d hlt hd hb hs]
          refine ⟨d, 1, rfl, rfl, by omega, ?_, by omega, ?_⟩
          · rw [List.drop_eq_getElem_cons hlt, List.take_succ_cons, List.take_zero, ← e, uintF, if_pos hs, hd, UInt8.ofNat_toNat]
          · have : 0 < 128 ^ (f + 1) := Nat.pow_pos (by decide)
            omega
        · rw [getG_go l a (f + 1) k acc d hlt hd hb hs] at h ⊢
          obtain ⟨m, j, h1, h2, h3, h4, h5, h6⟩ := ih (k + 1) _ (by omega) h
          have hm := h5 (by omega)
          have hd256 : d < 256 := by rw [hd]; exact (l.getD (a + k) 0).toNat_lt
          refine ⟨d % 128 + 128 * m, j + 1, ?_, ?_, by omega, ?_, by omega, ?_⟩
          · rw [h1]
            congr 1
            rw [Nat.pow_succ, Nat.add_mul]
            have : m * (128 ^ k * 128) = 128 * m * 128 ^ k := by
              rw [Nat.mul_comm (128 ^ k) 128, ← Nat.mul_assoc, Nat.mul_comm m 128]
            omega
          · rw [h2]; congr 1; omega
          · rw [List.drop_eq_getElem_cons hlt, List.take_succ_cons, ← e, uintF, if_neg (by omega)]
            rw [show (d % 128 + 128 * m) % 128 + 128 = d by omega, show (d % 128 + 128 * m) / 128 = m by omega, h4, hd, UInt8.ofNat_toNat, show a + (k + 1) = a + k + 1 by omega]
          · rw [Nat.pow_succ]; omega
    · rw [getG_short l a (f + 1) k acc hlt] at h; exact absurd h (by decide)

theorem getU_zero (l : List UInt8) : getU l 0 = getG l 0 9 0 0 := by unfold getU; rw [if_neg (by omega)]; rfl
/-- what is read at the front is what is laid down for it -/
theorem getU_back (l : List UInt8) (h : (getU l 0).2.2 = 0) : ∃ m j : Nat, getU l 0 = ((m : Int), (j : Int), 0) ∧ j ≤ l.length ∧ uintL m = l.take j ∧ m ≤ 9223372036854775807 := by
  rw [getU_zero] at h ⊢
  obtain ⟨m, j, h1, h2, h3, h4, _, h6⟩ := getG_back l 0 8 0 0 rfl h
  refine ⟨m, j, ?_, by omega, by simpa [uintL] using h4, ?_⟩
  · refine Prod.ext ?_ (Prod.ext ?_ h)
    · rw [h1]; simp
    · rw [h2]; simp
  · have : (128 : Nat) * 128 ^ 8 = 9223372036854775808 := by decide
    omega
theorem getU_fail (l : List UInt8) (h : (getU l 0).2.2 ≠ 0) : ∃ e : Int, getU l 0 = (0, 0, e) ∧ e ≠ 0 := by
  rw [getU_zero] at h ⊢
  have := getG_fail l 0 9 0 0 h
  exact ⟨_, Prod.ext this.1 (Prod.ext this.2 rfl), h⟩

end Go.Proofs.Ytimeadnkligkaaa
