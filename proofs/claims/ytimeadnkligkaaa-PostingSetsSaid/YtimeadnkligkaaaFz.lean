/- Where a number stands, it is read: plain. -/
import Derived.Test.YtimeadnkligkaaaFn
namespace Go.Proofs.Ytimeadnkligkaaa
open Go.RowKit

theorem getD_drop (l : List UInt8) (a i : Nat) : l.getD (a + i) 0 = (l.drop a).getD i 0 := by simp [List.getD, List.getElem?_drop]
/-- where a number stands, it is read -/
theorem getG_put (l : List UInt8) (a : Nat) : ∀ (f k acc m : Nat) (rest : List UInt8), k + f = 8 → l.drop (a + k) = uintF f m ++ rest → m < 128 * 128 ^ f → (0 < k → 0 < m) →
    getG l a (f + 1) k acc = (((acc + m * 128 ^ k : Nat) : Int), ((a + k + (uintF f m).length : Nat) : Int), 0) := by
  intro f
  induction f with
  | zero =>
    intro k acc m rest hk hd hm hpos
    have hm' : m < 128 := by simpa using hm
    have hlt : a + k < l.length := by
      have := congrArg List.length hd
      simp [uintF] at this; omega
    have hb : m = (l.getD (a + k) 0).toNat := by
      have h := getD_drop l (a + k) 0
      rw [hd, Nat.add_zero] at h
      rw [h]
      simp [uintF, List.getD, UInt8.toNat_ofNat']; omega
    rw [getG_end l a 0 k acc m hlt hb (by omega) hm']
    rfl
  | succ f ih =>
    intro k acc m rest hk hd hm hpos
    have hcons : ∃ c t, uintF (f + 1) m = c :: t := by unfold uintF; split <;> exact ⟨_, _, rfl⟩
    obtain ⟨c, t, hc⟩ := hcons
    have hlt : a + k < l.length := by
      have := congrArg List.length hd
      rw [hc] at this
      simp at this; omega
    have hb : c = l.getD (a + k) 0 := by
      have h := getD_drop l (a + k) 0
      rw [hd, Nat.add_zero, hc] at h
      rw [h]
      simp [List.getD]
    by_cases hs : m < 128
    · have e1 : uintF (f + 1) m = [UInt8.ofNat m] := by rw [uintF, if_pos hs]
      rw [e1] at hc
      simp only [List.cons.injEq] at hc
      have hb' : m = (l.getD (a + k) 0).toNat := by rw [← hb, ← hc.1, UInt8.toNat_ofNat']; omega
      rw [getG_end l a (f + 1) k acc m hlt hb' (by omega) hs, e1]
      rfl
    · have e1 : uintF (f + 1) m = UInt8.ofNat (m % 128 + 128) :: uintF f (m / 128) := by rw [uintF, if_neg hs]
      have hc' := hc
      rw [e1] at hc'
      simp only [List.cons.injEq] at hc'
      have hb' : m % 128 + 128 = (l.getD (a + k) 0).toNat := by rw [← hb, ← hc'.1, UInt8.toNat_ofNat']; omega
      have hd' : l.drop (a + (k + 1)) = uintF f (m / 128) ++ rest := by
        have h := congrArg (List.drop 1) hd
        rw [List.drop_drop, e1] at h
        simpa [Nat.add_assoc] using h
      rw [getG_go l a (f + 1) k acc _ hlt hb' (by omega) (by omega), ih (k + 1) _ (m / 128) rest (by omega) hd' (by rw [Nat.pow_succ] at hm; omega) (by omega), e1]
      refine Prod.ext ?_ (Prod.ext ?_ rfl)
      · show ((_ : Nat) : Int) = ((_ : Nat) : Int)
        congr 1
        rw [show (m % 128 + 128) % 128 = m % 128 by omega, Nat.pow_succ]
        have h1 : m * 128 ^ k = (m % 128) * 128 ^ k + (m / 128 * 128) * 128 ^ k := by rw [← Nat.add_mul]; congr 1; omega
        have h2 : m / 128 * (128 ^ k * 128) = (m / 128 * 128) * 128 ^ k := by rw [Nat.mul_comm (128 ^ k) 128, Nat.mul_assoc]
        omega
      · show ((_ : Nat) : Int) = ((_ : Nat) : Int)
        congr 1
        simp; omega
theorem getU_put (b rest : List UInt8) (n : Nat) (hn : n ≤ 9223372036854775807) : getU (b ++ uintL n ++ rest) b.length = ((n : Int), ((b.length + (uintL n).length : Nat) : Int), 0) := by
  unfold getU
  rw [if_neg (by simp; omega), Int.toNat_natCast]
  have h63 : n < 128 * 128 ^ 8 := by
    have : (128 : Nat) * 128 ^ 8 = 9223372036854775808 := by decide
    omega
  have h := getG_put (b ++ uintL n ++ rest) b.length 8 0 0 n rest rfl (by simp [uintL]) h63 (by omega)
  rw [h]
  refine Prod.ext ?_ (Prod.ext ?_ rfl)
  · simp
  · rfl
end Go.Proofs.Ytimeadnkligkaaa
