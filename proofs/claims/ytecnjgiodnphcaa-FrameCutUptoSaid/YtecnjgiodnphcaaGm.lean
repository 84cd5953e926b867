/- Frames one behind the other: plain; a row of rows of bytes that came in. -/
import Derived.Test.YtecnjgiodnphcaaGl
namespace Go.Proofs.Ytecnjgiodnphcaa
open Go.RowKit

/-- the first i frames, one behind the other -/
def catTo (Ls : List (List UInt8)) : Nat → List UInt8
  | 0 => []
  | i + 1 => catTo Ls i ++ frameL (Ls.getD i [])
theorem catTo_length (Ls : List (List UInt8)) (i : Nat) : (catTo Ls (i + 1)).length = (catTo Ls i).length + ((Ls.getD i []).length + 6) := by
  rw [catTo, List.length_append, frameL_length]
theorem catTo_mono (Ls : List (List UInt8)) (i j : Nat) (h : i ≤ j) : (catTo Ls i).length ≤ (catTo Ls j).length := by
  induction j with
  | zero => obtain rfl : i = 0 := by omega
            exact Nat.le_refl _
  | succ j ih =>
    by_cases hj : i = j + 1
    · subst hj; exact Nat.le_refl _
    · have := ih (by omega)
      rw [catTo_length]; omega
/-- what the first i frames are followed by -/
theorem catTo_split (Ls : List (List UInt8)) (i j : Nat) (h : i ≤ j) : ∃ t, catTo Ls j = catTo Ls i ++ t := by
  induction j with
  | zero => obtain rfl : i = 0 := by omega
            exact ⟨[], by simp⟩
  | succ j ih =>
    by_cases hj : i = j + 1
    · subst hj; exact ⟨[], by simp⟩
    · obtain ⟨t, ht⟩ := ih (by omega)
      exact ⟨t ++ frameL (Ls.getD j []), by rw [catTo, ht, List.append_assoc]⟩
def sumLen (Ls : List (List UInt8)) : Nat := (Ls.map List.length).sum
theorem catTo_le (Ls : List (List UInt8)) (i : Nat) (h : i ≤ Ls.length) : (catTo Ls i).length ≤ ((Ls.take i).map List.length).sum + 6 * i := by
  induction i with
  | zero => simp [catTo]
  | succ i ih =>
    have := ih (by omega)
    have e : Ls.getD i [] = Ls[i] := by simp [List.getD, show i < Ls.length by omega]
    rw [catTo_length, List.take_succ_eq_append_getElem (by omega), List.map_append, List.sum_append, e]
    simp only [List.map_cons, List.map_nil, List.sum_cons, List.sum_nil]
    omega
theorem sum_take_le (Ls : List (List UInt8)) (i : Nat) : ((Ls.take i).map List.length).sum ≤ sumLen Ls := by
  unfold sumLen
  conv => rhs; rw [← List.take_append_drop i Ls, List.map_append, List.sum_append]
  omega

/-- a frame that stands whole is told -/
theorem cut_whole (Ls : List (List UInt8)) (n k j : Nat) (hj : j < n) (hk : (catTo Ls (j + 1)).length ≤ k) (hx : (Ls.getD j []).length ≤ 65535) :
    getF ((catTo Ls n).take k) ((catTo Ls j).length : Nat) = (Ls.getD j [], (((catTo Ls (j + 1)).length : Nat) : Int), (0 : Int)) := by
  obtain ⟨t, ht⟩ := catTo_split Ls (j + 1) n (by omega)
  have e : (catTo Ls n).take k = catTo Ls j ++ frameL (Ls.getD j []) ++ t.take (k - (catTo Ls (j + 1)).length) := by
    rw [ht, List.take_append, List.take_of_length_le hk]
    rfl
  rw [e]
  exact getF_put (catTo Ls j) (Ls.getD j []) _ hx
/-- a frame that is cut off, or none, is not -/
theorem cut_off (Ls : List (List UInt8)) (n k j : Nat) (hj : j ≤ n) (hk : (catTo Ls j).length ≤ k) (hkn : k ≤ (catTo Ls n).length) (hlt : j < n → k < (catTo Ls (j + 1)).length) (hx : (Ls.getD j []).length ≤ 65535) :
    (getF ((catTo Ls n).take k) ((catTo Ls j).length : Nat)).2.2 ≠ 0 := by
  have hl : ((catTo Ls n).take k).length = k := by simp; omega
  by_cases hn : j = n
  · subst hn
    have hk' : k = (catTo Ls j).length := by omega
    unfold getF
    rw [if_neg (by omega), Int.toNat_natCast, if_pos (by omega)]
    decide
  · have hlt' := hlt (by omega)
    rw [catTo_length] at hlt'
    by_cases h6 : k < (catTo Ls j).length + 6
    · unfold getF
      rw [if_neg (by omega), Int.toNat_natCast, if_pos (by omega)]
      decide
    · obtain ⟨t, ht⟩ := catTo_split Ls (j + 1) n (by omega)
      have hd : ∀ i, i < 2 → ((catTo Ls n).take k).getD ((catTo Ls j).length + i) 0 = (hd2 (Ls.getD j []).length).getD i 0 := by
        intro i hi
        have e : catTo Ls n = catTo Ls j ++ (hd2 (Ls.getD j []).length ++ (Ls.getD j [] ++ le4 (sumL (hd2 (Ls.getD j []).length ++ Ls.getD j [])) ++ t)) := by
          rw [ht, catTo, frameL]; simp [List.append_assoc]
        rw [e]
        simp only [List.getD]
        rw [List.getElem?_take, if_pos (by omega), List.getElem?_append_right (by omega), Nat.add_sub_cancel_left, List.getElem?_append_left (by simpa [hd2] using hi)]
      have hf : frN ((catTo Ls n).take k) (catTo Ls j).length = (Ls.getD j []).length := by
        unfold frN
        have h0 := hd 0 (by omega)
        have h1 := hd 1 (by omega)
        rw [Nat.add_zero] at h0
        rw [h0, h1]
        generalize (Ls.getD j []).length = q at *
        simp only [hd2, List.getD, List.getElem?_cons_zero, List.getElem?_cons_succ, Option.getD_some, UInt8.toNat_ofNat']
        omega
      unfold getF
      rw [if_neg (by omega), Int.toNat_natCast, if_neg (by omega), hf, if_pos (by omega)]
      decide
/-- THE PLAIN LAW: of frames that are cut off anywhere those that are whole are told. -/
theorem cut_all (Ls : List (List UInt8)) (n k m : Nat) (hm : m ≤ n) (hn : n ≤ Ls.length) (hk : (catTo Ls m).length ≤ k) (hkn : k ≤ (catTo Ls n).length) (hlt : m < n → k < (catTo Ls (m + 1)).length) (hx : ∀ j, (Ls.getD j []).length ≤ 65535) :
    allL ((catTo Ls n).take k) = (Ls.take m, (catTo Ls m).length) := by
  have hl : ((catTo Ls n).take k).length = k := by simp; omega
  have hm6 : ∀ i, i ≤ (catTo Ls i).length := by
    intro i
    induction i with
    | zero => exact Nat.zero_le _
    | succ i ih => rw [catTo_length]; omega
  have h : ∀ d j f, j + d = m → d < f → allF ((catTo Ls n).take k) f (catTo Ls j).length = ((Ls.drop j).take d, (catTo Ls m).length) := by
    intro d
    induction d with
    | zero =>
      intro j f hj hf
      obtain rfl : j = m := by omega
      obtain ⟨f, rfl⟩ : ∃ g, f = g + 1 := ⟨f - 1, by omega⟩
      rw [allF, if_neg (cut_off Ls n k j hm hk hkn hlt (hx j))]
      simp
    | succ d ih =>
      intro j f hj hf
      obtain ⟨f, rfl⟩ : ∃ g, f = g + 1 := ⟨f - 1, by omega⟩
      have h1 := catTo_mono Ls (j + 1) m (by omega)
      have hg := cut_whole Ls n k j (by omega) (by omega) (hx j)
      rw [allF, hg]
      simp only [if_true, Int.toNat_natCast]
      rw [ih (j + 1) f (by omega) (by omega)]
      have hjl : j < Ls.length := by omega
      rw [List.drop_eq_getElem_cons hjl, List.take_succ_cons]
      simp [hjl]
  have := h m 0 (((catTo Ls n).take k).length + 1) (by omega) (by rw [hl]; have := hm6 m; omega)
  simpa [allL, catTo] using this

/-- a slice of slices of bytes that came in -/
def RdRows (w : World) (v : Value) (Ls : List (List UInt8)) : Prop :=
  ∃ ao c, v = .slice ao Ls.length c ∧ Ls.length ≤ c ∧ ∀ i, i < Ls.length → ∃ b off ai ci, ao = some ⟨b, off, none⟩ ∧ b < w.heap.size ∧ w.cell? ⟨b, off + i, none⟩ = some (.slice ai (Ls.getD i []).length ci) ∧ Sl w 1 (.slice ai (Ls.getD i []).length ci) (Ls.getD i []).length (bc (Ls.getD i []))
end Go.Proofs.Ytecnjgiodnphcaa
