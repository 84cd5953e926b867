/- The three sets and their references are one: plain. -/
import Derived.Test.YtimeadnkligkaaaPt
namespace Go.Proofs.Ytimeadnkligkaaa
open Go.RowKit

theorem along_bad (kp : Bool → Bool → Bool) (a b : List Int) (h : refV a b ≠ 0) : alongV kp a b = ([], refV a b) := by
  unfold alongV refV at *
  by_cases hca : chkL a = 0
  · rw [if_neg (by simp [hca])] at h ⊢
    rw [if_pos h, if_neg (by simp [hca])]
  · rw [if_pos hca, if_pos hca]
theorem ref_ok {a b : List Int} (h : refV a b = 0) : chkL a = 0 ∧ chkL b = 0 := by
  unfold refV at h
  by_cases hca : chkL a = 0
  · rw [if_neg (by simp [hca])] at h; exact ⟨hca, h⟩
  · rw [if_pos hca] at h; exact absurd h hca
theorem along_good (kp : Bool → Bool → Bool) (a b : List Int) (h : refV a b = 0) : alongV kp a b = if 1024 < (mergeL kp a b).length then ([], 3) else (mergeL kp a b, 0) := by
  obtain ⟨h1, h2⟩ := ref_ok h
  unfold alongV
  rw [if_neg (by simp [h1]), if_neg (by simp [h2])]
theorem both_ref (a b : List Int) : bothV a b = refBW a b true := by
  unfold bothV refBW
  by_cases h : refV a b = 0
  · obtain ⟨h1, h2⟩ := ref_ok h
    have e : mergeL (fun p q => p && q) a b = pickV a b true := by
      rw [show mergeL (fun p q => p && q) a b = _ from mrg_both _ a b (Nat.le_refl _) (chkL_ok h1).2.1 (chkL_ok h2).2.1]
      unfold pickV
      exact List.filter_congr fun x _ => by simp
    have hl : (pickV a b true).length ≤ 1024 := Nat.le_trans (List.length_filter_le _ _) (chkL_ok h1).1
    rw [along_good _ a b h, e, if_neg (by omega), if_neg (by simp [h])]
  · rw [along_bad _ a b h, if_pos h]
theorem without_ref (a b : List Int) : withoutV a b = refBW a b false := by
  unfold withoutV refBW
  by_cases h : refV a b = 0
  · obtain ⟨h1, h2⟩ := ref_ok h
    have e : mergeL (fun p q => p && !q) a b = pickV a b false := by
      rw [show mergeL (fun p q => p && !q) a b = _ from mrg_without _ a b (Nat.le_refl _) (chkL_ok h1).2.1 (chkL_ok h2).2.1]
      unfold pickV
      exact List.filter_congr fun x _ => by cases decide (x ∈ b) <;> rfl
    have hl : (pickV a b false).length ≤ 1024 := Nat.le_trans (List.length_filter_le _ _) (chkL_ok h1).1
    rw [along_good _ a b h, e, if_neg (by omega), if_neg (by simp [h])]
  · rw [along_bad _ a b h, if_pos h]
theorem either_ref (a b : List Int) : eitherV a b = refEV a b := by
  unfold eitherV refEV
  by_cases h : refV a b = 0
  · obtain ⟨h1, h2⟩ := ref_ok h
    have e : mergeL (fun p q => p || q) a b = eithL a (pickV b a false) := by
      rw [show mergeL (fun p q => p || q) a b = _ from mrg_either _ a b (Nat.le_refl _) (chkL_ok h1).2.1 (chkL_ok h2).2.1]
      unfold pickV
      congr 1
      exact List.filter_congr fun x _ => by cases decide (x ∈ a) <;> rfl
    rw [along_good _ a b h, e, if_neg (show ¬ refV a b ≠ 0 by simp [h])]
  · rw [along_bad _ a b h, if_pos h]
end Go.Proofs.Ytimeadnkligkaaa
