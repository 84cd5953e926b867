/- increase, delta, the mean, rate: plain laws; of's contracts. -/
import Derived.Test.YtebjdiiogihcdaaWr
import Derived.Test.YtebjdiiogihcdaaWt
namespace Go.Proofs.Ytebjdiiogihcdaa
open Go.RowKit
set_option linter.unusedSimpArgs false

theorem toldV_fit {n : Int} (h : fitB n = true) : toldV n = (n, 0) := by unfold toldV; rw [if_pos h]
theorem toldV_no {n : Int} (h : ¬ fitB n = true) : toldV n = (0, 11) := by unfold toldV; rw [if_neg h]
theorem rise_fit {l : List (Int × Int)} (h : chkA none l = 0) (k : Nat) (hk : k < l.length) : fitB (l.getD k (0, 0)).2 = true := by
  have := rise_at h k hk
  exact fitB_iff.2 ⟨by omega, by omega⟩
/-- do values fall? -/
def fallTo (l : List (Int × Int)) : Nat → Bool
  | 0 => false
  | k + 1 => fallTo l k || decide ((l.getD (k + 1) (0, 0)).2 < (l.getD k (0, 0)).2)
theorem fall_no {l : List (Int × Int)} {n : Nat} (h : fallTo l n = false) : ∀ k, k < n → (l.getD k (0, 0)).2 ≤ (l.getD (k + 1) (0, 0)).2 := by
  induction n with
  | zero => intro k hk; omega
  | succ n ih =>
    rw [fallTo, Bool.or_eq_false_iff] at h
    intro k hk
    by_cases e : k = n
    · subst e; have := of_decide_eq_false h.2; omega
    · exact ih h.1 k (by omega)
theorem fall_le {l : List (Int × Int)} {n : Nat} (h : fallTo l n = false) : ∀ k, k ≤ n → (l.getD 0 (0, 0)).2 ≤ (l.getD k (0, 0)).2 := by
  intro k hk
  induction k with
  | zero => exact Int.le_refl _
  | succ k ih => exact Int.le_trans (ih (by omega)) (fall_no h k (by omega))
theorem incTo {l : List (Int × Int)} (hc : chkA none l = 0) (n : Nat) (hn : n < l.length) (h : fallTo l n = false) : foldTo riseV l 0 n = toldV ((l.getD n (0, 0)).2 - (l.getD 0 (0, 0)).2) := by
  induction n with
  | zero => rw [foldTo, Int.sub_self]; rfl
  | succ n ih =>
    have h0 := h
    rw [fallTo, Bool.or_eq_false_iff] at h
    have e := ih (by omega) h.1
    have hle := fall_no h0 n (by omega)
    have hl0 := fall_le h0 n (by omega)
    have b0 := rise_at hc 0 (by omega)
    have b1 := rise_at hc n (by omega)
    have b2 := rise_at hc (n + 1) hn
    have f1 := rise_fit hc n (by omega)
    have f2 := rise_fit hc (n + 1) hn
    rw [foldTo, e]
    generalize (l.getD n (0, 0)).2 = v1 at *
    generalize (l.getD (n + 1) (0, 0)).2 = v2 at *
    generalize (l.getD 0 (0, 0)).2 = v0 at *
    by_cases hf : fitB (v1 - v0) = true
    · rw [toldV_fit hf, if_neg (by simp)]
      have e2 : subV v2 v1 = toldV (v2 - v1) := by unfold subV; rw [if_pos ⟨f2, f1⟩]
      by_cases hg : fitB (v2 - v1) = true
      · have e3 : riseV (v1 - v0) v2 v1 = toldV (v2 - v0) := by
          unfold riseV
          rw [if_pos hle, e2, toldV_fit hg, if_neg (by simp)]
          unfold addV
          rw [if_pos ⟨hf, hg⟩, show v1 - v0 + (v2 - v1) = v2 - v0 by omega]
        rw [e3]
        by_cases hh : fitB (v2 - v0) = true
        · rw [toldV_fit hh, if_neg (by simp)]
        · rw [toldV_no hh, if_pos (by simp)]
      · have e3 : riseV (v1 - v0) v2 v1 = (0, 11) := by
          unfold riseV
          rw [if_pos hle, e2, toldV_no hg, if_pos (by simp)]
        have hh : ¬ fitB (v2 - v0) = true := by
          rw [fitB_iff] at hg ⊢
          omega
        rw [e3, if_pos (by simp), toldV_no hh]
    · have hh : ¬ fitB (v2 - v0) = true := by
        rw [fitB_iff] at hf ⊢
        omega
      rw [toldV_no hf, if_pos (by simp), toldV_no hh]
/-- of values that never fall increase is delta -/
theorem inc_delta {l : List (Int × Int)} (hc : chkA none l = 0) (hn : 1 ≤ l.length) (h : fallTo l (l.length - 1) = false) : incV l = subV (l.getD (l.length - 1) (0, 0)).2 (firstV l) := by
  unfold incV
  rw [incTo hc _ (by omega) h]
  unfold subV firstV
  rw [if_pos ⟨rise_fit hc _ (by omega), rise_fit hc 0 (by omega)⟩]
theorem addV_fit {a b : Int} (h : (addV a b).2 = 0) : fitB (addV a b).1 = true := by
  obtain ⟨h1, h2⟩ := addV_ok h
  rw [h1]; exact h2
theorem riseV_fit {s v a : Int} (h : (riseV s v a).2 = 0) : fitB (riseV s v a).1 = true := by
  unfold riseV at *
  split at h
  · split at h
    · rename_i h1 h2; exact absurd h h2
    · rename_i h1 h2; rw [if_pos h1, if_neg h2]; exact addV_fit h
  · rename_i h1; rw [if_neg h1]; exact addV_fit h
theorem incV_fit (l : List (Int × Int)) (h : (incV l).2 = 0) : fitB (incV l).1 = true := by
  unfold incV at *
  cases hk : l.length - 1 with
  | zero => rw [foldTo]; rfl
  | succ n =>
    rw [hk] at h
    rw [foldTo] at h ⊢
    split at h
    · rename_i h1; exact absurd h h1
    · rename_i h1
      rw [if_neg h1]
      split at h
      · rename_i h2; exact absurd h h2
      · rename_i h2; rw [if_neg h2]; exact riseV_fit h
theorem sumV_fitB {l : List (Int × Int)} (hn : 0 < l.length) (hc : chkA none l = 0) (h : (sumV l).2 = 0) : fitB (sumV l).1 = true := by
  unfold sumV at *
  cases hk : l.length - 1 with
  | zero => rw [foldTo]; exact rise_fit hc 0 hn
  | succ n =>
    rw [hk] at h
    rw [foldTo] at h ⊢
    split at h
    · rename_i h1; exact absurd h h1
    · rename_i h1
      rw [if_neg h1]
      split at h
      · rename_i h2; exact absurd h h2
      · rename_i h2; rw [if_neg h2]; exact addV_fit h
theorem vsum_bounds (l : List (Int × Int)) (a b : Int) (h : ∀ j, j < l.length → a ≤ (l.getD j (0, 0)).2 ∧ (l.getD j (0, 0)).2 ≤ b) : a * l.length ≤ vsum l ∧ vsum l ≤ b * l.length := by
  induction l with
  | nil => simp [vsum]
  | cons x t ih =>
    have h0 := h 0 (by simp)
    have ht := ih (fun j hj => by have := h (j + 1) (by simpa using hj); simpa using this)
    simp only [List.getD_cons_zero] at h0
    simp only [vsum, List.map_cons, List.sum_cons, List.length_cons, Int.natCast_add, Int.mul_add] at ht ⊢
    omega
/-- the mean -/
def avgV (l : List (Int × Int)) : Int × Int := if (sumV l).2 ≠ 0 then (0, (sumV l).2) else scaV (sumV l).1 1 l.length
theorem sca_between (S : Int) (n : Nat) (hn : 0 < n) (a b : Int) (ha : a * n ≤ S) (hb : S ≤ b * n) (h : (scaV S 1 n).2 = 0) : a ≤ (scaV S 1 n).1 ∧ (scaV S 1 n).1 ≤ b := by
  unfold scaV at *
  split at h
  · cases h
  rename_i h1
  rw [if_neg h1]
  clear h h1
  simp only [Nat.mul_one]
  have e := Nat.div_add_mod S.natAbs n
  have hm := Nat.mod_lt S.natAbs hn
  generalize S.natAbs / n = q at *
  generalize S.natAbs % n = r at *
  have e' : (n : Int) * (q : Int) + (r : Int) = (S.natAbs : Int) := by rw [← e]; push_cast; rfl
  by_cases hs : S < 0
  · rw [if_pos hs]
    have e2 : S = -((n : Int) * q + r) := by omega
    constructor
    · refine Int.not_lt.1 fun hlt => ?_
      have h2 : -(q : Int) + 1 ≤ a := by omega
      have h3 : (-(q : Int) + 1) * n ≤ a * n := Int.mul_le_mul_of_nonneg_right h2 (by omega)
      rw [Int.add_mul, Int.neg_mul, Int.mul_comm (q : Int)] at h3
      omega
    · refine Int.not_lt.1 fun hlt => ?_
      have h2 : b + 1 ≤ -(q : Int) := by omega
      have h3 : (b + 1) * n ≤ -(q : Int) * n := Int.mul_le_mul_of_nonneg_right h2 (by omega)
      rw [Int.add_mul, Int.neg_mul, Int.mul_comm (q : Int)] at h3
      omega
  · rw [if_neg hs]
    have e2 : S = (n : Int) * q + r := by omega
    constructor
    · refine Int.not_lt.1 fun hlt => ?_
      have h2 : (q : Int) + 1 ≤ a := by omega
      have h3 : ((q : Int) + 1) * n ≤ a * n := Int.mul_le_mul_of_nonneg_right h2 (by omega)
      rw [Int.add_mul, Int.mul_comm (q : Int)] at h3
      omega
    · refine Int.not_lt.1 fun hlt => ?_
      have h2 : b + 1 ≤ (q : Int) := by omega
      have h3 : (b + 1) * n ≤ (q : Int) * n := Int.mul_le_mul_of_nonneg_right h2 (by omega)
      rw [Int.add_mul, Int.mul_comm (q : Int)] at h3
      omega
theorem avg_between {l : List (Int × Int)} (hn : 0 < l.length) (h : (avgV l).2 = 0) : (minV l).1 ≤ (avgV l).1 ∧ (avgV l).1 ≤ (maxV l).1 := by
  unfold avgV at *
  split at h
  · rename_i h1; exact absurd h h1
  rename_i h1
  rw [if_neg h1]
  have hs : (sumV l).2 = 0 := by simpa using h1
  have hb := vsum_bounds l (minV l).1 (maxV l).1 fun j hj => ⟨(minV_ok l).2.1 j (by omega), (maxV_ok l).2.1 j (by omega)⟩
  rw [← sumV_ok (by omega) hs] at hb
  exact sca_between _ _ hn _ _ hb.1 hb.2 h
/-- rate -/
def rateV (l : List (Int × Int)) (r : Nat) : Int × Int := if (incV l).2 ≠ 0 then incV l else scaV (incV l).1 1000 r
theorem rate_sign (l : List (Int × Int)) (r : Nat) (h : (rateV l r).2 = 0) : (0 ≤ (incV l).1 ∧ 0 ≤ (rateV l r).1) ∨ (¬ 0 ≤ (incV l).1 ∧ ¬ 0 ≤ (rateV l r).1) ∨ (rateV l r).1 = 0 := by
  unfold rateV at *
  split at h
  · rename_i h1; exact absurd h h1
  rename_i h1
  rw [if_neg h1]
  unfold scaV at *
  split at h
  · cases h
  rename_i h2
  rw [if_neg h2]
  by_cases hs : (incV l).1 < 0
  · rw [if_pos hs]; generalize (incV l).1.natAbs * 1000 / r = q at *; simp only; omega
  · rw [if_neg hs]; generalize (incV l).1.natAbs * 1000 / r = q at *; simp only; omega

theorem tell_avg (v : Value) (l : List (Int × Int)) (r : Int) (w : World) (hc : chkA none l = 0) (hn : 1 ≤ l.length) (hl : l.length ≤ 1000000000000) (hb : Sl w 2 v l.length (sc l)) :
    Calls Try.prog 22 #[opS2, v, .int .i64 r] w fun e w' => e = two (avgV l) ∧ Below w.heap.size w w' :=
  tell_2 v l r w (by omega) hb (scaV (sumV l).1 1 l.length) fun h wx => by
    have hf := fitB_iff.1 (sumV_fitB (by omega) hc h)
    exact scale_any (sumV l).1 1 l.length hf.1 hf.2 (by decide) hn (by omega) (.inl (by decide)) wx
theorem tell_rate (v : Value) (l : List (Int × Int)) (r : Nat) (w : World) (hr0 : 1 ≤ r) (hr : r ≤ 2147483648) (hn : 1 ≤ l.length) (hb : Sl w 2 v l.length (sc l)) :
    Calls Try.prog 22 #[opS8, v, .int .i64 r] w fun e w' => e = two (rateV l r) ∧ Below w.heap.size w w' :=
  tell_8 v l r w (by omega) hb (scaV (incV l).1 1000 r) fun h wx => by
    have hf := fitB_iff.1 (incV_fit l h)
    exact scale_any (incV l).1 1000 r hf.1 hf.2 (by decide) hr0 (by omega) (.inr (by omega)) wx
theorem apply_rate (v : Value) (l : List (Int × Int)) (r : Nat) (w : World) (hr0 : 1 ≤ r) (hr : r ≤ 2147483648) (hl : l.length ≤ 10000000000000) (hb : Sl w 2 v l.length (sc l)) :
    Calls Try.prog 9 #[opS8, v, .int .i64 r] w fun e w' => e = retA (apV 2 l r (rateV l r)) ∧ Below w.heap.size w w' :=
  apply_any _ v l 2 r w hl hb known_8 (rateV l r) fun _ _ _ _ h2 wx hx => tell_rate v l r wx hr0 hr (by omega) hx

section
variable (v : Value) (l : List (Int × Int)) (w : World) (hch : chkA none l = 0) (hn : 1 ≤ l.length) (hl : l.length ≤ 1000000000000) (hb : Sl w 2 v l.length (sc l))
include hch hn hl hb
theorem of_avg : Calls Try.prog 14 #[opS2, v] w fun e w' => e = retO ((avgV l).1, (avgV l).2 == 0) ∧ Below w.heap.size w w' :=
  of_need _ v l 1 w hch (by decide) hn (by omega) hb known_2 _ fun wx hx => tell_avg v l 1000 wx hch hn hl hx
/-- what increase and delta tell -/
theorem of_inc : Calls Try.prog 14 #[opS7, v] w fun e w' => e = retO (if l.length < 2 then (0, false) else ((incV l).1, (incV l).2 == 0)) ∧ Below w.heap.size w w' := by
  by_cases h2 : l.length < 2
  · rw [if_pos h2]
    exact of_few _ v l 2 w hch (by decide) h2 (by omega) hb known_7
  · rw [if_neg h2]
    exact of_need _ v l 2 w hch (by decide) (by omega) (by omega) hb known_7 _ fun wx hx => tell_7 v l 1000 wx (by omega) hx
theorem of_delta : Calls Try.prog 14 #[opS6, v] w fun e w' => e = retO (if l.length < 2 then (0, false) else ((subV (l.getD (l.length - 1) (0, 0)).2 (firstV l)).1, (subV (l.getD (l.length - 1) (0, 0)).2 (firstV l)).2 == 0)) ∧ Below w.heap.size w w' := by
  by_cases h2 : l.length < 2
  · rw [if_pos h2]
    exact of_few _ v l 2 w hch (by decide) h2 (by omega) hb known_6
  · rw [if_neg h2]
    exact of_need _ v l 2 w hch (by decide) (by omega) (by omega) hb known_6 _ fun wx hx => tell_6 v l 1000 wx (by omega) hx
end
end Go.Proofs.Ytebjdiiogihcdaa
