/- both Applys tell the same of any name. -/
import Derived.Test.YtebjdiiogihcdaaRh
namespace Go.Proofs.Ytebjdiiogihcdaa
open Go.RowKit
set_option linter.unusedSimpArgs false

theorem rise_len {l : List (Int × Int)} (h : chkA none l = 0) : l.length ≤ 1099511627777 := by
  have e : ∀ k, k < l.length → (k : Int) ≤ (l.getD k (0, 0)).1 := by
    intro k
    induction k with
    | zero => intro hk; have := rise_at h 0 hk; omega
    | succ k ih =>
      intro hk
      have h1 := ih (by omega)
      have h2 := rise_lt h k (k + 1) (by omega) hk
      omega
  by_cases h0 : l.length = 0
  · omega
  · have h1 := e (l.length - 1) (by omega)
    have h2 := rise_at h (l.length - 1) (by omega)
    omega
def bothX (s : ByteArray) (l : List (Int × Int)) (r : Int) (X : Int × Bool × Int) : Prop :=
  (∀ v wx, Sl wx 2 v l.length (sc l) → Calls Try.prog 9 #[.string s, v, .int .i64 r] wx fun e w' => e = retA X ∧ Below wx.heap.size wx w') ∧
  (∀ v wx, Sl wx 2 v l.length (sc l) → Calls Try.prog 10 #[.string s, v, .int .i64 r] wx fun e w' => e = retA X ∧ Below wx.heap.size wx w')
theorem apR_apV (i : Nat) (need : Nat) (l : List (Int × Int)) (r : Int) (t : Int × Int) (h : need = if 6 ≤ i then 2 else 1) : apR (i : Int) l r t = apV need l r t := by
  have hn0 : ¬ need = 0 := by rw [h]; split <;> omega
  unfold apR apV
  rw [if_neg (show ¬ (i : Int) < 0 by omega), if_neg hn0]
  by_cases hr : r < 1 ∨ 2147483648 < r
  · rw [if_pos hr, if_pos hr]
  rw [if_neg hr, if_neg hr]
  by_cases hc : chkA none l ≠ 0
  · rw [if_pos hc, if_pos hc]
  rw [if_neg hc, if_neg hc]
  have hiff : (l.length = 0 ∨ (6 ≤ (i : Int) ∧ l.length = 1)) ↔ l.length < need := by
    by_cases h6 : 6 ≤ i
    · rw [if_pos h6] at h; omega
    · rw [if_neg h6] at h; omega
  by_cases hl : l.length < need
  · rw [if_pos hl, if_pos (hiff.2 hl)]
  · rw [if_neg hl, if_neg (fun hh => hl (hiff.1 hh))]
theorem need_le {i : Nat} {l : List (Int × Int)} (h : ¬ (l.length = 0 ∨ (6 ≤ (i : Int) ∧ l.length = 1))) : 1 ≤ l.length := by omega

theorem tell_avgB (v : Value) (l : List (Int × Int)) (r : Int) (w : World) (hc : chkA none l = 0) (hn : 1 ≤ l.length) (hl : l.length ≤ 1099511627777) (hb : Sl w 2 v l.length (sc l)) :
    Calls Try.prog 22 #[opS2, v, .int .i64 r] w fun e w' => e = two (avgV l) ∧ Below w.heap.size w w' :=
  tell_2 v l r w (by omega) hb (scaV (sumV l).1 1 l.length) fun h wx => by
    have hf := fitB_iff.1 (sumV_fitB (by omega) hc h)
    exact scale_any (sumV l).1 1 l.length hf.1 hf.2 (by decide) hn (by omega) (.inl (by decide)) wx
theorem tell_rateI (v : Value) (l : List (Int × Int)) (r : Int) (w : World) (hr0 : 1 ≤ r) (hr : r ≤ 2147483648) (hn : 1 ≤ l.length) (hb : Sl w 2 v l.length (sc l)) :
    Calls Try.prog 22 #[opS8, v, .int .i64 r] w fun e w' => e = two (rateV l r.toNat) ∧ Below w.heap.size w w' := by
  have e : r = ((r.toNat : Nat) : Int) := by omega
  have h := tell_rate v l r.toNat w (by omega) (by omega) hn hb
  rw [← e] at h
  exact h
theorem refTell_8I (v : Value) (l : List (Int × Int)) (w : World) (hc : chkA none l = 0) (hn : 1 ≤ l.length) (hl : l.length ≤ 1099511627777) (hb : Sl w 1 v l.length (iz (vals l))) (r : Int) (hr0 : 1 ≤ r) (hr : r ≤ 2147483648) :
    Calls Try.prog 24 #[opS8, v, .int .i64 r] w fun e w' => e = two (rateV l r.toNat) ∧ Below w.heap.size w w' := by
  have e : r = ((r.toNat : Nat) : Int) := by omega
  have h := refTell_8 v l w hc hn hl hb r.toNat (by omega) (by omega)
  rw [← e] at h
  exact h

section
variable (l : List (Int × Int)) (r : Int) (hl : l.length ≤ 10000000000000)
include hl

theorem both_0 : ∃ X, bothX (opB 0) l r X := by
  have e : atTo (opB 0) 9 = ((0 : Nat) : Int) := by decide +kernel
  refine ⟨apV 1 l r ((l.length : Int) * 1000000, 0), fun v wx hx => ?_, fun v wx hx => ?_⟩
  · exact apply_any (opB 0) v l 1 r wx hl hx known_0 ((l.length : Int) * 1000000, 0) (fun _ hr0 hr1 hc hn wx hx => tell_0 v l r wx (by omega) hx (by have := rise_len hc; omega))
  · have h := refApply_any (opB 0) v l r wx hl hx ((l.length : Int) * 1000000, 0) (by rw [e]; exact fun _ _ _ hc hn wx vv hx => refTell_0 vv l wx hc (need_le hn) (rise_len hc) hx r)
    rw [e, apR_apV 0 1 l r _ rfl] at h
    exact h

theorem both_1 : ∃ X, bothX (opB 1) l r X := by
  have e : atTo (opB 1) 9 = ((1 : Nat) : Int) := by decide +kernel
  refine ⟨apV 1 l r (sumV l), fun v wx hx => ?_, fun v wx hx => ?_⟩
  · exact apply_any (opB 1) v l 1 r wx hl hx known_1 (sumV l) (fun _ hr0 hr1 hc hn wx hx => tell_1 v l r wx (by omega) hx)
  · have h := refApply_any (opB 1) v l r wx hl hx (sumV l) (by rw [e]; exact fun _ _ _ hc hn wx vv hx => refTell_1 vv l wx hc (need_le hn) (rise_len hc) hx r)
    rw [e, apR_apV 1 1 l r _ rfl] at h
    exact h

theorem both_2 : ∃ X, bothX (opB 2) l r X := by
  have e : atTo (opB 2) 9 = ((2 : Nat) : Int) := by decide +kernel
  refine ⟨apV 1 l r (avgV l), fun v wx hx => ?_, fun v wx hx => ?_⟩
  · exact apply_any (opB 2) v l 1 r wx hl hx known_2 (avgV l) (fun _ hr0 hr1 hc hn wx hx => tell_avgB v l r wx hc (by omega) (rise_len hc) hx)
  · have h := refApply_any (opB 2) v l r wx hl hx (avgV l) (by rw [e]; exact fun _ _ _ hc hn wx vv hx => refTell_2 vv l wx hc (need_le hn) (rise_len hc) hx r)
    rw [e, apR_apV 2 1 l r _ rfl] at h
    exact h

theorem both_3 : ∃ X, bothX (opB 3) l r X := by
  have e : atTo (opB 3) 9 = ((3 : Nat) : Int) := by decide +kernel
  refine ⟨apV 1 l r (minV l), fun v wx hx => ?_, fun v wx hx => ?_⟩
  · exact apply_any (opB 3) v l 1 r wx hl hx known_3 (minV l) (fun _ hr0 hr1 hc hn wx hx => tell_3 v l r wx (by omega) hx)
  · have h := refApply_any (opB 3) v l r wx hl hx (minV l) (by rw [e]; exact fun _ _ _ hc hn wx vv hx => refTell_3 vv l wx hc (need_le hn) (rise_len hc) hx r)
    rw [e, apR_apV 3 1 l r _ rfl] at h
    exact h

theorem both_4 : ∃ X, bothX (opB 4) l r X := by
  have e : atTo (opB 4) 9 = ((4 : Nat) : Int) := by decide +kernel
  refine ⟨apV 1 l r (maxV l), fun v wx hx => ?_, fun v wx hx => ?_⟩
  · exact apply_any (opB 4) v l 1 r wx hl hx known_4 (maxV l) (fun _ hr0 hr1 hc hn wx hx => tell_4 v l r wx (by omega) hx)
  · have h := refApply_any (opB 4) v l r wx hl hx (maxV l) (by rw [e]; exact fun _ _ _ hc hn wx vv hx => refTell_4 vv l wx hc (need_le hn) (rise_len hc) hx r)
    rw [e, apR_apV 4 1 l r _ rfl] at h
    exact h

theorem both_5 : ∃ X, bothX (opB 5) l r X := by
  have e : atTo (opB 5) 9 = ((5 : Nat) : Int) := by decide +kernel
  refine ⟨apV 1 l r (lastV l), fun v wx hx => ?_, fun v wx hx => ?_⟩
  · exact apply_any (opB 5) v l 1 r wx hl hx known_5 (lastV l) (fun _ hr0 hr1 hc hn wx hx => tell_5 v l r wx (by omega) hx)
  · have h := refApply_any (opB 5) v l r wx hl hx (lastV l) (by rw [e]; exact fun _ _ _ hc hn wx vv hx => refTell_5 vv l wx hc (need_le hn) (rise_len hc) hx r)
    rw [e, apR_apV 5 1 l r _ rfl] at h
    exact h

theorem both_6 : ∃ X, bothX (opB 6) l r X := by
  have e : atTo (opB 6) 9 = ((6 : Nat) : Int) := by decide +kernel
  refine ⟨apV 2 l r (subV (l.getD (l.length - 1) (0, 0)).2 (firstV l)), fun v wx hx => ?_, fun v wx hx => ?_⟩
  · exact apply_any (opB 6) v l 2 r wx hl hx known_6 (subV (l.getD (l.length - 1) (0, 0)).2 (firstV l)) (fun _ hr0 hr1 hc hn wx hx => tell_6 v l r wx (by omega) hx)
  · have h := refApply_any (opB 6) v l r wx hl hx (subV (l.getD (l.length - 1) (0, 0)).2 (firstV l)) (by rw [e]; exact fun _ _ _ hc hn wx vv hx => refTell_6 vv l wx hc (need_le hn) (rise_len hc) hx r)
    rw [e, apR_apV 6 2 l r _ rfl] at h
    exact h

theorem both_7 : ∃ X, bothX (opB 7) l r X := by
  have e : atTo (opB 7) 9 = ((7 : Nat) : Int) := by decide +kernel
  refine ⟨apV 2 l r (incV l), fun v wx hx => ?_, fun v wx hx => ?_⟩
  · exact apply_any (opB 7) v l 2 r wx hl hx known_7 (incV l) (fun _ hr0 hr1 hc hn wx hx => tell_7 v l r wx (by omega) hx)
  · have h := refApply_any (opB 7) v l r wx hl hx (incV l) (by rw [e]; exact fun _ _ _ hc hn wx vv hx => refTell_7 vv l wx hc (need_le hn) (rise_len hc) hx r)
    rw [e, apR_apV 7 2 l r _ rfl] at h
    exact h

theorem both_8 : ∃ X, bothX (opB 8) l r X := by
  have e : atTo (opB 8) 9 = ((8 : Nat) : Int) := by decide +kernel
  refine ⟨apV 2 l r (rateV l r.toNat), fun v wx hx => ?_, fun v wx hx => ?_⟩
  · exact apply_any (opB 8) v l 2 r wx hl hx known_8 (rateV l r.toNat) (fun _ hr0 hr1 hc hn wx hx => tell_rateI v l r wx hr0 hr1 (by omega) hx)
  · have h := refApply_any (opB 8) v l r wx hl hx (rateV l r.toNat) (by rw [e]; exact fun _ hr0 hr1 hc hn wx vv hx => refTell_8I vv l wx hc (need_le hn) (rise_len hc) hx r hr0 hr1)
    rw [e, apR_apV 8 2 l r _ rfl] at h
    exact h

theorem both_no (s : ByteArray) (h : ∀ i, i < 9 → (s.toList == opL i) = false) : ∃ X, bothX s l r X := by
  have hb : ∀ k, k < 9 → (opB k).toList = opL k := by
    intro k hk
    match k with
    | 0 | 1 | 2 | 3 | 4 | 5 | 6 | 7 | 8 => decide +kernel
    | k + 9 => omega
  have e : ∀ k, k ≤ 9 → atTo s k = -1 := by
    intro k
    induction k with
    | zero => intro _; rfl
    | succ k ih =>
      intro hk
      have h1 : ((opB k).toList == s.toList) = false := by
        rw [hb k (by omega)]
        have h2 := h k (by omega)
        simp only [beq_eq_false_iff_ne, ne_eq] at h2 ⊢
        exact fun h3 => h2 h3.symm
      rw [atTo, h1, if_neg (by simp)]
      exact ih (by omega)
  refine ⟨(0, false, 9), fun v wx hx => ?_, fun v wx hx => ?_⟩
  · exact apply_none s v r wx (known_no s h wx)
  · have h1 := refApply_any s v l r wx hl hx (0, 0) (by rw [e 9 (by omega)]; intro h; omega)
    rw [e 9 (by omega)] at h1
    exact h1

theorem both_any (s : ByteArray) : ∃ X, bothX s l r X := by
  by_cases h : ∃ i, i < 9 ∧ (s.toList == opL i) = true
  · obtain ⟨i, hi, h⟩ := h
    have hs : s.toList = opL i := by simpa using h
    have hk : s = opB i := by
      have h2 : s.toList = (opB i).toList := by
        rw [hs]
        match i with
        | 0 | 1 | 2 | 3 | 4 | 5 | 6 | 7 | 8 => decide +kernel
        | i + 9 => omega
      rw [ByteArray.toList_eq, ByteArray.toList_eq] at h2
      exact ByteArray.ext (Array.toList_inj.mp h2)
    subst hk
    match i with
    | 0 => exact both_0 l r hl
    | 1 => exact both_1 l r hl
    | 2 => exact both_2 l r hl
    | 3 => exact both_3 l r hl
    | 4 => exact both_4 l r hl
    | 5 => exact both_5 l r hl
    | 6 => exact both_6 l r hl
    | 7 => exact both_7 l r hl
    | 8 => exact both_8 l r hl
    | i + 9 => omega
  · refine both_no l r hl s fun i hi => ?_
    rcases Bool.eq_false_or_eq_true (s.toList == opL i) with hh | hh
    · exact absurd ⟨i, hi, hh⟩ h
    · exact hh
end
end Go.Proofs.Ytebjdiiogihcdaa
