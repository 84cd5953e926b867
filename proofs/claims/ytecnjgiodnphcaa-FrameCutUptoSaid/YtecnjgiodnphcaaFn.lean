/- What is read as a number is what is laid down for it; the walk of FrameOne. -/
import Derived.Test.YtecnjgiodnphcaaFj
import Derived.Deep.RegionHeld3
namespace Go.Proofs.Ytecnjgiodnphcaa
open Go.RowKit

theorem getG_fail (l : List UInt8) (a f k acc : Nat) : (getG l a f k acc).2.2 ≠ 0 → (getG l a f k acc).1 = 0 ∧ (getG l a f k acc).2.1 = 0 := by
  induction f generalizing k acc with
  | zero => intro _; simp [getG]
  | succ f ih =>
    unfold getG
    split
    · intro _; exact ⟨rfl, rfl⟩
    · split
      · intro _; exact ⟨rfl, rfl⟩
      · split
        · intro h; exact absurd rfl h
        · exact ih _ _

theorem getG_back (l : List UInt8) (a : Nat) : ∀ (f k acc : Nat), k + f = 8 → (getG l a (f + 1) k acc).2.2 = 0 →
    ∃ m j : Nat, (getG l a (f + 1) k acc).1 = ((acc + m * 128 ^ k : Nat) : Int) ∧ (getG l a (f + 1) k acc).2.1 = ((a + k + j : Nat) : Int) ∧ a + k + j ≤ l.length ∧ uintF f m = (l.drop (a + k)).take j ∧ (0 < k → 0 < m) ∧ m < 128 * 128 ^ f := by
  intro f
  induction f with
  | zero =>
    intro k acc hk h
    by_cases hlt : a + k < l.length
    · obtain ⟨d, hd⟩ : ∃ d, d = (l.getD (a + k) 0).toNat := ⟨_, rfl⟩
      by_cases hb : (k = 8 ∧ 127 < d) ∨ (0 < k ∧ d = 0)
      · rw [getG_bad l a 0 k acc d hlt hd hb] at h; exact absurd h (by decide)
      · have hs : d < 128 := by omega
        rw [getG_end l a 0 k acc d hlt hd hb hs]
        refine ⟨d, 1, rfl, rfl, by omega, ?_, by omega, by omega⟩
        have e : l.getD (a + k) 0 = l[a + k] := by simp [hlt]
        rw [List.drop_eq_getElem_cons hlt, List.take_succ_cons, List.take_zero, ← e, uintF, hd, UInt8.ofNat_toNat]
    · rw [getG_short l a 0 k acc hlt] at h; exact absurd h (by decide)
  | succ f ih =>
    intro k acc hk h
    by_cases hlt : a + k < l.length
    · obtain ⟨d, hd⟩ : ∃ d, d = (l.getD (a + k) 0).toNat := ⟨_, rfl⟩
      have e : l.getD (a + k) 0 = l[a + k] := by simp [hlt]
      by_cases hb : (k = 8 ∧ 127 < d) ∨ (0 < k ∧ d = 0)
      · rw [getG_bad l a (f + 1) k acc d hlt hd hb] at h; exact absurd h (by decide)
      · by_cases hs : d < 128
        · rw [getG_end l a (f + 1) k acc d hlt hd hb hs]
          refine ⟨d, 1, rfl, rfl, by omega, ?_, by omega, ?_⟩
          · rw [List.drop_eq_getElem_cons hlt, List.take_succ_cons, List.take_zero, ← e, uintF, if_pos hs, hd, UInt8.ofNat_toNat]
          · have : 0 < 128 ^ (f + 1) := Nat.pow_pos (by decide)
            omega
        · rw [getG_go l a (f + 1) k acc d hlt hd hb hs] at h ⊢
          obtain ⟨m, j, h1, h2, h3, h4, h5, h6⟩ := ih (k + 1) _ (by omega) h
          have hm := h5 (by omega)
          have hd256 : d < 256 := by rw [hd]; exact (l.getD (a + k) 0).toNat_lt
          refine ⟨d % 128 + 128 * m, j + 1, ?_, ?_, by omega, ?_, by omega, ?_⟩
          · rw [h1]
            congr 1
            rw [Nat.pow_succ, Nat.add_mul]
            have : m * (128 ^ k * 128) = 128 * m * 128 ^ k := by
              rw [Nat.mul_comm (128 ^ k) 128, ← Nat.mul_assoc, Nat.mul_comm m 128]
            omega
          · rw [h2]; congr 1; omega
          · rw [List.drop_eq_getElem_cons hlt, List.take_succ_cons, ← e, uintF, if_neg (by omega)]
            rw [show (d % 128 + 128 * m) % 128 + 128 = d by omega, show (d % 128 + 128 * m) / 128 = m by omega, h4, hd, UInt8.ofNat_toNat, show a + (k + 1) = a + k + 1 by omega]
          · rw [Nat.pow_succ]; omega
    · rw [getG_short l a (f + 1) k acc hlt] at h; exact absurd h (by decide)

theorem getU_zero (l : List UInt8) : getU l 0 = getG l 0 9 0 0 := by unfold getU; rw [if_neg (by omega)]; rfl
/-- what is read at the front is what is laid down for it -/
theorem getU_back (l : List UInt8) (h : (getU l 0).2.2 = 0) : ∃ m j : Nat, getU l 0 = ((m : Int), (j : Int), 0) ∧ j ≤ l.length ∧ uintL m = l.take j ∧ m ≤ 9223372036854775807 := by
  rw [getU_zero] at h ⊢
  obtain ⟨m, j, h1, h2, h3, h4, _, h6⟩ := getG_back l 0 8 0 0 rfl h
  refine ⟨m, j, ?_, by omega, by simpa [uintL] using h4, ?_⟩
  · refine Prod.ext ?_ (Prod.ext ?_ h)
    · rw [h1]; simp
    · rw [h2]; simp
  · have : (128 : Nat) * 128 ^ 8 = 9223372036854775808 := by decide
    omega
theorem getU_fail (l : List UInt8) (h : (getU l 0).2.2 ≠ 0) : ∃ e : Int, getU l 0 = (0, 0, e) ∧ e ≠ 0 := by
  rw [getU_zero] at h ⊢
  have := getG_fail l 0 9 0 0 h
  exact ⟨_, Prod.ext this.1 (Prod.ext this.2 rfl), h⟩

set_option maxRecDepth 100000 in
set_option maxHeartbeats 2000000 in
theorem walk_FrameOne (w : World) (v : Value) (l : List UInt8) (hb : Sl w 1 v l.length (bc l)) (hl : l.length ≤ 140737488351232) :
    Calls Try.prog 7 #[v] w fun e w' => e = .returned (.bool true) ∧ Below w.heap.size w w' := by
  have Hb := hid hb; clear hb
  have hG := getUint_any v l 0 w (by omega) (by decide) (by decide) Hb.out
  by_cases hz : (getU l 0).2.2 = 0
  · obtain ⟨m, j, hg, hj, hm, hmx⟩ := getU_back l hz
    rw [hg] at hG
    have HG := hid hG; have HM := hid hm
    have HP := hid (putUint_any (.slice none 0 0) [] m · (by decide) (by omega) (Sl.nil _ _))
    clear hG hg hz hm
    have eU : putU [] (m : Int) = (uintL m, 0) := by unfold putU; rw [if_neg (by omega), Int.toNat_natCast]; rfl
    rw [eU, HM.out] at HP
    clear eU
    have I1 := hid (show ∃ ao n c, v = .slice ao n c ∧ Sl w 1 (.slice ao j c) j (bc (l.take j)) from by
      obtain ⟨ao, c, rfl, _⟩ := Hb.out.shape
      exact ⟨ao, _, c, rfl, Sl.cut Hb.out j hj (by simp [bc])⟩)
    have elen : (l.take j).length = j := by simp; omega
    obtain ⟨ao, c, rfl, hlc, _, _⟩ := Hb.out.shape
    go_enter Try.func7, Try.ntmps7
    go_wp2_with fail
    refine HG.out.mono ?_
    unfold retU
    rintro e wz ⟨rfl, hwz⟩
    subst wz
    go_wp2_with fail
    refine (HP.out w).mono ?_
    rintro e w2 ⟨ao2, c2, rfl, hb2, hown2⟩
    have L2 := hid hb2; have O2 := hid hown2; have s2' := hb2.size; clear hb2 hown2
    obtain ⟨_, _, _, hv, hcut⟩ := I1.out
    simp only [Value.slice.injEq] at hv
    obtain ⟨rfl, rfl, rfl⟩ := hv
    have I2 := hcut.below L2.out (fun _ _ h => h)
    clear I1 hcut
    have q1 : ∀ wx, Below w2.heap.size w2 wx → (convert 22 9 (.slice ao2 j c2)).run Try.prog wx = .ok (.string ⟨(l.take j).toArray⟩) wx := fun wx hx =>
      run_convert_sl (P := Try.prog) wx 22 9 5 Try.underlying22 Try.underlying5 Try.underlying9 (((by have h := Sl.own O2.out; rw [elen] at h; exact h) : Sl w2 1 (.slice ao2 j c2) j (bc (l.take j))).below hx (fun _ _ h => h))
    have q2 : ∀ wx, Below w2.heap.size w2 wx → (convert 22 9 (.slice ao j c)).run Try.prog wx = .ok (.string ⟨(l.take j).toArray⟩) wx := fun wx hx =>
      run_convert_sl (P := Try.prog) wx 22 9 5 Try.underlying22 Try.underlying5 Try.underlying9 (I2.below hx (fun _ _ h => h))
    clear I2
    have j0 : (0 : Int) ≤ (j : Int) := by omega
    have j1 : (j : Int) ≤ (c : Int) := by omega
    have j2 : (j : Int) ≤ (l.length : Int) := by omega
    have hS : Below w2.heap.size w2 w2 := Below.refl _ _
    have hS1 : Below w2.heap.size w2 w2.drew := hS.drew
    go_wp2_with fail
    go_region_held3 (fun w' => Below w2.heap.size w2 w')
      (first | assumption | exact hS1)
      (first
        | (go_at_call 17; refine (lives_any _).mono ?_; rintro e w7 ⟨rfl, hb7⟩; have hS := (show Below w2.heap.size w2 _ by assumption).trans (hb7.mono (Below.size (show Below w2.heap.size w2 _ by assumption))))
        | (rw [q1 _ (by assumption)])
        | (rw [q2 _ (by assumption)]))
    go_wp2
    go_ret
    exact ⟨rfl, L2.out.trans ((show Below w2.heap.size w2 _ by assumption).mono s2')⟩
  · obtain ⟨er, hg, he⟩ := getU_fail l hz
    rw [hg] at hG
    have HG := hid hG
    clear hG hg hz
    go_enter Try.func7, Try.ntmps7
    go_wp2_with fail
    refine HG.out.mono ?_
    unfold retU
    rintro e wz ⟨rfl, hwz⟩
    subst wz
    have he' : (er == 0) = false := by simpa using he
    go_wp2_with fail
    refine (lives_any w).mono ?_
    rintro e w6 ⟨rfl, hb6⟩
    have L6 := hid hb6; clear hb6
    go_wp2
    go_ret
    exact ⟨rfl, L6.out⟩
end Go.Proofs.Ytecnjgiodnphcaa
