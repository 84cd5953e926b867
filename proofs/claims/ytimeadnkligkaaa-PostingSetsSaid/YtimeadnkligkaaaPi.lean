/- What is read as a posting list is what is laid down for it; the walk of PostingOne. -/
import Derived.Test.YtimeadnkligkaaaPh
import Derived.Test.YtimeadnkligkaaaPg
import Derived.Deep.RegionHeld3
namespace Go.Proofs.Ytimeadnkligkaaa
open Go.RowKit

theorem readS_fail (b : List UInt8) (k : Nat) : ∀ (a : Int) (L : List Int) (p : Int), (readS b k a L p).2.2 ≠ 0 → (readS b k a L p).1 = [] ∧ (readS b k a L p).2.1 = 0 := by
  induction k with
  | zero => intro a L p h; exact absurd rfl h
  | succ k ih =>
    intro a L p
    rw [readS]
    split
    · intro _; exact ⟨rfl, rfl⟩
    · split
      · intro _; exact ⟨rfl, rfl⟩
      · exact ih _ _ _
theorem readV_fail (b : List UInt8) (a : Int) (h : (readV b a).2.2 ≠ 0) : ∃ e, readV b a = ([], 0, e) ∧ e ≠ 0 := by
  refine ⟨(readV b a).2.2, ?_, h⟩
  unfold readV at h ⊢
  split
  · rfl
  · split
    · rfl
    · rename_i h1 h2
      rw [if_neg h1, if_neg h2] at h
      have := readS_fail b _ _ _ _ h
      exact Prod.ext this.1 (Prod.ext this.2 rfl)
theorem readS_back (b : List UInt8) (k : Nat) : ∀ (A : Nat) (L : List Int) (p : Int), A ≤ b.length → (readS b k A L p).2.2 = 0 →
    ∃ (M : List Int) (B : Nat), readS b k A L p = (L ++ M, (B : Int), 0) ∧ M.length = k ∧ A ≤ B ∧ B ≤ b.length ∧ dl p M = (b.drop A).take (B - A) ∧ Ris M ∧ ∀ n ∈ M, p ≤ n ∧ n ≤ 1099511627776 ∧ (0 < L.length → p < n) := by
  induction k with
  | zero => intro A L p hA _; exact ⟨[], A, by simp [readS], rfl, Nat.le_refl _, hA, by simp [dl], List.Pairwise.nil, by simp⟩
  | succ k ih =>
    intro A L p hA h
    rw [readS] at h ⊢
    rcases getU_cases b A with ⟨er, hg, he⟩ | ⟨m, j, A2, hAA, hg, hj, hu, hm⟩
    · rw [hg, if_pos he] at h
      exact absurd h he
    · obtain rfl : A2 = A := by omega
      rw [hg, if_neg (by simp)] at h ⊢
      by_cases hc : 1099511627776 - p < (m : Int) ∨ (0 < L.length ∧ (m : Int) = 0)
      · rw [if_pos hc] at h
        exact absurd h (by decide)
      · rw [if_neg hc] at h ⊢
        obtain ⟨M, B, h1, h2, h3, h4, h5, h6, h7⟩ := ih (A2 + j) (L ++ [p + (m : Int)]) (p + (m : Int)) hj h
        refine ⟨(p + (m : Int)) :: M, B, ?_, by simp [h2], by omega, h4, ?_, ?_, ?_⟩
        · rw [h1]; simp
        · rw [dl, h5, show (p + (m : Int) - p).toNat = m by omega, hu, show B - A2 = j + (B - (A2 + j)) by omega, List.take_add, List.drop_drop]
        · exact List.Pairwise.cons (fun n hn => (h7 n hn).2.2 (by simp)) h6
        · intro n hn
          rcases List.mem_cons.1 hn with rfl | hn
          · omega
          · have := h7 n hn
            have h8 := this.2.2 (by simp)
            omega
theorem readV_back (b : List UInt8) (h : (readV b 0).2.2 = 0) : ∃ (M : List Int) (B : Nat), readV b 0 = (M, (B : Int), 0) ∧ B ≤ b.length ∧ lvL M = b.take B ∧ chkL M = 0 := by
  unfold readV at h ⊢
  rcases getU_cases b 0 with ⟨er, hg, he⟩ | ⟨n, j, A2, hAA, hg, hj, hu, hn⟩
  · rw [hg, if_pos he] at h
    exact absurd h he
  · obtain rfl : A2 = 0 := by omega
    rw [hg, if_neg (by simp)] at h ⊢
    by_cases hbig : (1024 : Int) < (n : Int)
    · rw [if_pos hbig] at h
      exact absurd h (by decide)
    · rw [if_neg hbig] at h ⊢
      rw [Int.toNat_natCast] at h ⊢
      obtain ⟨M, B, h1, h2, h3, h4, h5, h6, h7⟩ := readS_back b n (0 + j) [] 0 hj h
      refine ⟨M, B, by simpa using h1, h4, ?_, chkL_of (by omega) h6 fun x hx => ⟨(h7 x hx).1, (h7 x hx).2.1⟩⟩
      unfold lvL
      rw [h2, hu, h5, List.drop_zero, Nat.zero_add, ← List.take_add, show j + (B - j) = B by omega]
theorem chkL_i64 {l : List Int} (h : chkL l = 0) : I64 l := fun n hn => by
  have := (chkL_ok h).2.2 n hn
  omega

set_option maxRecDepth 100000 in
set_option maxHeartbeats 2000000 in
theorem walk_PostingOne (w : World) (v : Value) (l : List UInt8) (hb : Sl w 1 v l.length (bc l)) (hl : l.length ≤ 140737488351232) :
    Calls Try.prog 8 #[v] w fun e w' => e = .returned (.bool true) ∧ Below w.heap.size w w' := by
  have Hb := hid hb; clear hb
  have hR := read_any v l 0 w (by omega) (by decide) (by decide) Hb.out
  by_cases hz : (readV l 0).2.2 = 0
  · obtain ⟨M, j, hg, hj, hm, hc⟩ := readV_back l hz
    rw [hg] at hR
    have hP := fun vl wx (hx : Sl wx 1 vl M.length (ic M)) => pput_ok (.slice none 0 0) vl [] M wx (by simp) (Sl.nil wx 1) (by have := (chkL_ok hc).1; omega) hx (chkL_i64 hc) hc
    rw [List.nil_append, hm] at hP
    have HR := hid hR; have HP := hid hP
    clear hR hg hz hm hP
    have I1 := hid (show ∃ ao n c, v = .slice ao n c ∧ Sl w 1 (.slice ao j c) j (bc (l.take j)) from by
      obtain ⟨ao, c, rfl, _⟩ := Hb.out.shape
      exact ⟨ao, _, c, rfl, Sl.cut Hb.out j hj (by simp [bc])⟩)
    have elen : (l.take j).length = j := by simp; omega
    obtain ⟨ao, c, rfl, hlc, _, _⟩ := Hb.out.shape
    go_enter Try.func8, Try.ntmps8
    go_wp2_with fail
    refine HR.out.mono ?_
    rintro e w1 ⟨ao1, c1, rfl, hb1, hown1⟩
    have L1 := hid hb1; have O1 := hid hown1; have s1' := hb1.size; clear hb1 hown1
    go_wp2_with fail
    refine (HP.out _ w1 (Sl.own O1.out)).mono ?_
    rintro e w2 ⟨g2, c2, rfl, hb2, hown2⟩
    have L2 := hid (L1.out.trans (hb2.mono s1')); have O2 := hid hown2; have s2' := Nat.le_trans s1' hb2.size; clear hb2 hown2
    obtain ⟨_, _, _, hv, hcut⟩ := I1.out
    simp only [Value.slice.injEq] at hv
    obtain ⟨rfl, rfl, rfl⟩ := hv
    have I2 := hcut.below L2.out (fun _ _ h => h)
    clear I1 hcut
    have q1 : ∀ wx, Below w2.heap.size w2 wx → (convert 36 9 (.slice (some ⟨g2, 0, none⟩) j c2)).run Try.prog wx = .ok (.string ⟨(l.take j).toArray⟩) wx := fun wx hx =>
      run_convert_sl (P := Try.prog) wx 36 9 5 Try.underlying36 Try.underlying5 Try.underlying9 (((by have h := Sl.own O2.out; rw [elen] at h; exact h) : Sl w2 1 (.slice (some ⟨g2, 0, none⟩) j c2) j (bc (l.take j))).below hx (fun _ _ h => h))
    have q2 : ∀ wx, Below w2.heap.size w2 wx → (convert 36 9 (.slice ao j c)).run Try.prog wx = .ok (.string ⟨(l.take j).toArray⟩) wx := fun wx hx =>
      run_convert_sl (P := Try.prog) wx 36 9 5 Try.underlying36 Try.underlying5 Try.underlying9 (I2.below hx (fun _ _ h => h))
    clear I2
    have j0 : (0 : Int) ≤ (j : Int) := by omega
    have j1 : (j : Int) ≤ (c : Int) := by omega
    have j2 : (j : Int) ≤ (l.length : Int) := by omega
    have hS : Below w2.heap.size w2 w2 := Below.refl _ _
    have hS1 : Below w2.heap.size w2 w2.drew := hS.drew
    go_wp2_with fail
    go_region_held3 (fun w' => Below w2.heap.size w2 w')
      (first | assumption | exact hS1)
      (first
        | (go_at_call 12; refine (lives_any _).mono ?_; rintro e w7 ⟨rfl, hb7⟩; have hS := (show Below w2.heap.size w2 _ by assumption).trans (hb7.mono (Below.size (show Below w2.heap.size w2 _ by assumption))))
        | (rw [q1 _ (by assumption)])
        | (rw [q2 _ (by assumption)]))
    go_wp2
    go_ret
    exact ⟨rfl, L2.out.trans ((show Below w2.heap.size w2 _ by assumption).mono s2')⟩
  · obtain ⟨er, hg, he⟩ := readV_fail l 0 hz
    rw [hg] at hR
    have HR := hid hR
    have hne : (er == 0) = false := by simpa using he
    clear hR hg hz
    go_enter Try.func8, Try.ntmps8
    go_wp2_with fail
    refine HR.out.mono ?_
    rintro e w1 ⟨ao1, c1, rfl, hb1, hown1⟩
    have L1 := hid hb1; have s1' := hb1.size; clear hb1 hown1
    go_wp2_with fail
    refine (lives_any w1).mono ?_
    rintro e w2 ⟨rfl, hb2⟩
    have L2 := hid (L1.out.trans (hb2.mono s1')); clear hb2
    go_wp2
    go_ret
    exact ⟨rfl, L2.out⟩
end Go.Proofs.Ytimeadnkligkaaa
