/- The walk of BitsOne. -/
import Derived.Test.YtpipgiacmkeinaaQ
namespace Go.Proofs.Ytpipgiacmkeinaa
open Go.RowKit

theorem Rt_nil : Rt [] 0 := ⟨rfl, fun i _ h => by simp at h⟩
/-- the bits of a number that says how long it is -/
theorem numL_bits {L : List UInt8} {N : Nat} (h : Rt L N) (u : Nat) :
    (∀ j, j < N → bitAt (numL L N u) j = bitAt L j) ∧ (∀ j, j < 7 → bitAt (numL L N u) (N + j) = Lib.bitLen u / 2 ^ (6 - j) % 2) ∧
    (∀ j, j < Lib.bitLen u → bitAt (numL L N u) (N + 7 + j) = u / 2 ^ (Lib.bitLen u - 1 - j) % 2) := by
  have h1 := h.putTo (Lib.bitLen u) 7 7
  have h2 := h1.1.putTo u (Lib.bitLen u) (Lib.bitLen u)
  refine ⟨fun j hj => (h2.2.1 j (by omega)).trans (h1.2.1 j hj), fun j hj => ?_, h2.2.2⟩
  refine (h2.2.1 (N + j) (by omega)).trans ?_
  rw [h1.2.2 j hj, show 7 - 1 - j = 6 - j by omega]
/-- what was read as a number has just the bits that are laid down for it -/
theorem one_bits (L : List UInt8) (a u : Nat) (h1 : getN L a 7 = Lib.bitLen u) (h2 : getN L (a + 7) (Lib.bitLen u) = u) (j : Nat) (hj : j < 7 + Lib.bitLen u) :
    bitAt (numL [] 0 u) j = bitAt L (a + j) := by
  have hb := numL_bits Rt_nil u
  by_cases h : j < 7
  · have := hb.2.1 j h
    rw [Nat.zero_add] at this
    rw [this, getN_bit L a 7 j h, h1]
  · obtain ⟨i, rfl⟩ : ∃ i, j = 7 + i := ⟨j - 7, by omega⟩
    have := hb.2.2 i (by omega)
    rw [Nat.zero_add] at this
    rw [this, ← Nat.add_assoc, getN_bit L (a + 7) (Lib.bitLen u) i (by omega), h2]

set_option maxRecDepth 100000 in
set_option maxHeartbeats 4000000 in
theorem walk_BitsOne (w : World) (v : Value) (l : List UInt8) (hb : Sl w 1 v l.length (bc l)) (hl : l.length ≤ 140737488351232) (k : Int) (hk0 : -9223372036854775808 ≤ k) (hk : k ≤ 9223372036854775807)
    (a : Int) (ha0 : -9223372036854775808 ≤ a) (ha : a ≤ 9223372036854775807) :
    Calls Try.prog 11 #[v, .int .i64 k, .int .i64 a] w fun e w' => e = .returned (.bool true) ∧ Below w.heap.size w w' := by
  have HM := hid (made_any v l k w (by omega) hb)
  clear hb
  go_enter Try.func11, Try.ntmps11
  go_wp2_with fail
  refine HM.out.mono ?_
  rintro e w1 ⟨L, m, ao, c, hRt, hm, rfl, hb1, hown1⟩
  have L1 := hid hb1; have O1 := hid hown1; have s1 := hb1.size
  have hLl := hRt.1
  have hL8 : L.length ≤ 150000000000000 := by omega
  have hR := Rt_rightB hRt
  have HRt := hid hRt
  clear hb1 hown1 hRt
  have hG := fun wx (hx : Sl wx 1 (.slice ao L.length c) L.length (bc L)) => getNum_any (.slice ao L.length c) L wx (by omega) hx m a (by omega) (by omega) ha0 ha
  by_cases hbad : (getNumV L m a).2.2 = 0
  · have hok : ∃ u b : Nat, u < 18446744073709551616 ∧ a = (b : Int) ∧ b + 7 + Lib.bitLen u ≤ m ∧ getN L b 7 = Lib.bitLen u ∧ getN L (b + 7) (Lib.bitLen u) = u ∧ getNumV L m a = (u, a + 7 + Lib.bitLen u, 0) := by
      unfold getNumV at hbad
      by_cases h1 : (getV L m a 7).2 ≠ 0
      · rw [if_pos h1] at hbad; exact absurd hbad h1
      · rw [if_neg h1] at hbad
        have h1' : (getV L m a 7).2 = 0 := by simpa using h1
        by_cases h2 : 64 < (getV L m a 7).1
        · rw [if_pos h2] at hbad; exact absurd hbad (by simp)
        · rw [if_neg h2] at hbad
          by_cases h3 : (getV L m (a + 7) (getV L m a 7).1).2 ≠ 0
          · rw [if_pos h3] at hbad; exact absurd hbad h3
          · rw [if_neg h3] at hbad
            have h3' : (getV L m (a + 7) (getV L m a 7).1).2 = 0 := by simpa using h3
            by_cases h4 : Lib.bitLen (getV L m (a + 7) (getV L m a 7).1).1 ≠ (getV L m a 7).1
            · rw [if_pos h4] at hbad; exact absurd hbad (by simp)
            · have h4' : Lib.bitLen (getV L m (a + 7) (getV L m a 7).1).1 = (getV L m a 7).1 := by simpa using h4
              have g1 := getV_ok h1'
              have g2 := getV_ok h3'
              obtain ⟨b, rfl⟩ := Int.eq_ofNat_of_zero_le g1.2.2.2.1
              have q1 := g1.2.2.2.2.2
              have q2 := g2.2.2.2.2.2
              have q3 := g2.2.2.2.2.1
              refine ⟨(getV L m ((b : Int) + 7) (getV L m (b : Int) 7).1).1, b, getV_lt _ _ _ _, rfl, by omega, ?_, ?_, ?_⟩
              · rw [h4', q1]; rfl
              · rw [h4']
                conv => rhs; rw [q2]
                rw [show ((b : Int) + 7).toNat = b + 7 by omega, Int.toNat_natCast]
              · unfold getNumV
                rw [if_neg h1, if_neg h2, if_neg h3, if_neg h4, h4']
    obtain ⟨u, b, hu, rfl, hbm, hn1, hn2, eG⟩ := hok
    rw [eG] at hG
    have hbits := fun j hj => one_bits L b u hn1 hn2 j hj
    have hP := fun wx => putNum_any (.slice none 0 0) [] 0 u wx (by omega) (by omega) hu (by simp) (Sl.nil wx 1)
    have eP : putNumV [] 0 u = (numL [] 0 u, (7 : Int) + (Lib.bitLen u : Int), (0 : Int)) := by
      unfold putNumV
      rw [if_neg (by decide)]
      simp
    rw [eP] at hP
    have hRy : Rt (numL [] 0 u) (7 + Lib.bitLen u) := by
      have := ((Rt_nil.putN (Lib.bitLen u) 7).putN u (Lib.bitLen u))
      rw [Nat.zero_add] at this
      exact this
    have hb64 := bitLen_le64 u
    have hyl := hRy.1
    generalize numL [] 0 u = Y at *
    generalize Lib.bitLen u = n at *
    have HG := hid hG; have HP := hid hP; have HB := hid hbits; have HRy := hid hRy
    have hY8 : Y.length ≤ 1000 := by omega
    clear hG hP hbits hRy eG eP hn1 hn2 hbad hyl hLl hR
    go_wp2_with fail
    refine (HG.out _ ((Sl.own O1.out).alloc _)).mono ?_
    rintro e w2 ⟨rfl, hb2⟩
    obtain ⟨y0, y1, y2⟩ := one_box hb2
    have L2 := hid y1
    have s2 := L2.out.size
    have X2 := hid y0
    clear y0 y1 hb2
    go_wp2_with fail
    refine (HP.out w2).mono ?_
    rintro e w3 ⟨ao3, c3, rfl, hb3, hown3⟩
    have L3 := hid hb3; have s3 := hb3.size
    have O3 := hid hown3
    have X3 := hid (blk_below X2.out hb3 (by omega))
    clear hb3 hown3
    obtain ⟨W4, hW4⟩ : ∃ W4, W4 = w3.alloc (.cells #[.slice ao3 Y.length c3, .int .i64 (7 + (n : Int))] 24) := ⟨_, rfl⟩
    have X4 := hid (show W4.heap[w1.heap.size]? = some (.cells #[.slice ao L.length c, .int .i64 (m : Nat)] 24 (0, 0)) by rw [hW4]; exact blk_alloc X3.out _)
    have Y4 := hid (show W4.heap[w3.heap.size]? = some (.cells #[.slice ao3 Y.length c3, .int .i64 (7 + (n : Int))] 24 (0, 0)) by rw [hW4]; exact blk_new w3 _ _ rfl)
    have L4 := hid (show Below w3.heap.size w3 W4 by rw [hW4]; exact (Below.refl _ _).alloc (Nat.le_refl _) _)
    have s4 : w3.heap.size < W4.heap.size := by rw [hW4]; exact size_alloc_lt _ _
    have xS := hid (((Sl.own O1.out).below L2.out (fun _ _ h => h)).below (L3.out.trans (L4.out.mono s3)) (fun _ _ h => h))
    have yS := hid ((Sl.own O3.out).below L4.out (fun _ _ h => h))
    have D4 := hid (((L1.out.trans (L2.out.mono s1)).trans (L3.out.mono (by omega))).trans (L4.out.mono (by omega)))
    have HW := hid hW4; clear hW4
    have hd : ((7 : Int) + n != (b : Int) + 7 + n - b) = false := by simp; omega
    go_wp2_with fail
    clear hd
    rw [← HW.out]
    obtain ⟨a0, a1, _, _, _⟩ := blk2 X4.out
    obtain ⟨b0, b1, _, _, _⟩ := blk2 Y4.out
    go_wp2_with fail
    clear a0 a1 b0 b1
    go_loopw [13, 14, 15, 16, 17] (fun i _ _ _ _ wr => ∃ j, j ≤ 7 + n ∧ i = .int .i64 ((j : Nat) : Int) ∧ Below W4.heap.size W4 wr)
      (fun i _ _ _ _ _ => 7 + n - (intOf i).toNat)
    case atStart => exact ⟨0, Nat.zero_le _, rfl, Below.refl _ _⟩
    case round =>
      obtain ⟨j, hj, rfl, hbel⟩ := hrel
      have Lr := hid hbel
      have sr := hbel.size
      have X5 := hid (blk_below X4.out hbel (by omega))
      have Y5 := hid (blk_below Y4.out hbel (by omega))
      obtain ⟨a0, a1, _, _, _⟩ := blk2 X5.out
      obtain ⟨b0, b1, _, _, _⟩ := blk2 Y5.out
      clear hbel
      by_cases hlt : j < 7 + n
      · have hlt' : (j : Int) < 7 + n := by omega
        have e1 : getV L m ((b : Int) + j) 1 = (bitAt L (b + j), 0) := by
          have := getV_in HRt.out (b + j) 1 (by omega) (by omega)
          rw [getN_one, show ((b + j : Nat) : Int) = (b : Int) + j by omega] at this
          exact this
        have e2 : getV Y (7 + (n : Int)) j 1 = (bitAt L (b + j), 0) := by
          have := getV_in HRy.out j 1 (by omega) (by omega)
          rw [getN_one, HB.out j hlt, show ((7 + n : Nat) : Int) = 7 + (n : Int) by omega] at this
          exact this
        have hg1 := get_any (.slice ao L.length c) L m ((b : Int) + j) 1 wr (by omega) (by omega) (by omega) (by omega) (by omega) (xS.out.below Lr.out (fun _ _ h => h))
        have hg2 := fun wx (hx : Sl wx 1 (.slice ao3 Y.length c3) Y.length (bc Y)) => get_any (.slice ao3 Y.length c3) Y (7 + (n : Int)) j 1 wx (by omega) (by omega) (by omega) (by omega) (by omega) hx
        rw [e1] at hg1
        rw [e2] at hg2
        have G1 := hid hg1; have G2 := hid hg2
        clear hg1 hg2 e1 e2
        generalize bitAt L (b + j) = d at *
        go_wp2_with fail
        refine G1.out.mono ?_
        rintro e w6 ⟨rfl, hb6⟩
        have L6 := hid hb6; have s6 := hb6.size
        have X6 := hid (blk_below X5.out hb6 (by omega))
        have Y6 := hid (blk_below Y5.out hb6 (by omega))
        clear a0 a1 b0 b1
        obtain ⟨a0, a1, _, _, _⟩ := blk2 X6.out
        obtain ⟨b0, b1, _, _, _⟩ := blk2 Y6.out
        clear hb6
        go_wp2_with fail
        refine (G2.out w6 (yS.out.below (Lr.out.trans (L6.out.mono sr)) (fun _ _ h => h))).mono ?_
        rintro e w7 ⟨rfl, hb7⟩
        have L7 := hid hb7; have s7 := hb7.size
        clear hb7
        go_wp2
        go_roundw
        case rel => exact ⟨j + 1, by omega, by go_num, (Lr.out.trans (L6.out.mono sr)).trans (L7.out.mono (by omega))⟩
        case measure => simp [intOf]; omega
      · have hlt' : ¬ (j : Int) < 7 + n := by omega
        go_wp2_with fail
        refine (lives_any wr).mono ?_
        rintro e w8 ⟨rfl, hb8⟩
        have L8 := hid hb8; clear hb8
        go_wp2
        go_ret
        exact ⟨rfl, (D4.out.trans (Lr.out.mono (by omega))).trans (L8.out.mono (by omega))⟩
  · obtain ⟨er, hg, her⟩ : ∃ er : Int, getNumV L m a = (0, 0, er) ∧ er ≠ 0 := by
      unfold getNumV at hbad ⊢
      by_cases h1 : (getV L m a 7).2 ≠ 0
      · exact ⟨_, by rw [if_pos h1], h1⟩
      · rw [if_neg h1] at hbad ⊢
        by_cases h2 : 64 < (getV L m a 7).1
        · exact ⟨5, by rw [if_pos h2], by decide⟩
        · rw [if_neg h2] at hbad ⊢
          by_cases h3 : (getV L m (a + 7) (getV L m a 7).1).2 ≠ 0
          · exact ⟨_, by rw [if_pos h3], h3⟩
          · rw [if_neg h3] at hbad ⊢
            by_cases h4 : Lib.bitLen (getV L m (a + 7) (getV L m a 7).1).1 ≠ (getV L m a 7).1
            · exact ⟨5, by rw [if_pos h4], by decide⟩
            · rw [if_neg h4] at hbad; exact absurd rfl hbad
    rw [hg] at hG
    have HG := hid hG
    have hd : (er != 0) = true := by simpa using her
    clear hG hg her hbad hR hLl
    go_wp2_with fail
    refine (HG.out _ ((Sl.own O1.out).alloc _)).mono ?_
    rintro e w2 ⟨rfl, hb2⟩
    obtain ⟨y0, y1, y2⟩ := one_box hb2
    have L2 := hid y1
    have s2 := L2.out.size
    clear y0 y1 hb2
    go_wp2_with fail
    refine (lives_any _).mono ?_
    rintro e w3 ⟨rfl, hb3⟩
    have L3 := hid hb3; clear hb3
    go_wp2
    go_ret
    exact ⟨rfl, (L1.out.trans (L2.out.mono s1)).trans (L3.out.mono (by omega))⟩
end Go.Proofs.Ytpipgiacmkeinaa
