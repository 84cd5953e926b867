/- The walk of BitsPuts. -/
import Derived.Test.YtpipgiacmkeinaaK
namespace Go.Proofs.Ytpipgiacmkeinaa
open Go.RowKit

set_option maxRecDepth 100000 in
set_option maxHeartbeats 4000000 in
theorem walk_BitsPuts (w : World) (bv : Value) (l : List UInt8) (N : Int) (hb : Sl w 1 bv l.length (bc l)) (hl : l.length ≤ 140737488351232) (hN0 : -9223372036854775808 ≤ N) (hN : N ≤ 9223372036854775807)
    (u : Int) (hu0 : 0 ≤ u) (hu : u ≤ 18446744073709551615) (n : Int) (hn0 : -9223372036854775808 ≤ n) (hn : n ≤ 9223372036854775807) :
    Calls Try.prog 3 #[.agg #[bv, .int .i64 N], .int .u64 u, .int .i64 n] w fun e w' => e = .returned (.bool true) ∧ Below w.heap.size w w' := by
  obtain ⟨u, rfl⟩ := Int.eq_ofNat_of_zero_le hu0
  have hu' : u < 18446744073709551616 := by omega
  have hP := fun v wx (hx : Sl wx 1 v l.length (bc l)) => put_any v l N u n wx hN0 hN hu' hn0 hn (by omega) hx
  have hQ := fun v wx (hx : Sl wx 1 v l.length (bc l)) => refPut_any v l N u n wx hN0 hN hu' hn0 hn (by omega) hx
  have hrl : (putV l N u n).1.length ≤ 140737488356000 := by
    unfold putV
    split
    · simp
    · split
      · simp
      · have hh : ¬ (rightB l N = false ∨ n < 0 ∨ 64 < n) := by assumption
        have hR : rightB l N = true := by
          cases h : rightB l N
          · exact absurd (.inl h) hh
          · rfl
        obtain ⟨_, hRt⟩ := rightB_Rt hR
        show (putN l N.toNat u n.toNat).length ≤ _
        unfold putN
        rw [putTo_length hRt]
        have := hRt.1
        omega
  clear hu' hu0
  obtain ⟨r, hr⟩ : ∃ r, r = putV l N u n := ⟨_, rfl⟩
  obtain ⟨r1, r2, r3⟩ := r
  rw [← hr] at hP hQ hrl
  simp only at hrl
  have HP := hid hP; have HQ := hid hQ; have Hb := hid hb
  clear hP hQ hr hb
  go_enter Try.func3, Try.ntmps3
  go_wp2_with fail
  refine (lent_any bv l N _ (by omega) (Hb.out.alloc _)).mono ?_
  rintro e w1 ⟨g, cap, rfl, hb1, hown1⟩
  obtain ⟨x0, x1, x2⟩ := one_box hb1
  have O1 := hid (own_base hown1 (show w.heap.size ≤ _ by simp))
  clear hown1 hb1
  have L1 := hid x1
  have K1 := hid x0
  obtain ⟨a0, a1, _, _, _⟩ := blk2 x0
  clear x0 x1
  go_wp2_with fail
  have I1 := hid (Sl.cut (Sl.own O1.out) (ys := bc l) l.length (by omega) (by simp [bc]))
  refine (HP.out (.slice (some ⟨g, 0, none⟩) l.length cap) _ (I1.out.alloc _)).mono ?_
  rintro e w2 ⟨ao2, c2, rfl, hb2, hown2⟩
  obtain ⟨y0, y1, y2⟩ := one_box hb2
  have s1 := L1.out.size
  have L2 := hid y1
  have T2 := hid y0
  have K2 := hid (blk_below K1.out y1 x2)
  have O2 := hid (own_base hown2 (show w1.heap.size ≤ _ by simp))
  obtain ⟨a0, a1, _, _, _⟩ := blk2 K2.out
  obtain ⟨b0, b1, _, _, _⟩ := blk2 y0
  clear hown2 hb2 y0 y1
  go_wp2_with fail
  have I2 := hid (I1.out.below L2.out (fun _ _ h => h))
  refine (HP.out (.slice (some ⟨g, 0, none⟩) l.length cap) _ (I2.out.alloc _)).mono ?_
  rintro e w3 ⟨ao3, c3, rfl, hb3, hown3⟩
  obtain ⟨z0, z1, z2⟩ := one_box hb3
  have s2 := L2.out.size
  have L3 := hid z1
  have Y3 := hid z0
  have T3 := hid (blk_below T2.out z1 y2)
  have K3 := hid (blk_below K2.out z1 (by omega))
  have O3 := hid (own_base hown3 (show w2.heap.size ≤ _ by simp))
  obtain ⟨a0, a1, _, _, _⟩ := blk2 K3.out
  obtain ⟨b0, b1, _, _, _⟩ := blk2 T3.out
  obtain ⟨d0, d1, _, _, _⟩ := blk2 z0
  clear hown3 hb3 z0 z1
  go_wp2_with fail
  have s3 := L3.out.size
  have X3 := hid (Hb.out.below ((L1.out.trans (L2.out.mono s1)).trans (L3.out.mono (by omega))) (fun _ _ h => h))
  refine (HQ.out bv _ (X3.out.alloc _)).mono ?_
  rintro e w4 ⟨ao4, c4, rfl, hb4, hown4⟩
  obtain ⟨u0, u1, u2⟩ := one_box hb4
  have L4 := hid u1
  have Z4 := hid u0
  have Y4 := hid (blk_below Y3.out u1 z2)
  have T4 := hid (blk_below T3.out u1 (by omega))
  have K4 := hid (blk_below K3.out u1 (by omega))
  have O4 := hid (own_base hown4 (show w3.heap.size ≤ _ by simp))
  obtain ⟨a0, a1, _, _, _⟩ := blk2 K4.out
  obtain ⟨b0, b1, _, _, _⟩ := blk2 T4.out
  obtain ⟨d0, d1, _, _, _⟩ := blk2 Y4.out
  obtain ⟨f0, f1, _, _, _⟩ := blk2 u0
  clear hown4 hb4 u0 u1
  go_wp2_with fail
  have yS := hid (((Sl.own O2.out).below L3.out (fun k hk h => h)).below L4.out (fun k hk h => h))
  refine (same_any _ _ r1 r2 _ (yS.out.alloc _) ((Sl.own O4.out).alloc _)).mono ?_
  rintro e w5 ⟨rfl, hb5⟩
  obtain ⟨v0, v1, v2⟩ := one_box hb5
  have s4 := L4.out.size
  have L5 := hid v1
  have W5 := hid v0
  have Z5 := hid (blk_below Z4.out v1 u2)
  have Y5 := hid (blk_below Y4.out v1 (by omega))
  have T5 := hid (blk_below T4.out v1 (by omega))
  have K5 := hid (blk_below K4.out v1 (by omega))
  obtain ⟨a0, a1, _, _, _⟩ := blk2 K5.out
  obtain ⟨b0, b1, _, _, _⟩ := blk2 T5.out
  obtain ⟨d0, d1, _, _, _⟩ := blk2 Y5.out
  obtain ⟨f0, f1, _, _, _⟩ := blk2 Z5.out
  obtain ⟨h0, h1, _, _, _⟩ := blk2 v0
  clear hb5 v0 v1
  go_wp2_with fail
  have s5 := L5.out.size
  have D5 := hid ((((L1.out.trans (L2.out.mono s1)).trans (L3.out.mono (by omega))).trans (L4.out.mono (by omega))).trans (L5.out.mono (by omega)))
  have E5 := hid (((L2.out.trans (L3.out.mono (by omega))).trans (L4.out.mono (by omega))).trans (L5.out.mono (by omega)))
  refine (kept_any g cap bv l N w5 (by omega) (by have h := (Sl.own O1.out).below E5.out (fun _ _ h => h); exact h) (Hb.out.below D5.out (fun _ _ h => h))).mono ?_
  rintro e w6 ⟨rfl, hb6⟩
  have L6 := hid hb6
  have W6 := hid (blk_below W5.out hb6 v2)
  have Z6 := hid (blk_below Z5.out hb6 (by omega))
  have Y6 := hid (blk_below Y5.out hb6 (by omega))
  have T6 := hid (blk_below T5.out hb6 (by omega))
  have K6 := hid (blk_below K5.out hb6 (by omega))
  obtain ⟨a0, a1, _, _, _⟩ := blk2 K6.out
  obtain ⟨b0, b1, _, _, _⟩ := blk2 T6.out
  obtain ⟨d0, d1, _, _, _⟩ := blk2 Y6.out
  obtain ⟨f0, f1, _, _, _⟩ := blk2 Z6.out
  obtain ⟨h0, h1, _, _, _⟩ := blk2 W6.out
  clear hb6
  go_wp2_with fail
  have s6 := L6.out.size
  have Y26 := hid (((L3.out.trans (L4.out.mono (by omega))).trans (L5.out.mono (by omega))).trans (L6.out.mono (by omega)))
  have o26 := own_below O2.out Y26.out (Nat.le_refl _)
  refine (spoil_any (.slice ao2 r1.length c2) r1 w1.heap.size w6 hrl o26).mono ?_
  rintro e w7 ⟨rfl, hg7, l7, _, ho7⟩
  have G7 := hid hg7
  have s7 := hg7.size
  have W7 := hid (blk_grown W6.out hg7 (own_ne_blk o26 W6.out (by decide)))
  have Z7 := hid (blk_grown Z6.out hg7 (own_ne_blk o26 Z6.out (by decide)))
  have Y7 := hid (blk_grown Y6.out hg7 (own_ne_blk o26 Y6.out (by decide)))
  have T7 := hid (blk_grown T6.out hg7 (own_ne_blk o26 T6.out (by decide)))
  have K7 := hid (blk_grown K6.out hg7 (own_ne_blk o26 K6.out (by decide)))
  have hy2 : ∀ k, (Value.slice ao2 r1.length c2).ownBlock = some k → w1.heap.size ≤ k ∧ k < w2.heap.size := fun k hk => ⟨(O2.out.lt k hk).1, (O2.out.lt k hk).2⟩
  have L7 := hid ((Below.refl w1.heap.size w6).grown hg7 (by omega) (fun k hk => (hy2 k hk).1))
  have z7 : Sl w7 1 (.slice ao3 r1.length c3) r1.length (bc r1) := by
    refine Sl.grown (((((Sl.own O3.out).below L4.out (fun k hk h => h)).below L5.out (fun k hk h => h)).below L6.out (fun k hk h => h))) hg7 ?_
    cases hq : (Value.slice ao3 r1.length c3).ownBlock with
    | none => exact .inl rfl
    | some k =>
      refine .inr fun hh => ?_
      have h1 := (O3.out.lt k hq).1
      have h2 := (hy2 k hh.symm).2
      omega
  have w7s : Sl w7 1 (.slice ao4 r1.length c4) r1.length (bc r1) := by
    refine Sl.grown ((((Sl.own O4.out).below L5.out (fun k hk h => h)).below L6.out (fun k hk h => h))) hg7 ?_
    cases hq : (Value.slice ao4 r1.length c4).ownBlock with
    | none => exact .inl rfl
    | some k =>
      refine .inr fun hh => ?_
      have h1 := (O4.out.lt k hq).1
      have h2 := (hy2 k hh.symm).2
      omega
  have ZS := hid z7; have WS := hid w7s
  have E7 := hid ((E5.out.trans (L6.out.mono (by omega))).trans L7.out)
  have D7 := hid ((D5.out.trans (L6.out.mono (by omega))).trans (L7.out.mono s1))
  obtain ⟨a0, a1, _, _, _⟩ := blk2 K7.out
  obtain ⟨b0, b1, _, _, _⟩ := blk2 T7.out
  obtain ⟨f0, f1, _, _, _⟩ := blk2 Z7.out
  obtain ⟨h0, h1, _, _, _⟩ := blk2 W7.out
  clear hg7 ho7 o26 z7 w7s hy2
  go_wp2_with fail
  refine (same_any _ _ r1 r2 w7 ZS.out WS.out).mono ?_
  rintro e w8 ⟨rfl, hb8⟩
  have L8 := hid hb8
  have T8 := hid (blk_below T7.out hb8 (by omega))
  have K8 := hid (blk_below K7.out hb8 (by omega))
  obtain ⟨a0, a1, _, _, _⟩ := blk2 K8.out
  obtain ⟨b0, b1, _, _, _⟩ := blk2 T8.out
  have s8 := hb8.size
  clear hb8
  go_wp2_with fail
  have E8 := hid (E7.out.trans (L8.out.mono (by omega)))
  have D8 := hid (D7.out.trans (L8.out.mono (by omega)))
  refine (kept_any g cap bv l N w8 (by omega) (by have h := (Sl.own O1.out).below E8.out (fun _ _ h => h); exact h) (Hb.out.below D8.out (fun _ _ h => h))).mono ?_
  rintro e w9 ⟨rfl, hb9⟩
  have L9 := hid hb9
  have s9 := hb9.size
  clear hb9
  go_wp2_with fail
  refine (lives_any w9).mono ?_
  rintro e w10 ⟨rfl, hb10⟩
  have L10 := hid hb10
  clear hb10
  go_wp2
  go_ret
  exact ⟨rfl, (D8.out.trans (L9.out.mono (by omega))).trans (L10.out.mono (by omega))⟩
end Go.Proofs.Ytpipgiacmkeinaa
