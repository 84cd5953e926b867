/- The walk of BitsNums. -/
import Derived.Test.YtpipgiacmkeinaaO
namespace Go.Proofs.Ytpipgiacmkeinaa
open Go.RowKit

set_option maxRecDepth 100000 in
set_option maxHeartbeats 4000000 in
theorem walk_BitsNums (w : World) (bv : Value) (l : List UInt8) (N : Int) (hb : Sl w 1 bv l.length (bc l)) (hl : l.length ≤ 140737488351232) (hN0 : -9223372036854775808 ≤ N) (hN : N ≤ 9223372036854775807)
    (u : Int) (hu0 : 0 ≤ u) (hu : u ≤ 18446744073709551615) (a : Int) (ha0 : -9223372036854775808 ≤ a) (ha : a ≤ 9223372036854775807) :
    Calls Try.prog 9 #[.agg #[bv, .int .i64 N], .int .u64 u, .int .i64 a] w fun e w' => e = .returned (.bool true) ∧ Below w.heap.size w w' := by
  obtain ⟨u, rfl⟩ := Int.eq_ofNat_of_zero_le hu0
  have hu' : u < 18446744073709551616 := by omega
  have hP := fun v wx (hx : Sl wx 1 v l.length (bc l)) => putNum_any v l N u wx hN0 hN hu' (by omega) hx
  have hQ := fun v wx (hx : Sl wx 1 v l.length (bc l)) => refPutNum_any v l N u wx hN0 hN hu' (by omega) hx
  have hG := fun v wx (hx : Sl wx 1 v l.length (bc l)) => getNum_any v l wx (by omega) hx N a hN0 hN ha0 ha
  have hR := fun v wx (hx : Sl wx 1 v l.length (bc l)) => refGetNum_any v l wx (by omega) hx N a hN0 hN ha0 ha
  clear hu' hu0
  obtain ⟨r, hr⟩ : ∃ r, r = putNumV l N u := ⟨_, rfl⟩
  obtain ⟨r1, r2, r3⟩ := r
  obtain ⟨q, hq⟩ : ∃ q, q = getNumV l N a := ⟨_, rfl⟩
  obtain ⟨q1, q2, q3⟩ := q
  rw [← hr] at hP hQ
  rw [← hq] at hG hR
  have HP := hid hP; have HQ := hid hQ; have Hb := hid hb; have HG := hid hG; have HR := hid hR
  clear hP hQ hr hb hG hR hq
  go_enter Try.func9, Try.ntmps9
  go_wp2_with fail
  refine (lent_any bv l N _ (by omega) (Hb.out.alloc _)).mono ?_
  rintro e w1 ⟨g, cap, rfl, hb1, hown1⟩
  obtain ⟨x0, x1, x2⟩ := one_box hb1
  have O1 := hid (own_base hown1 (show w.heap.size ≤ _ by simp))
  clear hown1 hb1
  have L1 := hid x1
  have K1 := hid x0
  obtain ⟨a0, a1, _, _, _⟩ := blk2 x0
  clear x0 x1
  go_wp2_with fail
  have I1 := hid (Sl.cut (Sl.own O1.out) (ys := bc l) l.length (by omega) (by simp [bc]))
  refine (HP.out (.slice (some ⟨g, 0, none⟩) l.length cap) _ (I1.out.alloc _)).mono ?_
  rintro e w2 ⟨ao2, c2, rfl, hb2, hown2⟩
  obtain ⟨y0, y1, y2⟩ := one_box hb2
  have s1 := L1.out.size
  have L2 := hid y1
  have T2 := hid y0
  have K2 := hid (blk_below K1.out y1 x2)
  have O2 := hid (own_base hown2 (show w1.heap.size ≤ _ by simp))
  obtain ⟨a0, a1, _, _, _⟩ := blk2 K2.out
  obtain ⟨b0, b1, _, _, _⟩ := blk2 y0
  clear hown2 hb2 y0 y1
  go_wp2_with fail
  have s2 := L2.out.size
  have X2 := hid (Hb.out.below (L1.out.trans (L2.out.mono s1)) (fun _ _ h => h))
  refine (HQ.out bv _ (X2.out.alloc _)).mono ?_
  rintro e w3 ⟨ao3, c3, rfl, hb3, hown3⟩
  obtain ⟨z0, z1, z2⟩ := one_box hb3
  have L3 := hid z1
  have Y3 := hid z0
  have T3 := hid (blk_below T2.out z1 y2)
  have K3 := hid (blk_below K2.out z1 (by omega))
  have O3 := hid (own_base hown3 (show w2.heap.size ≤ _ by simp))
  obtain ⟨a0, a1, _, _, _⟩ := blk2 K3.out
  obtain ⟨b0, b1, _, _, _⟩ := blk2 T3.out
  obtain ⟨d0, d1, _, _, _⟩ := blk2 z0
  clear hown3 hb3 z0 z1
  go_wp2_with fail
  have s3 := L3.out.size
  have D3 := hid ((L1.out.trans (L2.out.mono s1)).trans (L3.out.mono (by omega)))
  have I3 := hid ((I1.out.below L2.out (fun _ _ h => h)).below L3.out (fun _ _ h => h))
  refine (HG.out (.slice (some ⟨g, 0, none⟩) l.length cap) _ (I3.out.alloc _)).mono ?_
  rintro e w4 ⟨rfl, hb4⟩
  obtain ⟨u0, u1, u2⟩ := one_box hb4
  have L4 := hid u1
  have Z4 := hid u0
  have Y4 := hid (blk_below Y3.out u1 z2)
  have T4 := hid (blk_below T3.out u1 (by omega))
  have K4 := hid (blk_below K3.out u1 (by omega))
  obtain ⟨a0, a1, _, _, _⟩ := blk2 K4.out
  obtain ⟨b0, b1, _, _, _⟩ := blk2 T4.out
  obtain ⟨d0, d1, _, _, _⟩ := blk2 Y4.out
  obtain ⟨f0, f1, _, _, _⟩ := blk2 u0
  clear hb4 u0 u1
  go_wp2_with fail
  have s4 := L4.out.size
  have D4 := hid (D3.out.trans (L4.out.mono (by omega)))
  refine (HR.out bv _ (Hb.out.below D4.out (fun _ _ h => h))).mono ?_
  rintro e w5 ⟨rfl, hb5⟩
  have L5 := hid hb5
  have Z5 := hid (blk_below Z4.out hb5 (by omega))
  have Y5 := hid (blk_below Y4.out hb5 (by omega))
  have T5 := hid (blk_below T4.out hb5 (by omega))
  have K5 := hid (blk_below K4.out hb5 (by omega))
  obtain ⟨a0, a1, _, _, _⟩ := blk2 K5.out
  obtain ⟨b0, b1, _, _, _⟩ := blk2 T5.out
  obtain ⟨d0, d1, _, _, _⟩ := blk2 Y5.out
  obtain ⟨f0, f1, _, _, _⟩ := blk2 Z5.out
  clear hb5
  go_wp2_with fail
  have s5 := L5.out.size
  have D5 := hid (D4.out.trans (L5.out.mono (by omega)))
  have yS := hid ((((Sl.own O2.out).below L3.out (fun k hk h => h)).below L4.out (fun k hk h => h)).below L5.out (fun k hk h => h))
  have zS := hid (((Sl.own O3.out).below L4.out (fun k hk h => h)).below L5.out (fun k hk h => h))
  refine (same_any _ _ r1 r2 w5 yS.out zS.out).mono ?_
  rintro e w6 ⟨rfl, hb6⟩
  have L6 := hid hb6
  have T6 := hid (blk_below T5.out hb6 (by omega))
  have K6 := hid (blk_below K5.out hb6 (by omega))
  obtain ⟨a0, a1, _, _, _⟩ := blk2 K6.out
  obtain ⟨b0, b1, _, _, _⟩ := blk2 T6.out
  have s6 := hb6.size
  clear hb6
  go_wp2_with fail
  have D6 := hid (D5.out.trans (L6.out.mono (by omega)))
  have E6 := hid ((((L2.out.trans (L3.out.mono (by omega))).trans (L4.out.mono (by omega))).trans (L5.out.mono (by omega))).trans (L6.out.mono (by omega)))
  refine (kept_any g cap bv l N w6 (by omega) (by have h := (Sl.own O1.out).below E6.out (fun _ _ h => h); exact h) (Hb.out.below D6.out (fun _ _ h => h))).mono ?_
  rintro e w7 ⟨rfl, hb7⟩
  have L7 := hid hb7
  have s7 := hb7.size
  clear hb7
  go_wp2_with fail
  refine (lives_any w7).mono ?_
  rintro e w8 ⟨rfl, hb8⟩
  have L8 := hid hb8; clear hb8
  go_wp2
  go_ret
  exact ⟨rfl, (D6.out.trans (L7.out.mono (by omega))).trans (L8.out.mono (by omega))⟩
end Go.Proofs.Ytpipgiacmkeinaa
