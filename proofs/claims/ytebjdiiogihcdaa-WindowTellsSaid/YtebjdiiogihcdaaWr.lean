/- The walk of WindowParts. -/
import Derived.Test.YtebjdiiogihcdaaWq
namespace Go.Proofs.Ytebjdiiogihcdaa
open Go.RowKit
set_option linter.unusedSimpArgs false

set_option maxRecDepth 100000 in
set_option maxHeartbeats 8000000 in
theorem walk_WindowParts (w : World) (v : Value) (l : List (Int × Int)) (hb : Sl w 2 v l.length (sc l)) (_h64 : S64 l) (hl : l.length ≤ 8796093022208) (cut : Int) (hc0 : -9223372036854775808 ≤ cut) (hc1 : cut ≤ 9223372036854775807) :
    Calls Try.prog 4 #[v, .int .i64 cut] w fun e w' => e = .returned (.bool true) ∧ Below w.heap.size w w' := by
  have HC := hid (refCheck_any v l w (by omega) hb)
  have HL := hid lives_any
  have Hb := hid hb
  clear hb
  rcases Bool.eq_false_or_eq_true (chkL l != 0) with hc | hc
  · generalize chkL l = ce at *
    go_enter Try.func4, Try.ntmps4
    go_wp2_with fail
    refine HC.out.mono ?_
    rintro e w1 ⟨rfl, hb1⟩
    have L1 := hid hb1
    clear hb1
    go_wp2_with fail
    refine (HL.out w1).mono ?_
    rintro e wz ⟨rfl, hbz⟩
    have LZ := hid (L1.out.trans (hbz.mono L1.out.size))
    clear hbz
    go_wp2
    go_ret
    exact ⟨rfl, LZ.out⟩
  have hcz : chkL l = 0 := by simpa using hc
  rw [hcz] at HC
  have hpos : 0 < l.length ∧ l.length ≤ 120 ∧ chkA none l = 0 := by
    unfold chkL at hcz
    split at hcz
    · cases hcz
    · rename_i h; exact ⟨by omega, by omega, hcz⟩
  obtain ⟨hp0, hp1, hch⟩ := hpos
  have HCH := hid hch
  clear hc hcz hch
  obtain ⟨U, hU⟩ : ∃ U : Nat, IntKind.u64.wrap cut = (U : Int) := ⟨(IntKind.u64.wrap cut).toNat, by rw [IntKind.wrap_u64]; omega⟩
  have u1 : IntKind.i64.wrap ((l.length : Int) + 1) = (l.length : Int) + 1 := IntWalk.i64_in _ (by omega)
  have u2 : IntKind.u64.wrap ((l.length : Int) + 1) = (l.length : Int) + 1 := by rw [IntKind.wrap_u64]; omega
  have u2' : IntKind.u64.wrap (l.length : Int) = (l.length : Int) := by rw [IntKind.wrap_u64]; omega
  obtain ⟨k, hk⟩ : ∃ k : Nat, k = U % (l.length + 1) := ⟨_, rfl⟩
  have hkl : k ≤ l.length := by have := Nat.mod_lt U (show 0 < l.length + 1 by omega); omega
  have u3 : (U : Int) % ((l.length : Int) + 1) = (k : Int) := by rw [hk]; push_cast; rfl
  have u4 : IntKind.i64.wrap (k : Int) = (k : Int) := IntWalk.i64_in _ (by omega)
  have u5 : IntKind.u64.wrap (k : Int) = (k : Int) := by rw [IntKind.wrap_u64]; omega
  have u6 : ((l.length : Int) + 1 == 0) = false := by simp; omega
  have u7 : ¬ ((l.length : Int) + 1 = 0) := by omega
  clear hk
  obtain ⟨ao, c, rfl, hlc, hcm, _⟩ := Hb.out.shape
  obtain ⟨g, off, rfl, hbl, _⟩ := sc_cells Hb.out hp0
  rcases Bool.eq_false_or_eq_true ((k : Int) == 0) with hk0 | hk0
  · go_enter Try.func4, Try.ntmps4
    go_wp2_with fail
    refine HC.out.mono ?_
    rintro e w1 ⟨rfl, hb1⟩
    have L1 := hid hb1
    clear hb1
    go_wp2_with fail
    refine (HL.out w1).mono ?_
    rintro e wz ⟨rfl, hbz⟩
    have LZ := hid (L1.out.trans (hbz.mono L1.out.size))
    clear hbz
    go_wp2
    go_ret
    exact ⟨rfl, LZ.out⟩
  rcases Bool.eq_false_or_eq_true ((k : Int) == (l.length : Int)) with hk1 | hk1
  · go_enter Try.func4, Try.ntmps4
    go_wp2_with fail
    refine HC.out.mono ?_
    rintro e w1 ⟨rfl, hb1⟩
    have L1 := hid hb1
    clear hb1
    go_wp2_with fail
    refine (HL.out w1).mono ?_
    rintro e wz ⟨rfl, hbz⟩
    have LZ := hid (L1.out.trans (hbz.mono L1.out.size))
    clear hbz
    go_wp2
    go_ret
    exact ⟨rfl, LZ.out⟩
  have k0 : 0 < k := by (have h : ¬ (k : Int) = 0 := by simpa using hk0); omega
  have k1 : k < l.length := by (have h : ¬ (k : Int) = (l.length : Int) := by simpa using hk1); omega
  have LA : (l.take k).length = k := by simp; omega
  have LB : (l.drop k).length = l.length - k := by simp
  have SL := hid (fun wx (hx : Below w.heap.size w wx) => (Hb.out.below hx (fun j hj _ => by simp [Value.ownBlock] at hj; subst hj; exact hbl)))
  have SA := hid (show ∀ wx, Below w.heap.size w wx → Sl wx 2 (.slice (some ⟨g, off, none⟩) k c) (l.take k).length (sc (l.take k)) from fun wx hx => by rw [LA]; exact (SL.out wx hx).cut2 k hkl (sc_take l k))
  have SB := hid (show ∀ wx, Below w.heap.size w wx → Sl wx 2 (.slice (some ⟨g, off + k * 2, none⟩) (l.length - k) (c - k)) (l.drop k).length (sc (l.drop k)) from fun wx hx => by rw [LB]; exact (SL.out wx hx).drop2 k hkl (sc_drop l k))
  have RA := hid (rise_take HCH.out k); have RB := hid (rise_drop HCH.out k)
  have CL := hid (fun wx hx => of_count _ l wx HCH.out (by omega) (by omega) (SL.out wx hx))
  have CA := hid (fun wx hx => of_count _ _ wx RA.out (by omega) (by omega) (SA.out wx hx))
  have CB := hid (fun wx hx => of_count _ _ wx RB.out (by omega) (by omega) (SB.out wx hx))
  rw [LA] at CA
  rw [LB] at CB
  have XL := hid (fun wx hx => of_max _ l wx HCH.out (by omega) (by omega) (SL.out wx hx))
  have XA := hid (fun wx hx => of_max _ _ wx RA.out (by omega) (by omega) (SA.out wx hx))
  have XB := hid (fun wx hx => of_max _ _ wx RB.out (by omega) (by omega) (SB.out wx hx))
  rw [(maxV_ok l).1] at XL
  rw [(maxV_ok (l.take k)).1] at XA
  rw [(maxV_ok (l.drop k)).1] at XB
  have NL := hid (fun wx hx => of_min _ l wx HCH.out (by omega) (by omega) (SL.out wx hx))
  have NA := hid (fun wx hx => of_min _ _ wx RA.out (by omega) (by omega) (SA.out wx hx))
  have NB := hid (fun wx hx => of_min _ _ wx RB.out (by omega) (by omega) (SB.out wx hx))
  rw [(minV_ok l).1] at NL
  rw [(minV_ok (l.take k)).1] at NA
  rw [(minV_ok (l.drop k)).1] at NB
  have TL := hid (fun wx hx => of_sum _ l wx HCH.out (by omega) (by omega) (SL.out wx hx))
  have TA := hid (fun wx hx => of_sum _ _ wx RA.out (by omega) (by omega) (SA.out wx hx))
  have TB := hid (fun wx hx => of_sum _ _ wx RB.out (by omega) (by omega) (SB.out wx hx))
  have hmax := max_parts l k k0 k1
  have hmin := min_parts l k k0 k1
  have hsum := hid (sum_parts l k k0 k1)
  have hfit := hid (show (sumV l).2 = 0 → -9223372036854775808 ≤ (sumV l).1 ∧ (sumV l).1 ≤ 9223372036854775807 from fun h => sumV_fit hp0 HCH.out h)
  generalize (maxV l).1 = M at *
  generalize (maxV (l.take k)).1 = MA at *
  generalize (maxV (l.drop k)).1 = MB at *
  generalize (minV l).1 = m at *
  generalize (minV (l.take k)).1 = mA at *
  generalize (minV (l.drop k)).1 = mB at *
  generalize sumV l = s at *
  generalize sumV (l.take k) = sA at *
  generalize sumV (l.drop k) = sB at *
  have npq : IntKind.i64.wrap ((k : Int) * 1000000 + ((l.length - k : Nat) : Int) * 1000000) = (l.length : Int) * 1000000 := by
    rw [show (k : Int) * 1000000 + ((l.length - k : Nat) : Int) * 1000000 = (l.length : Int) * 1000000 by omega]
    exact IntWalk.i64_in _ (by omega)
  obtain ⟨n, hn⟩ : ∃ n : Int, n = (l.length : Int) * 1000000 := ⟨_, rfl⟩
  obtain ⟨p, hp⟩ : ∃ p : Int, p = (k : Int) * 1000000 := ⟨_, rfl⟩
  obtain ⟨q, hq⟩ : ∃ q : Int, q = ((l.length - k : Nat) : Int) * 1000000 := ⟨_, rfl⟩
  rw [← hn] at CL npq
  rw [← hp] at CA npq
  rw [← hq] at CB npq
  clear hn hp hq LA LB
  unfold retO opS0 at CL CA CB
  unfold retO opS4 at XL XA XB
  unfold retO opS3 at NL NA NB
  unfold retO opS1 at TL TA TB
  have i1 : (k : Int) ≤ (l.length : Int) := by omega
  have i2 : k ≤ c := by omega
  have i3 : ¬ c = k := by omega
  have i4 : (0 : Int) ≤ (k : Int) := by omega
  unfold maxLen at hcm
  go_enter Try.func4, Try.ntmps4
  go_wp2_with fail
  refine HC.out.mono ?_
  rintro e w1 ⟨rfl, hb1⟩
  have L1 := hid hb1
  clear hb1
  go_wp2
  go_quiet (fail)
  rename_i nq
  have L2 := hid (Below_drewN L1.out nq)
  have L2' := hid (show Below w.heap.size w (w1.drewN nq) from L2.out)
  clear L2
  generalize w1.drewN nq = w2 at *
  have L2 := L2'
  clear L2'
  go_wp2_with fail
  refine (CL.out w2 L2.out).mono ?_
  rintro e w3 ⟨rfl, hb3⟩
  have L3 := hid (L2.out.trans (hb3.mono L2.out.size))
  clear hb3
  go_wp2_with fail
  refine (CA.out w3 L3.out).mono ?_
  rintro e w4 ⟨rfl, hb4⟩
  have L4 := hid (L3.out.trans (hb4.mono L3.out.size))
  clear hb4
  go_wp2_with fail
  refine (CB.out w4 L4.out).mono ?_
  rintro e w5 ⟨rfl, hb5⟩
  have L5 := hid (L4.out.trans (hb5.mono L4.out.size))
  clear hb5
  go_wp2_with fail
  refine (XL.out w5 L5.out).mono ?_
  rintro e w6 ⟨rfl, hb6⟩
  have L6 := hid (L5.out.trans (hb6.mono L5.out.size))
  clear hb6
  go_wp2_with fail
  refine (XA.out w6 L6.out).mono ?_
  rintro e w7 ⟨rfl, hb7⟩
  have L7 := hid (L6.out.trans (hb7.mono L6.out.size))
  clear hb7
  go_wp2_with fail
  refine (XB.out w7 L7.out).mono ?_
  rintro e w8 ⟨rfl, hb8⟩
  have L8 := hid (L7.out.trans (hb8.mono L7.out.size))
  clear hb8
  go_wp2_with fail
  refine (NL.out w8 L8.out).mono ?_
  rintro e w9 ⟨rfl, hb9⟩
  have L9 := hid (L8.out.trans (hb9.mono L8.out.size))
  clear hb9
  go_wp2_with fail
  refine (NA.out w9 L9.out).mono ?_
  rintro e w10 ⟨rfl, hb10⟩
  have L10 := hid (L9.out.trans (hb10.mono L9.out.size))
  clear hb10
  go_wp2_with fail
  refine (NB.out w10 L10.out).mono ?_
  rintro e w11 ⟨rfl, hb11⟩
  have L11 := hid (L10.out.trans (hb11.mono L10.out.size))
  clear hb11
  rcases Decidable.em (MA < MB) with g1 | g1
  · obtain rfl : M = MB := by omega
    rcases Decidable.em (mB < mA) with g2 | g2
    · obtain rfl : m = mB := by omega
      clear hmax hmin
      go_wp2_with fail
      refine (TL.out w11 L11.out).mono ?_
      rintro e w12 ⟨rfl, hb12⟩
      have L12 := hid (L11.out.trans (hb12.mono L11.out.size))
      clear hb12
      go_wp2_with fail
      refine (TA.out w12 L12.out).mono ?_
      rintro e w13 ⟨rfl, hb13⟩
      have L13 := hid (L12.out.trans (hb13.mono L12.out.size))
      clear hb13
      go_wp2_with fail
      refine (TB.out w13 L13.out).mono ?_
      rintro e w14 ⟨rfl, hb14⟩
      have L14 := hid (L13.out.trans (hb14.mono L13.out.size))
      clear hb14
      rcases Bool.eq_false_or_eq_true (s.2 == 0) with e1 | e1
      · rcases Bool.eq_false_or_eq_true (sA.2 == 0) with e2 | e2
        · rcases Bool.eq_false_or_eq_true (sB.2 == 0) with e3 | e3
          · have E := hsum.out (by simpa using e1) (by simpa using e2) (by simpa using e3)
            have kw : IntKind.i64.wrap (sA.1 + sB.1) = sA.1 + sB.1 := by
              rw [← E]
              exact IntWalk.i64_in _ (by have := hfit.out (by simpa using e1); omega)
            rw [E]
            clear E
            go_wp2_with fail
            refine (HL.out w14).mono ?_
            rintro e wz ⟨rfl, hbz⟩
            have LZ := hid (L14.out.trans (hbz.mono L14.out.size))
            clear hbz
            go_wp2
            go_ret
            exact ⟨rfl, LZ.out⟩
          · skip
            go_wp2_with fail
            refine (HL.out w14).mono ?_
            rintro e wz ⟨rfl, hbz⟩
            have LZ := hid (L14.out.trans (hbz.mono L14.out.size))
            clear hbz
            go_wp2
            go_ret
            exact ⟨rfl, LZ.out⟩
        · skip
          go_wp2_with fail
          refine (HL.out w14).mono ?_
          rintro e wz ⟨rfl, hbz⟩
          have LZ := hid (L14.out.trans (hbz.mono L14.out.size))
          clear hbz
          go_wp2
          go_ret
          exact ⟨rfl, LZ.out⟩
      · skip
        go_wp2_with fail
        refine (HL.out w14).mono ?_
        rintro e wz ⟨rfl, hbz⟩
        have LZ := hid (L14.out.trans (hbz.mono L14.out.size))
        clear hbz
        go_wp2
        go_ret
        exact ⟨rfl, LZ.out⟩
    · obtain rfl : m = mA := by omega
      clear hmax hmin
      go_wp2_with fail
      refine (TL.out w11 L11.out).mono ?_
      rintro e w12 ⟨rfl, hb12⟩
      have L12 := hid (L11.out.trans (hb12.mono L11.out.size))
      clear hb12
      go_wp2_with fail
      refine (TA.out w12 L12.out).mono ?_
      rintro e w13 ⟨rfl, hb13⟩
      have L13 := hid (L12.out.trans (hb13.mono L12.out.size))
      clear hb13
      go_wp2_with fail
      refine (TB.out w13 L13.out).mono ?_
      rintro e w14 ⟨rfl, hb14⟩
      have L14 := hid (L13.out.trans (hb14.mono L13.out.size))
      clear hb14
      rcases Bool.eq_false_or_eq_true (s.2 == 0) with e1 | e1
      · rcases Bool.eq_false_or_eq_true (sA.2 == 0) with e2 | e2
        · rcases Bool.eq_false_or_eq_true (sB.2 == 0) with e3 | e3
          · have E := hsum.out (by simpa using e1) (by simpa using e2) (by simpa using e3)
            have kw : IntKind.i64.wrap (sA.1 + sB.1) = sA.1 + sB.1 := by
              rw [← E]
              exact IntWalk.i64_in _ (by have := hfit.out (by simpa using e1); omega)
            rw [E]
            clear E
            go_wp2_with fail
            refine (HL.out w14).mono ?_
            rintro e wz ⟨rfl, hbz⟩
            have LZ := hid (L14.out.trans (hbz.mono L14.out.size))
            clear hbz
            go_wp2
            go_ret
            exact ⟨rfl, LZ.out⟩
          · skip
            go_wp2_with fail
            refine (HL.out w14).mono ?_
            rintro e wz ⟨rfl, hbz⟩
            have LZ := hid (L14.out.trans (hbz.mono L14.out.size))
            clear hbz
            go_wp2
            go_ret
            exact ⟨rfl, LZ.out⟩
        · skip
          go_wp2_with fail
          refine (HL.out w14).mono ?_
          rintro e wz ⟨rfl, hbz⟩
          have LZ := hid (L14.out.trans (hbz.mono L14.out.size))
          clear hbz
          go_wp2
          go_ret
          exact ⟨rfl, LZ.out⟩
      · skip
        go_wp2_with fail
        refine (HL.out w14).mono ?_
        rintro e wz ⟨rfl, hbz⟩
        have LZ := hid (L14.out.trans (hbz.mono L14.out.size))
        clear hbz
        go_wp2
        go_ret
        exact ⟨rfl, LZ.out⟩
  · obtain rfl : M = MA := by omega
    rcases Decidable.em (mB < mA) with g2 | g2
    · obtain rfl : m = mB := by omega
      clear hmax hmin
      go_wp2_with fail
      refine (TL.out w11 L11.out).mono ?_
      rintro e w12 ⟨rfl, hb12⟩
      have L12 := hid (L11.out.trans (hb12.mono L11.out.size))
      clear hb12
      go_wp2_with fail
      refine (TA.out w12 L12.out).mono ?_
      rintro e w13 ⟨rfl, hb13⟩
      have L13 := hid (L12.out.trans (hb13.mono L12.out.size))
      clear hb13
      go_wp2_with fail
      refine (TB.out w13 L13.out).mono ?_
      rintro e w14 ⟨rfl, hb14⟩
      have L14 := hid (L13.out.trans (hb14.mono L13.out.size))
      clear hb14
      rcases Bool.eq_false_or_eq_true (s.2 == 0) with e1 | e1
      · rcases Bool.eq_false_or_eq_true (sA.2 == 0) with e2 | e2
        · rcases Bool.eq_false_or_eq_true (sB.2 == 0) with e3 | e3
          · have E := hsum.out (by simpa using e1) (by simpa using e2) (by simpa using e3)
            have kw : IntKind.i64.wrap (sA.1 + sB.1) = sA.1 + sB.1 := by
              rw [← E]
              exact IntWalk.i64_in _ (by have := hfit.out (by simpa using e1); omega)
            rw [E]
            clear E
            go_wp2_with fail
            refine (HL.out w14).mono ?_
            rintro e wz ⟨rfl, hbz⟩
            have LZ := hid (L14.out.trans (hbz.mono L14.out.size))
            clear hbz
            go_wp2
            go_ret
            exact ⟨rfl, LZ.out⟩
          · skip
            go_wp2_with fail
            refine (HL.out w14).mono ?_
            rintro e wz ⟨rfl, hbz⟩
            have LZ := hid (L14.out.trans (hbz.mono L14.out.size))
            clear hbz
            go_wp2
            go_ret
            exact ⟨rfl, LZ.out⟩
        · skip
          go_wp2_with fail
          refine (HL.out w14).mono ?_
          rintro e wz ⟨rfl, hbz⟩
          have LZ := hid (L14.out.trans (hbz.mono L14.out.size))
          clear hbz
          go_wp2
          go_ret
          exact ⟨rfl, LZ.out⟩
      · skip
        go_wp2_with fail
        refine (HL.out w14).mono ?_
        rintro e wz ⟨rfl, hbz⟩
        have LZ := hid (L14.out.trans (hbz.mono L14.out.size))
        clear hbz
        go_wp2
        go_ret
        exact ⟨rfl, LZ.out⟩
    · obtain rfl : m = mA := by omega
      clear hmax hmin
      go_wp2_with fail
      refine (TL.out w11 L11.out).mono ?_
      rintro e w12 ⟨rfl, hb12⟩
      have L12 := hid (L11.out.trans (hb12.mono L11.out.size))
      clear hb12
      go_wp2_with fail
      refine (TA.out w12 L12.out).mono ?_
      rintro e w13 ⟨rfl, hb13⟩
      have L13 := hid (L12.out.trans (hb13.mono L12.out.size))
      clear hb13
      go_wp2_with fail
      refine (TB.out w13 L13.out).mono ?_
      rintro e w14 ⟨rfl, hb14⟩
      have L14 := hid (L13.out.trans (hb14.mono L13.out.size))
      clear hb14
      rcases Bool.eq_false_or_eq_true (s.2 == 0) with e1 | e1
      · rcases Bool.eq_false_or_eq_true (sA.2 == 0) with e2 | e2
        · rcases Bool.eq_false_or_eq_true (sB.2 == 0) with e3 | e3
          · have E := hsum.out (by simpa using e1) (by simpa using e2) (by simpa using e3)
            have kw : IntKind.i64.wrap (sA.1 + sB.1) = sA.1 + sB.1 := by
              rw [← E]
              exact IntWalk.i64_in _ (by have := hfit.out (by simpa using e1); omega)
            rw [E]
            clear E
            go_wp2_with fail
            refine (HL.out w14).mono ?_
            rintro e wz ⟨rfl, hbz⟩
            have LZ := hid (L14.out.trans (hbz.mono L14.out.size))
            clear hbz
            go_wp2
            go_ret
            exact ⟨rfl, LZ.out⟩
          · skip
            go_wp2_with fail
            refine (HL.out w14).mono ?_
            rintro e wz ⟨rfl, hbz⟩
            have LZ := hid (L14.out.trans (hbz.mono L14.out.size))
            clear hbz
            go_wp2
            go_ret
            exact ⟨rfl, LZ.out⟩
        · skip
          go_wp2_with fail
          refine (HL.out w14).mono ?_
          rintro e wz ⟨rfl, hbz⟩
          have LZ := hid (L14.out.trans (hbz.mono L14.out.size))
          clear hbz
          go_wp2
          go_ret
          exact ⟨rfl, LZ.out⟩
      · skip
        go_wp2_with fail
        refine (HL.out w14).mono ?_
        rintro e wz ⟨rfl, hbz⟩
        have LZ := hid (L14.out.trans (hbz.mono L14.out.size))
        clear hbz
        go_wp2
        go_ret
        exact ⟨rfl, LZ.out⟩
end Go.Proofs.Ytebjdiiogihcdaa
