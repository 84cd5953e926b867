/- The walk of WindowRises. -/
import Derived.Test.YtebjdiiogihcdaaWu
namespace Go.Proofs.Ytebjdiiogihcdaa
open Go.RowKit
set_option linter.unusedSimpArgs false

set_option maxRecDepth 100000 in
set_option maxHeartbeats 8000000 in
theorem walk_WindowRises (w : World) (v : Value) (l : List (Int × Int)) (hb : Sl w 2 v l.length (sc l)) (_h64 : S64 l) (hl : l.length ≤ 8796093022208) (r : Int) (hr0 : -9223372036854775808 ≤ r) (hr1 : r ≤ 9223372036854775807) :
    Calls Try.prog 5 #[v, .int .i64 r] w fun e w' => e = .returned (.bool true) ∧ Below w.heap.size w w' := by
  have HC := hid (refCheck_any v l w (by omega) hb)
  have HL := hid lives_any
  have Hb := hid hb
  clear hb
  rcases Bool.eq_false_or_eq_true (chkL l != 0) with hc | hc
  · generalize chkL l = ce at *
    go_enter Try.func5, Try.ntmps5
    go_wp2_with fail
    refine HC.out.mono ?_
    rintro e w1 ⟨rfl, hb1⟩
    have L1 := hid hb1
    clear hb1
    go_wp2_with fail
    refine (HL.out w1).mono ?_
    rintro e wz ⟨rfl, hbz⟩
    have LZ := hid (L1.out.trans (hbz.mono L1.out.size))
    clear hbz
    go_wp2
    go_ret
    exact ⟨rfl, LZ.out⟩
  have hcz : chkL l = 0 := by simpa using hc
  rw [hcz] at HC
  have hpos : 0 < l.length ∧ l.length ≤ 120 ∧ chkA none l = 0 := by
    unfold chkL at hcz
    split at hcz
    · cases hcz
    · rename_i h; exact ⟨by omega, by omega, hcz⟩
  obtain ⟨hp0, hp1, hch⟩ := hpos
  have HCH := hid hch
  clear hc hcz hch
  rcases Bool.eq_false_or_eq_true (decide (r < 1)) with d1 | d1
  · go_enter Try.func5, Try.ntmps5
    go_wp2_with fail
    refine HC.out.mono ?_
    rintro e w1 ⟨rfl, hb1⟩
    have L1 := hid hb1
    clear hb1
    go_wp2_with fail
    refine (HL.out w1).mono ?_
    rintro e wz ⟨rfl, hbz⟩
    have LZ := hid (L1.out.trans (hbz.mono L1.out.size))
    clear hbz
    go_wp2
    go_ret
    exact ⟨rfl, LZ.out⟩
  rcases Bool.eq_false_or_eq_true (decide (2147483648 < r)) with d2 | d2
  · go_enter Try.func5, Try.ntmps5
    go_wp2_with fail
    refine HC.out.mono ?_
    rintro e w1 ⟨rfl, hb1⟩
    have L1 := hid hb1
    clear hb1
    go_wp2_with fail
    refine (HL.out w1).mono ?_
    rintro e wz ⟨rfl, hbz⟩
    have LZ := hid (L1.out.trans (hbz.mono L1.out.size))
    clear hbz
    go_wp2
    go_ret
    exact ⟨rfl, LZ.out⟩
  obtain ⟨rn, hrn⟩ : ∃ rn : Nat, r = (rn : Int) := ⟨r.toNat, by have := of_decide_eq_false d1; omega⟩
  have hrn0 : 1 ≤ rn := by have := of_decide_eq_false d1; omega
  have hrn1 : rn ≤ 2147483648 := by have := of_decide_eq_false d2; omega
  obtain ⟨ao, c, rfl, hlc, hcm, _⟩ := Hb.out.shape
  obtain ⟨g, off, rfl, hbl, hcell⟩ := sc_cells Hb.out hp0
  have HCELL := hid hcell
  have SL := hid (fun wx (hx : Below w.heap.size w wx) => (Hb.out.below hx (fun j hj _ => by simp [Value.ownBlock] at hj; subst hj; exact hbl)))
  have CI := hid (fun wx hx => of_inc _ l wx HCH.out (by omega) (by omega) (SL.out wx hx))
  have CD := hid (fun wx hx => of_delta _ l wx HCH.out (by omega) (by omega) (SL.out wx hx))
  have CM := hid (fun wx hx => of_avg _ l wx HCH.out (by omega) (by omega) (SL.out wx hx))
  have CN := hid (fun wx hx => of_min _ l wx HCH.out (by omega) (by omega) (SL.out wx hx))
  have CX := hid (fun wx hx => of_max _ l wx HCH.out (by omega) (by omega) (SL.out wx hx))
  have CR := hid (fun wx hx => apply_rate _ l rn wx hrn0 hrn1 (by omega) (SL.out wx hx))
  rw [(minV_ok l).1] at CN
  rw [(maxV_ok l).1] at CX
  rw [← hrn] at CR
  obtain ⟨I, hI⟩ : ∃ I : Int × Bool, I = (if l.length < 2 then (0, false) else ((incV l).1, (incV l).2 == 0)) := ⟨_, rfl⟩
  obtain ⟨D, hD⟩ : ∃ D : Int × Bool, D = (if l.length < 2 then (0, false) else ((subV (l.getD (l.length - 1) (0, 0)).2 (firstV l)).1, (subV (l.getD (l.length - 1) (0, 0)).2 (firstV l)).2 == 0)) := ⟨_, rfl⟩
  obtain ⟨R, hR⟩ : ∃ R : Int × Bool × Int, R = apV 2 l rn (rateV l rn) := ⟨_, rfl⟩
  rw [← hI] at CI
  rw [← hD] at CD
  rw [← hrn] at hR
  rw [← hR] at CR
  have HID := hid (show fallTo l (l.length - 1) = false → I = D from fun h => by rw [hI, hD, inc_delta HCH.out hp0 h])
  have HAV := hid (show ((avgV l).2 == 0) = true → (minV l).1 ≤ (avgV l).1 ∧ (avgV l).1 ≤ (maxV l).1 from fun h => avg_between hp0 (by simpa using h))
  have HRS := hid (show I.2 = true → R.2.1 = true → R.2.2 = 0 → (0 ≤ I.1 ∧ 0 ≤ R.1) ∨ (¬ 0 ≤ I.1 ∧ ¬ 0 ≤ R.1) ∨ R.1 = 0 from fun h1 h2 h3 => by
    by_cases hlt : l.length < 2
    · rw [hI, if_pos hlt] at h1; cases h1
    · have e : R = ((rateV l rn).1, (rateV l rn).2 == 0, (rateV l rn).2) := by
        rw [hR]; unfold apV; rw [if_neg (by decide), if_neg (by omega), if_neg (by rw [HCH.out]; simp), if_neg hlt]
      rw [e] at h3 ⊢
      rw [hI, if_neg hlt]
      exact rate_sign l rn h3)
  generalize avgV l = m at *
  generalize (minV l).1 = lo at *
  generalize (maxV l).1 = hi at *
  obtain ⟨a, ok⟩ := I
  obtain ⟨b, is⟩ := D
  obtain ⟨rv, told, re⟩ := R
  obtain ⟨mv, me⟩ := m
  obtain ⟨has, hhas⟩ : ∃ h : Bool, h = (me == 0) := ⟨_, rfl⟩
  simp only at CI CD CM CR HID HAV HRS
  rw [← hhas] at CM HAV
  clear hI hD hR hhas hcell hrn
  unfold retO opS7 at CI
  unfold retO opS6 at CD
  unfold retO opS2 at CM
  unfold retO opS3 at CN
  unfold retO opS4 at CX
  unfold retA opS8 at CR
  unfold maxLen at hcm
  simp only at CR
  go_enter Try.func5, Try.ntmps5
  go_wp2_with fail
  refine HC.out.mono ?_
  rintro e w1 ⟨rfl, hb1⟩
  have L1 := hid hb1
  clear hb1
  go_wp2
  go_loopw [5, 6] (fun fv i wr => ∃ k, k < l.length ∧ i = .int .i64 (((k + 1 : Nat) : Nat) : Int) ∧ fv = .bool (fallTo l k) ∧ Below w.heap.size w wr)
    (fun _ i _ => l.length - (intOf i).toNat)
  case atStart => exact ⟨0, hp0, rfl, rfl, L1.out⟩
  case round =>
    obtain ⟨k, hk, rfl, rfl, hbel⟩ := hrel
    have L2 := hid hbel
    clear hbel
    by_cases hlt : k + 1 < l.length
    · have h1 : wr.cell? ⟨g, off + (k + 1) * 2 + 1, none⟩ = some (.int .i64 (l.getD (k + 1) (0, 0)).2) := by rw [World.cell?_of_block (L2.out.block g hbl)]; exact (HCELL.out (k + 1) hlt).2
      have h0 : wr.cell? ⟨g, off + k * 2 + 1, none⟩ = some (.int .i64 (l.getD k (0, 0)).2) := by rw [World.cell?_of_block (L2.out.block g hbl)]; exact (HCELL.out k hk).2
      have i0 : (0 : Int) ≤ (k : Int) := by omega
      have i1 : (k : Int) < (l.length : Int) := by omega
      have i2 : (k : Int) + 1 < (l.length : Int) := by omega
      have i3 : (0 : Int) ≤ (k : Int) + 1 := by omega
      have n1 : ((k : Int) + 1).toNat = k + 1 := by omega
      have kj : IntKind.i64.wrap (k : Int) = (k : Int) := IntWalk.i64_in _ (by omega)
      have HN := hid (show fallTo l (k + 1) = (fallTo l k || decide ((l.getD (k + 1) (0, 0)).2 < (l.getD k (0, 0)).2)) from rfl)
      generalize (l.getD (k + 1) (0, 0)).2 = v1 at *
      generalize (l.getD k (0, 0)).2 = v0 at *
      rcases Bool.eq_false_or_eq_true (fallTo l k) with hf | hf
      · rw [hf]
        rw [hf, Bool.true_or] at HN
        clear hf
        go_wp2
        go_quiet (fail)
        rename_i nq
        have L3 := hid (Below_drewN L2.out nq)
        generalize wr.drewN nq = W0 at *
        go_wp2
        go_roundw
        case rel => exact ⟨k + 1, hlt, by go_num, by rw [HN.out], L3.out⟩
        case measure => simp [intOf]; omega
      · rw [hf]
        rw [hf, Bool.false_or] at HN
        clear hf
        rcases Bool.eq_false_or_eq_true (decide (v1 < v0)) with hd | hd
        · rw [hd] at HN
          go_wp2
          go_quiet (fail)
          rename_i nq
          have L3 := hid (Below_drewN L2.out nq)
          generalize wr.drewN nq = W0 at *
          go_wp2
          go_roundw
          case rel => exact ⟨k + 1, hlt, by go_num, by rw [HN.out], L3.out⟩
          case measure => simp [intOf]; omega
        · rw [hd] at HN
          go_wp2
          go_quiet (fail)
          rename_i nq
          have L3 := hid (Below_drewN L2.out nq)
          generalize wr.drewN nq = W0 at *
          go_wp2
          go_roundw
          case rel => exact ⟨k + 1, hlt, by go_num, by rw [HN.out], L3.out⟩
          case measure => simp [intOf]; omega
    · have hkl : k = l.length - 1 := by omega
      rw [← hkl] at HID
      have hkl' : ((k + 1 : Nat) : Int) = (l.length : Int) := by omega
      rw [hkl']
      clear hkl hkl' hlt hk
      generalize fallTo l k = falls at *
      obtain ⟨w2, hw2⟩ : ∃ w2 : World, w2 = wr := ⟨_, rfl⟩
      rw [← hw2] at L2 ⊢
      clear hw2
      cases ok with
      | true =>
        cases falls with
        | true =>
          go_wp2_with fail
          refine (CI.out w2 L2.out).mono ?_
          rintro e w3 ⟨rfl, hb3⟩
          have L3 := hid (L2.out.trans (hb3.mono L2.out.size))
          clear hb3
          go_wp2_with fail
          refine (CD.out w3 L3.out).mono ?_
          rintro e w4 ⟨rfl, hb4⟩
          have L4 := hid (L3.out.trans (hb4.mono L3.out.size))
          clear hb4
          go_wp2_with fail
          refine (CM.out w4 L4.out).mono ?_
          rintro e w5 ⟨rfl, hb5⟩
          have L5 := hid (L4.out.trans (hb5.mono L4.out.size))
          clear hb5
          go_wp2_with fail
          refine (CN.out w5 L5.out).mono ?_
          rintro e w6 ⟨rfl, hb6⟩
          have L6 := hid (L5.out.trans (hb6.mono L5.out.size))
          clear hb6
          go_wp2_with fail
          refine (CX.out w6 L6.out).mono ?_
          rintro e w7 ⟨rfl, hb7⟩
          have L7 := hid (L6.out.trans (hb7.mono L6.out.size))
          clear hb7
          cases has with
          | false =>
            go_wp2_with fail
            refine (CR.out w7 L7.out).mono ?_
            rintro e w8 ⟨rfl, hb8⟩
            have L8 := hid (L7.out.trans (hb8.mono L7.out.size))
            clear hb8
            cases told with
            | false =>
              go_wp2_with fail
              refine (HL.out w8).mono ?_
              rintro e wz ⟨rfl, hbz⟩
              have LZ := hid (L8.out.trans (hbz.mono L8.out.size))
              clear hbz
              go_wp2
              go_ret
              exact ⟨rfl, LZ.out⟩
            | true =>
              rcases Bool.eq_false_or_eq_true (re != 0) with he | he
              · skip
                go_wp2_with fail
                refine (HL.out w8).mono ?_
                rintro e wz ⟨rfl, hbz⟩
                have LZ := hid (L8.out.trans (hbz.mono L8.out.size))
                clear hbz
                go_wp2
                go_ret
                exact ⟨rfl, LZ.out⟩
              · have hs := HRS.out (by first | rfl | trivial) (by first | rfl | trivial) (by simpa using he)
                rcases hs with ⟨s1, s2⟩ | ⟨s1, s2⟩ | s3
                · have t1 : decide (0 ≤ a) = true := decide_eq_true s1
                  have t2 : decide (0 ≤ rv) = true := decide_eq_true s2
                  clear s1 s2
                  go_wp2
                  go_ret
                  exact ⟨rfl, L8.out⟩
                · have t1 : decide (0 ≤ a) = false := decide_eq_false (by omega)
                  have t2 : decide (0 ≤ rv) = false := decide_eq_false (by omega)
                  clear s1 s2
                  go_wp2
                  go_ret
                  exact ⟨rfl, L8.out⟩
                · subst s3
                  rcases Bool.eq_false_or_eq_true (decide (0 ≤ a)) with t1 | t1
                  · go_wp2
                    go_ret
                    exact ⟨rfl, L8.out⟩
                  · go_wp2
                    go_ret
                    exact ⟨rfl, L8.out⟩
          | true =>
            obtain ⟨x1, x2⟩ := HAV.out rfl
            have e1 : decide (mv < lo) = false := decide_eq_false (by omega)
            have e2 : decide (hi < mv) = false := decide_eq_false (by omega)
            go_wp2_with fail
            refine (CR.out w7 L7.out).mono ?_
            rintro e w8 ⟨rfl, hb8⟩
            have L8 := hid (L7.out.trans (hb8.mono L7.out.size))
            clear hb8
            cases told with
            | false =>
              go_wp2_with fail
              refine (HL.out w8).mono ?_
              rintro e wz ⟨rfl, hbz⟩
              have LZ := hid (L8.out.trans (hbz.mono L8.out.size))
              clear hbz
              go_wp2
              go_ret
              exact ⟨rfl, LZ.out⟩
            | true =>
              rcases Bool.eq_false_or_eq_true (re != 0) with he | he
              · skip
                go_wp2_with fail
                refine (HL.out w8).mono ?_
                rintro e wz ⟨rfl, hbz⟩
                have LZ := hid (L8.out.trans (hbz.mono L8.out.size))
                clear hbz
                go_wp2
                go_ret
                exact ⟨rfl, LZ.out⟩
              · have hs := HRS.out (by first | rfl | trivial) (by first | rfl | trivial) (by simpa using he)
                rcases hs with ⟨s1, s2⟩ | ⟨s1, s2⟩ | s3
                · have t1 : decide (0 ≤ a) = true := decide_eq_true s1
                  have t2 : decide (0 ≤ rv) = true := decide_eq_true s2
                  clear s1 s2
                  go_wp2
                  go_ret
                  exact ⟨rfl, L8.out⟩
                · have t1 : decide (0 ≤ a) = false := decide_eq_false (by omega)
                  have t2 : decide (0 ≤ rv) = false := decide_eq_false (by omega)
                  clear s1 s2
                  go_wp2
                  go_ret
                  exact ⟨rfl, L8.out⟩
                · subst s3
                  rcases Bool.eq_false_or_eq_true (decide (0 ≤ a)) with t1 | t1
                  · go_wp2
                    go_ret
                    exact ⟨rfl, L8.out⟩
                  · go_wp2
                    go_ret
                    exact ⟨rfl, L8.out⟩
        | false =>
          have hid2 := HID.out rfl
          simp only [Prod.mk.injEq] at hid2
          obtain ⟨rfl, rfl⟩ := hid2
          go_wp2_with fail
          refine (CI.out w2 L2.out).mono ?_
          rintro e w3 ⟨rfl, hb3⟩
          have L3 := hid (L2.out.trans (hb3.mono L2.out.size))
          clear hb3
          go_wp2_with fail
          refine (CD.out w3 L3.out).mono ?_
          rintro e w4 ⟨rfl, hb4⟩
          have L4 := hid (L3.out.trans (hb4.mono L3.out.size))
          clear hb4
          go_wp2_with fail
          refine (CM.out w4 L4.out).mono ?_
          rintro e w5 ⟨rfl, hb5⟩
          have L5 := hid (L4.out.trans (hb5.mono L4.out.size))
          clear hb5
          go_wp2_with fail
          refine (CN.out w5 L5.out).mono ?_
          rintro e w6 ⟨rfl, hb6⟩
          have L6 := hid (L5.out.trans (hb6.mono L5.out.size))
          clear hb6
          go_wp2_with fail
          refine (CX.out w6 L6.out).mono ?_
          rintro e w7 ⟨rfl, hb7⟩
          have L7 := hid (L6.out.trans (hb7.mono L6.out.size))
          clear hb7
          cases has with
          | false =>
            go_wp2_with fail
            refine (CR.out w7 L7.out).mono ?_
            rintro e w8 ⟨rfl, hb8⟩
            have L8 := hid (L7.out.trans (hb8.mono L7.out.size))
            clear hb8
            cases told with
            | false =>
              go_wp2_with fail
              refine (HL.out w8).mono ?_
              rintro e wz ⟨rfl, hbz⟩
              have LZ := hid (L8.out.trans (hbz.mono L8.out.size))
              clear hbz
              go_wp2
              go_ret
              exact ⟨rfl, LZ.out⟩
            | true =>
              rcases Bool.eq_false_or_eq_true (re != 0) with he | he
              · skip
                go_wp2_with fail
                refine (HL.out w8).mono ?_
                rintro e wz ⟨rfl, hbz⟩
                have LZ := hid (L8.out.trans (hbz.mono L8.out.size))
                clear hbz
                go_wp2
                go_ret
                exact ⟨rfl, LZ.out⟩
              · have hs := HRS.out (by first | rfl | trivial) (by first | rfl | trivial) (by simpa using he)
                rcases hs with ⟨s1, s2⟩ | ⟨s1, s2⟩ | s3
                · have t1 : decide (0 ≤ a) = true := decide_eq_true s1
                  have t2 : decide (0 ≤ rv) = true := decide_eq_true s2
                  clear s1 s2
                  go_wp2
                  go_ret
                  exact ⟨rfl, L8.out⟩
                · have t1 : decide (0 ≤ a) = false := decide_eq_false (by omega)
                  have t2 : decide (0 ≤ rv) = false := decide_eq_false (by omega)
                  clear s1 s2
                  go_wp2
                  go_ret
                  exact ⟨rfl, L8.out⟩
                · subst s3
                  rcases Bool.eq_false_or_eq_true (decide (0 ≤ a)) with t1 | t1
                  · go_wp2
                    go_ret
                    exact ⟨rfl, L8.out⟩
                  · go_wp2
                    go_ret
                    exact ⟨rfl, L8.out⟩
          | true =>
            obtain ⟨x1, x2⟩ := HAV.out rfl
            have e1 : decide (mv < lo) = false := decide_eq_false (by omega)
            have e2 : decide (hi < mv) = false := decide_eq_false (by omega)
            go_wp2_with fail
            refine (CR.out w7 L7.out).mono ?_
            rintro e w8 ⟨rfl, hb8⟩
            have L8 := hid (L7.out.trans (hb8.mono L7.out.size))
            clear hb8
            cases told with
            | false =>
              go_wp2_with fail
              refine (HL.out w8).mono ?_
              rintro e wz ⟨rfl, hbz⟩
              have LZ := hid (L8.out.trans (hbz.mono L8.out.size))
              clear hbz
              go_wp2
              go_ret
              exact ⟨rfl, LZ.out⟩
            | true =>
              rcases Bool.eq_false_or_eq_true (re != 0) with he | he
              · skip
                go_wp2_with fail
                refine (HL.out w8).mono ?_
                rintro e wz ⟨rfl, hbz⟩
                have LZ := hid (L8.out.trans (hbz.mono L8.out.size))
                clear hbz
                go_wp2
                go_ret
                exact ⟨rfl, LZ.out⟩
              · have hs := HRS.out (by first | rfl | trivial) (by first | rfl | trivial) (by simpa using he)
                rcases hs with ⟨s1, s2⟩ | ⟨s1, s2⟩ | s3
                · have t1 : decide (0 ≤ a) = true := decide_eq_true s1
                  have t2 : decide (0 ≤ rv) = true := decide_eq_true s2
                  clear s1 s2
                  go_wp2
                  go_ret
                  exact ⟨rfl, L8.out⟩
                · have t1 : decide (0 ≤ a) = false := decide_eq_false (by omega)
                  have t2 : decide (0 ≤ rv) = false := decide_eq_false (by omega)
                  clear s1 s2
                  go_wp2
                  go_ret
                  exact ⟨rfl, L8.out⟩
                · subst s3
                  rcases Bool.eq_false_or_eq_true (decide (0 ≤ a)) with t1 | t1
                  · go_wp2
                    go_ret
                    exact ⟨rfl, L8.out⟩
                  · go_wp2
                    go_ret
                    exact ⟨rfl, L8.out⟩
      | false =>
        cases falls with
        | true =>
          go_wp2_with fail
          refine (CI.out w2 L2.out).mono ?_
          rintro e w3 ⟨rfl, hb3⟩
          have L3 := hid (L2.out.trans (hb3.mono L2.out.size))
          clear hb3
          go_wp2_with fail
          refine (CD.out w3 L3.out).mono ?_
          rintro e w4 ⟨rfl, hb4⟩
          have L4 := hid (L3.out.trans (hb4.mono L3.out.size))
          clear hb4
          go_wp2_with fail
          refine (CM.out w4 L4.out).mono ?_
          rintro e w5 ⟨rfl, hb5⟩
          have L5 := hid (L4.out.trans (hb5.mono L4.out.size))
          clear hb5
          go_wp2_with fail
          refine (CN.out w5 L5.out).mono ?_
          rintro e w6 ⟨rfl, hb6⟩
          have L6 := hid (L5.out.trans (hb6.mono L5.out.size))
          clear hb6
          go_wp2_with fail
          refine (CX.out w6 L6.out).mono ?_
          rintro e w7 ⟨rfl, hb7⟩
          have L7 := hid (L6.out.trans (hb7.mono L6.out.size))
          clear hb7
          cases has with
          | false =>
            go_wp2_with fail
            refine (CR.out w7 L7.out).mono ?_
            rintro e w8 ⟨rfl, hb8⟩
            have L8 := hid (L7.out.trans (hb8.mono L7.out.size))
            clear hb8
            go_wp2_with fail
            refine (HL.out w8).mono ?_
            rintro e wz ⟨rfl, hbz⟩
            have LZ := hid (L8.out.trans (hbz.mono L8.out.size))
            clear hbz
            go_wp2
            go_ret
            exact ⟨rfl, LZ.out⟩
          | true =>
            obtain ⟨x1, x2⟩ := HAV.out rfl
            have e1 : decide (mv < lo) = false := decide_eq_false (by omega)
            have e2 : decide (hi < mv) = false := decide_eq_false (by omega)
            go_wp2_with fail
            refine (CR.out w7 L7.out).mono ?_
            rintro e w8 ⟨rfl, hb8⟩
            have L8 := hid (L7.out.trans (hb8.mono L7.out.size))
            clear hb8
            go_wp2_with fail
            refine (HL.out w8).mono ?_
            rintro e wz ⟨rfl, hbz⟩
            have LZ := hid (L8.out.trans (hbz.mono L8.out.size))
            clear hbz
            go_wp2
            go_ret
            exact ⟨rfl, LZ.out⟩
        | false =>
          have hid2 := HID.out rfl
          simp only [Prod.mk.injEq] at hid2
          obtain ⟨rfl, rfl⟩ := hid2
          go_wp2_with fail
          refine (CI.out w2 L2.out).mono ?_
          rintro e w3 ⟨rfl, hb3⟩
          have L3 := hid (L2.out.trans (hb3.mono L2.out.size))
          clear hb3
          go_wp2_with fail
          refine (CD.out w3 L3.out).mono ?_
          rintro e w4 ⟨rfl, hb4⟩
          have L4 := hid (L3.out.trans (hb4.mono L3.out.size))
          clear hb4
          go_wp2_with fail
          refine (CM.out w4 L4.out).mono ?_
          rintro e w5 ⟨rfl, hb5⟩
          have L5 := hid (L4.out.trans (hb5.mono L4.out.size))
          clear hb5
          go_wp2_with fail
          refine (CN.out w5 L5.out).mono ?_
          rintro e w6 ⟨rfl, hb6⟩
          have L6 := hid (L5.out.trans (hb6.mono L5.out.size))
          clear hb6
          go_wp2_with fail
          refine (CX.out w6 L6.out).mono ?_
          rintro e w7 ⟨rfl, hb7⟩
          have L7 := hid (L6.out.trans (hb7.mono L6.out.size))
          clear hb7
          cases has with
          | false =>
            go_wp2_with fail
            refine (CR.out w7 L7.out).mono ?_
            rintro e w8 ⟨rfl, hb8⟩
            have L8 := hid (L7.out.trans (hb8.mono L7.out.size))
            clear hb8
            go_wp2_with fail
            refine (HL.out w8).mono ?_
            rintro e wz ⟨rfl, hbz⟩
            have LZ := hid (L8.out.trans (hbz.mono L8.out.size))
            clear hbz
            go_wp2
            go_ret
            exact ⟨rfl, LZ.out⟩
          | true =>
            obtain ⟨x1, x2⟩ := HAV.out rfl
            have e1 : decide (mv < lo) = false := decide_eq_false (by omega)
            have e2 : decide (hi < mv) = false := decide_eq_false (by omega)
            go_wp2_with fail
            refine (CR.out w7 L7.out).mono ?_
            rintro e w8 ⟨rfl, hb8⟩
            have L8 := hid (L7.out.trans (hb8.mono L7.out.size))
            clear hb8
            go_wp2_with fail
            refine (HL.out w8).mono ?_
            rintro e wz ⟨rfl, hbz⟩
            have LZ := hid (L8.out.trans (hbz.mono L8.out.size))
            clear hbz
            go_wp2
            go_ret
            exact ⟨rfl, LZ.out⟩
end Go.Proofs.Ytebjdiiogihcdaa
