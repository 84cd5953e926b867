/- the reference's increase, least. -/
import Derived.Test.YtebjdiiogihcdaaRe
namespace Go.Proofs.Ytebjdiiogihcdaa
open Go.RowKit
set_option linter.unusedSimpArgs false

set_option maxRecDepth 100000 in
set_option maxHeartbeats 4000000 in
theorem refInc_any (v : Value) (l : List (Int × Int)) (w : World) (hn : 1 ≤ l.length) (hl : l.length ≤ 10000000000000) (hb : Sl w 1 v l.length (iz (vals l))) :
    Calls Try.prog 47 #[v] w fun e w' => e = two (incV l) ∧ Below w.heap.size w w' := by
  have Hb := hid hb
  obtain ⟨ao, c, rfl, hlc, hcm, hao⟩ := hb.shape
  obtain ⟨b, off, rfl, hbl, hcell⟩ := vals_cells hb hn
  have HC := hid hcell
  have HA := hid refAdd_any; have HS := hid refSub_any
  clear hb hao hcell
  unfold two
  go_enter Try.func47, Try.ntmps47
  go_wp2
  go_loopw [4, 5, 6, 7] (fun sv i _ _ wr => ∃ k, k < l.length ∧ i = .int .i64 (((k + 1 : Nat) : Nat) : Int) ∧ sv = .int .i64 (foldTo riseV l 0 k).1 ∧ (foldTo riseV l 0 k).2 = 0 ∧ Below w.heap.size w wr)
    (fun _ i _ _ _ => l.length - (intOf i).toNat)
  case atStart => exact ⟨0, by omega, rfl, rfl, rfl, Below.refl _ _⟩
  case round =>
    obtain ⟨k, hk, rfl, rfl, hz, hbel⟩ := hrel
    have HZ := hid hz; have L0 := hid hbel
    clear hz hbel
    by_cases hlt : k + 1 < l.length
    · have h1 : wr.cell? ⟨b, off + (k + 1), none⟩ = some (.int .i64 (l.getD (k + 1) (0, 0)).2) := by rw [World.cell?_of_block (L0.out.block b hbl)]; exact HC.out (k + 1) hlt
      have h0 : wr.cell? ⟨b, off + k, none⟩ = some (.int .i64 (l.getD k (0, 0)).2) := by rw [World.cell?_of_block (L0.out.block b hbl)]; exact HC.out k hk
      have i0 : (0 : Int) ≤ (k : Int) := by omega
      have i1 : (k : Int) < (l.length : Int) := by omega
      have i2 : (k : Int) + 1 < (l.length : Int) := by omega
      have i3 : (0 : Int) ≤ (k : Int) + 1 := by omega
      have n1 : ((k : Int) + 1).toNat = k + 1 := by omega
      have kj : IntKind.i64.wrap (k : Int) = (k : Int) := IntWalk.i64_in _ (by omega)
      have HN := hid (show foldTo riseV l 0 (k + 1) = if (riseV (foldTo riseV l 0 k).1 (l.getD (k + 1) (0, 0)).2 (l.getD k (0, 0)).2).2 ≠ 0 then (0, (riseV (foldTo riseV l 0 k).1 (l.getD (k + 1) (0, 0)).2 (l.getD k (0, 0)).2).2) else riseV (foldTo riseV l 0 k).1 (l.getD (k + 1) (0, 0)).2 (l.getD k (0, 0)).2 by rw [foldTo, if_neg (by rw [HZ.out]; simp)])
      have HE := hid (fun (h : (foldTo riseV l 0 (k + 1)).2 ≠ 0) => (foldTo_err (f := riseV) (l := l) (c := 0) (k := k + 1) h (l.length - 1) (by omega)))
      obtain ⟨v1, hv1⟩ : ∃ x, x = (l.getD (k + 1) (0, 0)).2 := ⟨_, rfl⟩
      obtain ⟨v0, hv0⟩ : ∃ x, x = (l.getD k (0, 0)).2 := ⟨_, rfl⟩
      obtain ⟨s, hs⟩ : ∃ x, x = (foldTo riseV l 0 k).1 := ⟨_, rfl⟩
      rw [← hv1] at h1
      rw [← hv0] at h0
      rw [← hv1, ← hv0, ← hs] at HN
      rw [← hs]
      clear hv1 hv0 hs
      have HRV := hid (show riseV s v1 v0 = if v0 ≤ v1 then (if (subV v1 v0).2 ≠ 0 then (0, (subV v1 v0).2) else addV s (subV v1 v0).1) else addV s v1 from rfl)
      obtain ⟨R, hR⟩ : ∃ R, R = riseV s v1 v0 := ⟨_, rfl⟩
      rw [← hR] at HN HRV
      clear hR
      rcases Bool.eq_false_or_eq_true (decide (v0 ≤ v1)) with d1 | d1
      · have hle := of_decide_eq_true d1
        rw [if_pos hle] at HRV
        have HSS := hid (HS.out v1 v0)
        obtain ⟨d, hd⟩ : ∃ d, d = subV v1 v0 := ⟨_, rfl⟩
        rw [← hd] at HSS HRV
        clear hd hle
        unfold two at HSS
        rcases Bool.eq_false_or_eq_true (d.2 != 0) with d2 | d2
        · have hne : d.2 ≠ 0 := by simpa using d2
          have HR := hid (show incV l = (0, d.2) by
            have e := HN.out
            rw [HRV.out, if_pos hne, if_pos hne] at e
            exact (HE.out (by rw [e]; exact hne)).trans e)
          clear hne
          go_wp2
          go_quiet (fail)
          rename_i nq
          have L1 := hid (Below_drewN L0.out nq)
          have g1 : (wr.drewN nq).cell? ⟨b, off + (k + 1), none⟩ = some (.int .i64 v1) := h1
          have g0 : (wr.drewN nq).cell? ⟨b, off + k, none⟩ = some (.int .i64 v0) := h0
          clear h1 h0
          generalize wr.drewN nq = W0 at *
          go_wp2
          go_quiet ((go_at_call 46; exact Calls.quiet_of_same (HSS.out _)))
          have L2 := hid (Below_drewN L1.out nq)
          generalize W0.drewN nq = W1 at *
          go_wp2
          go_ret2
          exact ⟨by rw [HR.out]; rfl, L2.out⟩
        · have hne : d.2 = 0 := by simpa using d2
          have HAA := hid (HA.out s d.1)
          obtain ⟨r, hr⟩ : ∃ r, r = addV s d.1 := ⟨_, rfl⟩
          rw [← hr] at HAA HRV
          clear hr
          unfold two at HAA
          rw [if_neg (show ¬ d.2 ≠ 0 by rw [hne]; simp)] at HRV
          rw [HRV.out] at HN
          clear hne
          rcases Bool.eq_false_or_eq_true (r.2 != 0) with d3 | d3
          · have hne : r.2 ≠ 0 := by simpa using d3
            have HR := hid (show incV l = (0, r.2) by
              have e := HN.out
              rw [if_pos hne] at e
              exact (HE.out (by rw [e]; exact hne)).trans e)
            clear hne
            go_wp2
            go_quiet (fail)
            rename_i nq
            have L1 := hid (Below_drewN L0.out nq)
            have g1 : (wr.drewN nq).cell? ⟨b, off + (k + 1), none⟩ = some (.int .i64 v1) := h1
            have g0 : (wr.drewN nq).cell? ⟨b, off + k, none⟩ = some (.int .i64 v0) := h0
            clear h1 h0
            generalize wr.drewN nq = W0 at *
            go_wp2
            go_quiet ((go_at_call 46; exact Calls.quiet_of_same (HSS.out _)))
            have L2 := hid (Below_drewN L1.out nq)
            generalize W0.drewN nq = W1 at *
            go_wp2_with fail
            refine (HAA.out _).mono ?_
            rintro e wz ⟨rfl, hwz⟩
            subst wz
            go_wp2
            go_ret2
            exact ⟨by rw [HR.out]; rfl, L2.out⟩
          · have hne : r.2 = 0 := by simpa using d3
            have HR := hid (show foldTo riseV l 0 (k + 1) = r by rw [HN.out, if_neg (by rw [hne]; simp)])
            have HNE := hid hne
            clear hne
            go_wp2
            go_quiet (fail)
            rename_i nq
            have L1 := hid (Below_drewN L0.out nq)
            have g1 : (wr.drewN nq).cell? ⟨b, off + (k + 1), none⟩ = some (.int .i64 v1) := h1
            have g0 : (wr.drewN nq).cell? ⟨b, off + k, none⟩ = some (.int .i64 v0) := h0
            clear h1 h0
            generalize wr.drewN nq = W0 at *
            go_wp2
            go_quiet ((go_at_call 46; exact Calls.quiet_of_same (HSS.out _)))
            have L2 := hid (Below_drewN L1.out nq)
            generalize W0.drewN nq = W1 at *
            go_wp2_with fail
            refine (HAA.out _).mono ?_
            rintro e wz ⟨rfl, hwz⟩
            subst wz
            go_wp2
            go_roundw
            case rel => exact ⟨k + 1, hlt, by go_num, by rw [HR.out], by rw [HR.out]; exact HNE.out, L2.out⟩
            case measure => simp [intOf]; omega
      · have hle := of_decide_eq_false d1
        rw [if_neg hle] at HRV
        have HAA := hid (HA.out s v1)
        obtain ⟨r, hr⟩ : ∃ r, r = addV s v1 := ⟨_, rfl⟩
        rw [← hr] at HAA HRV
        rw [HRV.out] at HN
        clear hr hle
        unfold two at HAA
        rcases Bool.eq_false_or_eq_true (r.2 != 0) with d3 | d3
        · have hne : r.2 ≠ 0 := by simpa using d3
          have HR := hid (show incV l = (0, r.2) by
            have e := HN.out
            rw [if_pos hne] at e
            exact (HE.out (by rw [e]; exact hne)).trans e)
          clear hne
          go_wp2
          go_quiet (fail)
          rename_i nq
          have L1 := hid (Below_drewN L0.out nq)
          generalize wr.drewN nq = W0 at *
          go_wp2_with fail
          refine (HAA.out _).mono ?_
          rintro e wz ⟨rfl, hwz⟩
          subst wz
          go_wp2
          go_ret2
          exact ⟨by rw [HR.out]; rfl, L1.out⟩
        · have hne : r.2 = 0 := by simpa using d3
          have HR := hid (show foldTo riseV l 0 (k + 1) = r by rw [HN.out, if_neg (by rw [hne]; simp)])
          have HNE := hid hne
          clear hne
          go_wp2
          go_quiet (fail)
          rename_i nq
          have L1 := hid (Below_drewN L0.out nq)
          generalize wr.drewN nq = W0 at *
          go_wp2_with fail
          refine (HAA.out _).mono ?_
          rintro e wz ⟨rfl, hwz⟩
          subst wz
          go_wp2
          go_roundw
          case rel => exact ⟨k + 1, hlt, by go_num, by rw [HR.out], by rw [HR.out]; exact HNE.out, L1.out⟩
          case measure => simp [intOf]; omega
    · have hkl : k = l.length - 1 := by omega
      have hkl' : ((k + 1 : Nat) : Int) = (l.length : Int) := by omega
      rw [hkl']
      have hfin := hid (show incV l = ((foldTo riseV l 0 k).1, 0) by
        have e : incV l = foldTo riseV l 0 k := by rw [hkl]; rfl
        rw [e]
        exact Prod.ext rfl HZ.out)
      clear hkl hkl'
      go_wp2
      go_ret2
      exact ⟨by rw [hfin.out]; rfl, L0.out⟩

set_option maxRecDepth 100000 in
set_option maxHeartbeats 4000000 in
theorem refLeast_any (v : Value) (l : List (Int × Int)) (sg : Int) (w : World) (hsg : sg = 1 ∨ sg = -1) (hc : chkA none l = 0) (hn : 1 ≤ l.length) (hl : l.length ≤ 10000000000000) (hb : Sl w 1 v l.length (iz (vals l))) :
    Calls Try.prog 45 #[v, .int .i64 sg] w fun e w' => e = .returned (.int .i64 (if sg = 1 then (minV l).1 else (maxV l).1)) ∧ w' = w := by
  obtain ⟨ao, c, rfl, hlc, hcm, hao⟩ := hb.shape
  obtain ⟨b, off, rfl, _, hcell⟩ := vals_cells hb hn
  have HC := hid hcell; have HCH := hid hc
  clear hb hao hcell hc
  obtain ⟨F, hF⟩ : ∃ F : Nat → Int, F = fun k => if sg = 1 then (foldTo (fun s v _ => (min s v, 0)) l (firstV l) k).1 else (foldTo (fun s v _ => (max s v, 0)) l (firstV l) k).1 := ⟨_, rfl⟩
  have HE := hid (show (if sg = 1 then (minV l).1 else (maxV l).1) = F (l.length - 1) by rw [hF]; rfl)
  have HN := hid (show ∀ k, F (k + 1) = if sg * (l.getD (k + 1) (0, 0)).2 < sg * F k then (l.getD (k + 1) (0, 0)).2 else F k by
    intro k
    rw [hF]
    have e1 := (minTo l k).1
    have e2 := (maxTo l k).1
    simp only [foldTo, e1, e2, ne_eq, not_true_eq_false, if_false]
    rcases hsg with rfl | rfl
    · simp only [if_true, Int.one_mul]
      split <;> omega
    · have e : ¬ ((-1 : Int) = 1) := by decide
      simp only [if_neg e]
      split <;> omega)
  have HB := hid (show ∀ k, k < l.length → -1152921504606846976 ≤ F k ∧ F k ≤ 1152921504606846976 by
    intro k hk
    rw [hF]
    obtain ⟨_, _, j, hj, e1⟩ := minTo l k
    obtain ⟨_, _, j2, hj2, e2⟩ := maxTo l k
    have r1 := rise_at HCH.out j (by omega)
    have r2 := rise_at HCH.out j2 (by omega)
    simp only
    split
    · rw [← e1]; omega
    · rw [← e2]; omega)
  have H0 := hid (show F 0 = (l.getD 0 (0, 0)).2 by rw [hF]; simp only [foldTo]; split <;> rfl)
  rw [HE.out]
  clear hF HE
  have c0 := HC.out 0 (by omega)
  rw [← H0.out, Nat.add_zero] at c0
  have i9 : (0 : Int) < (l.length : Int) := by omega
  obtain ⟨o0, ho0⟩ : ∃ o, o = F 0 := ⟨_, rfl⟩
  rw [← ho0] at c0
  have HO := hid ho0
  clear ho0
  have SG := hid hsg
  clear hsg
  go_enter Try.func45, Try.ntmps45
  go_wp2
  go_loopw [5, 6] (fun ov i wr => ∃ k, k < l.length ∧ i = .int .i64 (((k + 1 : Nat) : Nat) : Int) ∧ ov = .int .i64 (F k) ∧ wr = w)
    (fun _ i _ => l.length - (intOf i).toNat)
  case atStart => exact ⟨0, by omega, rfl, by rw [HO.out], rfl⟩
  case round =>
    obtain ⟨k, hk, rfl, rfl, rfl⟩ := hrel
    by_cases hlt : k + 1 < l.length
    · have c1 := HC.out (k + 1) hlt
      have i2 : (k : Int) + 1 < (l.length : Int) := by omega
      have i3 : (0 : Int) ≤ (k : Int) + 1 := by omega
      have n1 : ((k : Int) + 1).toNat = k + 1 := by omega
      have hfb := HB.out k hk
      have hvb := rise_at HCH.out (k + 1) hlt
      have HNN := hid (HN.out k)
      generalize (l.getD (k + 1) (0, 0)).2 = p at *
      obtain ⟨o, ho⟩ : ∃ o, o = F k := ⟨_, rfl⟩
      rw [← ho] at HNN hfb ⊢
      clear ho
      have k1 : IntKind.i64.wrap (sg * p) = sg * p := by rcases SG.out with h | h <;> subst h <;> exact IntWalk.i64_in _ (by omega)
      have k2 : IntKind.i64.wrap (sg * o) = sg * o := by rcases SG.out with h | h <;> subst h <;> exact IntWalk.i64_in _ (by omega)
      obtain ⟨x1, hx1⟩ : ∃ x, x = sg * p := ⟨_, rfl⟩
      obtain ⟨x2, hx2⟩ : ∃ x, x = sg * o := ⟨_, rfl⟩
      rw [← hx1, ← hx2] at HNN
      rw [← hx1] at k1
      rw [← hx2] at k2
      have HX1 := hid hx1
      have k3 : IntKind.i64.wrap (sg * p) = x1 := by rw [← hx1]; exact k1
      have k4 : IntKind.i64.wrap (sg * o) = x2 := by rw [← hx2]; exact k2
      clear k1 k2 hx1 hx2 hfb hvb
      rcases Bool.eq_false_or_eq_true (decide (x1 < x2)) with d | d
      · rw [if_pos (of_decide_eq_true d)] at HNN
        go_wp2
        go_roundw
        case rel => exact ⟨k + 1, hlt, by go_num, by rw [HNN.out], by first | rfl | trivial⟩
        case measure => simp [intOf]; omega
      · rw [if_neg (of_decide_eq_false d)] at HNN
        go_wp2
        go_roundw
        case rel => exact ⟨k + 1, hlt, by go_num, by rw [HNN.out], by first | rfl | trivial⟩
        case measure => simp [intOf]; omega
    · have hkl : k = l.length - 1 := by omega
      have hkl' : ((k + 1 : Nat) : Int) = (l.length : Int) := by omega
      rw [hkl']
      have hfin := hid (show F (l.length - 1) = F k by rw [hkl])
      clear hkl hkl'
      go_wp2
      go_ret
      exact ⟨by rw [hfin.out]; rfl, rfl⟩
end Go.Proofs.Ytebjdiiogihcdaa
