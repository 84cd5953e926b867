/- the reference's tell, name by name. -/
import Derived.Test.YtebjdiiogihcdaaRf
namespace Go.Proofs.Ytebjdiiogihcdaa
open Go.RowKit
set_option linter.unusedSimpArgs false

theorem maxV_two (l : List (Int × Int)) : maxV l = ((maxV l).1, 0) := Prod.ext rfl (maxV_ok l).1
theorem minV_two (l : List (Int × Int)) : minV l = ((minV l).1, 0) := Prod.ext rfl (minV_ok l).1
theorem lastV_two (l : List (Int × Int)) : lastV l = ((l.getD (l.length - 1) (0, 0)).2, 0) := lastV_eq l (firstV l) rfl (l.length - 1)

theorem incV_err (l : List (Int × Int)) (h : (incV l).2 ≠ 0) : (incV l).1 = 0 := by
  unfold incV at *
  generalize l.length - 1 = n at *
  induction n with
  | zero => exact absurd rfl h
  | succ n ih =>
    rw [foldTo] at h ⊢
    split at h
    · rename_i h1; rw [if_pos h1]; exact ih h1
    · rename_i h1
      rw [if_neg h1]
      split at h
      · rename_i h2; rw [if_pos h2]
      · rename_i h2; exact absurd h h2

section
variable (v : Value) (l : List (Int × Int)) (w : World) (hc : chkA none l = 0) (hn : 1 ≤ l.length) (hl : l.length ≤ 1099511627777) (hb : Sl w 1 v l.length (iz (vals l)))
include hc hn hl hb

set_option maxRecDepth 100000 in
set_option maxHeartbeats 2000000 in
theorem refTell_0 (r : Int) :
    Calls Try.prog 24 #[opS0, v, .int .i64 r] w fun e w' => e = two ((l.length : Int) * 1000000, 0) ∧ Below w.heap.size w w' := by
  have Hb := hid hb; have HCH := hid hc
  obtain ⟨ao, c, rfl, hlc, hcm, _⟩ := hb.shape
  unfold maxLen at hcm
  have kw : IntKind.i64.wrap ((l.length : Int) * 1000000) = (l.length : Int) * 1000000 := IntWalk.i64_in _ (by omega)
  unfold two
  clear hb hc
  unfold opS0
  go_enter Try.func24, Try.ntmps24
  go_wp2
  go_ret2
  exact ⟨rfl, Below.refl _ _⟩

set_option maxRecDepth 100000 in
set_option maxHeartbeats 2000000 in
theorem refTell_1 (r : Int) :
    Calls Try.prog 24 #[opS1, v, .int .i64 r] w fun e w' => e = two (sumV l) ∧ Below w.heap.size w w' := by
  have Hb := hid hb; have HCH := hid hc
  obtain ⟨ao, c, rfl, hlc, hcm, _⟩ := hb.shape
  unfold maxLen at hcm
  have HS := hid (fun wx (hx : Sl wx 1 (.slice ao l.length c) l.length (iz (vals l))) => refSum_any _ l wx hc hn (by omega) hx)
  have HS2 := hid (HS.out w hb)
  generalize sumV l = q at *
  unfold two at *
  clear hb hc
  unfold opS1
  go_enter Try.func24, Try.ntmps24
  go_wp2_with fail
  refine (HS2.out).mono ?_
  rintro e wz ⟨rfl, hwz⟩
  subst wz
  go_wp2
  go_ret2
  exact ⟨rfl, Below.refl _ _⟩

set_option maxRecDepth 100000 in
set_option maxHeartbeats 2000000 in
theorem refTell_2 (r : Int) :
    Calls Try.prog 24 #[opS2, v, .int .i64 r] w fun e w' => e = two (avgV l) ∧ Below w.heap.size w w' := by
  have Hb := hid hb; have HCH := hid hc
  obtain ⟨ao, c, rfl, hlc, hcm, _⟩ := hb.shape
  unfold maxLen at hcm
  have HS := hid (fun wx (hx : Sl wx 1 (.slice ao l.length c) l.length (iz (vals l))) => refSum_any _ l wx hc hn (by omega) hx)
  have HS2 := hid (HS.out w hb)
  have HSC := hid (fun (h : (sumV l).2 = 0) (wx : World) => refScale_any (sumV l).1 1 l.length (fitB_iff.1 (sumV_fitB (by omega) hc h)).1 (fitB_iff.1 (sumV_fitB (by omega) hc h)).2 (by decide) hn (by omega) wx)
  unfold avgV
  generalize sumV l = s at *
  obtain ⟨q, hq⟩ : ∃ q, q = scaV s.1 1 l.length := ⟨_, rfl⟩
  rw [← hq]
  simp only [← hq] at HSC
  clear hq
  unfold two at *
  clear hb hc
  unfold opS2
  go_enter Try.func24, Try.ntmps24
  rcases Bool.eq_false_or_eq_true (s.2 != 0) with h2 | h2
  · have hne : s.2 ≠ 0 := by simpa using h2
    rw [if_pos hne]
    clear hne
    go_wp2_with fail
    refine (HS2.out).mono ?_
    rintro e wz ⟨rfl, hwz⟩
    subst wz
    go_wp2
    go_ret2
    exact ⟨rfl, Below.refl _ _⟩
  · have hne : s.2 = 0 := by simpa using h2
    rw [if_neg (by rw [hne]; simp)]
    have HQ := hid (HSC.out hne)
    clear hne
    go_wp2_with fail
    refine (HS2.out).mono ?_
    rintro e wz ⟨rfl, hwz⟩
    subst wz
    go_wp2_with fail
    refine (HQ.out _).mono ?_
    rintro e w2 ⟨rfl, hb2⟩
    have L2 := hid hb2
    clear hb2
    go_wp2
    go_ret2
    exact ⟨rfl, L2.out⟩

set_option maxRecDepth 100000 in
set_option maxHeartbeats 2000000 in
theorem refTell_3 (r : Int) :
    Calls Try.prog 24 #[opS3, v, .int .i64 r] w fun e w' => e = two (minV l) ∧ Below w.heap.size w w' := by
  have Hb := hid hb; have HCH := hid hc
  obtain ⟨ao, c, rfl, hlc, hcm, _⟩ := hb.shape
  unfold maxLen at hcm
  have HM := hid (refLeast_any _ l 1 w (by decide) hc hn (by omega) hb)
  rw [if_pos rfl] at HM
  rw [minV_two]
  generalize (minV l).1 = q at *
  unfold two at *
  clear hb hc
  unfold opS3
  go_enter Try.func24, Try.ntmps24
  go_wp2_with fail
  refine (HM.out).mono ?_
  rintro e wz ⟨rfl, hwz⟩
  subst wz
  go_wp2
  go_ret2
  exact ⟨rfl, Below.refl _ _⟩

set_option maxRecDepth 100000 in
set_option maxHeartbeats 2000000 in
theorem refTell_4 (r : Int) :
    Calls Try.prog 24 #[opS4, v, .int .i64 r] w fun e w' => e = two (maxV l) ∧ Below w.heap.size w w' := by
  have Hb := hid hb; have HCH := hid hc
  obtain ⟨ao, c, rfl, hlc, hcm, _⟩ := hb.shape
  unfold maxLen at hcm
  have HM := hid (refLeast_any _ l (-1) w (by decide) hc hn (by omega) hb)
  rw [if_neg (by decide)] at HM
  rw [maxV_two]
  generalize (maxV l).1 = q at *
  unfold two at *
  clear hb hc
  unfold opS4
  go_enter Try.func24, Try.ntmps24
  go_wp2_with fail
  refine (HM.out).mono ?_
  rintro e wz ⟨rfl, hwz⟩
  subst wz
  go_wp2
  go_ret2
  exact ⟨rfl, Below.refl _ _⟩

set_option maxRecDepth 100000 in
set_option maxHeartbeats 2000000 in
theorem refTell_5 (r : Int) :
    Calls Try.prog 24 #[opS5, v, .int .i64 r] w fun e w' => e = two (lastV l) ∧ Below w.heap.size w w' := by
  have Hb := hid hb; have HCH := hid hc
  obtain ⟨ao, c, rfl, hlc, hcm, _⟩ := hb.shape
  unfold maxLen at hcm
  obtain ⟨b, off, rfl, _, hcell⟩ := vals_cells hb hn
  have cl := hcell (l.length - 1) (by omega)
  have c0 := hcell 0 (by omega)
  rw [Nat.add_zero] at c0
  have kw : IntKind.i64.wrap ((l.length : Int) - 1) = (l.length : Int) - 1 := IntWalk.i64_in _ (by omega)
  have i0 : (0 : Int) < (l.length : Int) := by omega
  have i1 : (0 : Int) ≤ (l.length : Int) - 1 := by omega
  have i2 : (l.length : Int) - 1 < (l.length : Int) := by omega
  have i3 : (1 : Int) ≤ (l.length : Int) := by omega
  have n1 : ((l.length : Int) - 1).toNat = l.length - 1 := by omega
  rw [lastV_two]
  generalize (l.getD (l.length - 1) (0, 0)).2 = lv at *
  clear c0 hcell
  unfold two at *
  clear hb hc
  unfold opS5
  go_enter Try.func24, Try.ntmps24
  go_wp2
  go_ret2
  exact ⟨rfl, Below.refl _ _⟩

set_option maxRecDepth 100000 in
set_option maxHeartbeats 2000000 in
theorem refTell_6 (r : Int) :
    Calls Try.prog 24 #[opS6, v, .int .i64 r] w fun e w' => e = two (subV (l.getD (l.length - 1) (0, 0)).2 (firstV l)) ∧ Below w.heap.size w w' := by
  have Hb := hid hb; have HCH := hid hc
  obtain ⟨ao, c, rfl, hlc, hcm, _⟩ := hb.shape
  unfold maxLen at hcm
  obtain ⟨b, off, rfl, _, hcell⟩ := vals_cells hb hn
  have cl := hcell (l.length - 1) (by omega)
  have c0 := hcell 0 (by omega)
  rw [Nat.add_zero] at c0
  have kw : IntKind.i64.wrap ((l.length : Int) - 1) = (l.length : Int) - 1 := IntWalk.i64_in _ (by omega)
  have i0 : (0 : Int) < (l.length : Int) := by omega
  have i1 : (0 : Int) ≤ (l.length : Int) - 1 := by omega
  have i2 : (l.length : Int) - 1 < (l.length : Int) := by omega
  have i3 : (1 : Int) ≤ (l.length : Int) := by omega
  have n1 : ((l.length : Int) - 1).toNat = l.length - 1 := by omega
  have HSS := hid (refSub_any (l.getD (l.length - 1) (0, 0)).2 (firstV l))
  rw [show (l.getD 0 (0, 0)).2 = firstV l from rfl] at c0
  generalize (l.getD (l.length - 1) (0, 0)).2 = lv at *
  generalize firstV l = fv at *
  generalize subV lv fv = q at *
  clear hcell
  unfold two at *
  clear hb hc
  unfold opS6
  go_enter Try.func24, Try.ntmps24
  go_wp2
  go_quiet ((go_at_call 46; exact Calls.quiet_of_same (HSS.out _)))
  rename_i nq
  have L1 := hid (Below_drewN (Below.refl w.heap.size w) nq)
  generalize w.drewN nq = W0 at *
  go_wp2
  go_ret2
  exact ⟨rfl, L1.out⟩

set_option maxRecDepth 100000 in
set_option maxHeartbeats 2000000 in
theorem refTell_7 (r : Int) :
    Calls Try.prog 24 #[opS7, v, .int .i64 r] w fun e w' => e = two (incV l) ∧ Below w.heap.size w w' := by
  have Hb := hid hb; have HCH := hid hc
  obtain ⟨ao, c, rfl, hlc, hcm, _⟩ := hb.shape
  unfold maxLen at hcm
  have HI := hid (refInc_any _ l w hn (by omega) hb)
  generalize incV l = q at *
  unfold two at *
  clear hb hc
  unfold opS7
  go_enter Try.func24, Try.ntmps24
  go_wp2_with fail
  refine HI.out.mono ?_
  rintro e w1 ⟨rfl, hb1⟩
  have L1 := hid hb1
  clear hb1
  go_wp2
  go_ret2
  exact ⟨rfl, L1.out⟩

set_option maxRecDepth 100000 in
set_option maxHeartbeats 2000000 in
theorem refTell_8 (r : Nat) (hr0 : 1 ≤ r) (hr : r ≤ 2147483648) :
    Calls Try.prog 24 #[opS8, v, .int .i64 r] w fun e w' => e = two (rateV l r) ∧ Below w.heap.size w w' := by
  have Hb := hid hb; have HCH := hid hc
  obtain ⟨ao, c, rfl, hlc, hcm, _⟩ := hb.shape
  unfold maxLen at hcm
  have HI := hid (refInc_any _ l w hn (by omega) hb)
  have HSC := hid (fun (h : (incV l).2 = 0) (wx : World) => refScale_any (incV l).1 1000 r (fitB_iff.1 (incV_fit l h)).1 (fitB_iff.1 (incV_fit l h)).2 (by decide) hr0 (by omega) wx)
  have HERR := hid (incV_err l)
  unfold rateV
  generalize incV l = s at *
  obtain ⟨q, hq⟩ : ∃ q, q = scaV s.1 1000 r := ⟨_, rfl⟩
  rw [← hq]
  simp only [← hq] at HSC
  clear hq
  unfold two at *
  clear hb hc
  unfold opS8
  go_enter Try.func24, Try.ntmps24
  rcases Bool.eq_false_or_eq_true (s.2 != 0) with h2 | h2
  · have hne : s.2 ≠ 0 := by simpa using h2
    rw [if_pos hne]
    have HNE := hid hne
    clear hne
    go_wp2_with fail
    refine HI.out.mono ?_
    rintro e w1 ⟨rfl, hb1⟩
    have L1 := hid hb1
    clear hb1
    go_wp2
    go_ret2
    exact ⟨by rw [show s = (0, s.2) from Prod.ext (HERR.out HNE.out) rfl]; rfl, L1.out⟩
  · have hne : s.2 = 0 := by simpa using h2
    rw [if_neg (by rw [hne]; simp)]
    have HQ := hid (HSC.out hne)
    clear hne
    go_wp2_with fail
    refine HI.out.mono ?_
    rintro e w1 ⟨rfl, hb1⟩
    have L1 := hid hb1
    clear hb1
    go_wp2_with fail
    refine (HQ.out _).mono ?_
    rintro e w2 ⟨rfl, hb2⟩
    have L2 := hid (L1.out.trans (hb2.mono L1.out.size))
    clear hb2
    go_wp2
    go_ret2
    exact ⟨rfl, L2.out⟩
end
end Go.Proofs.Ytebjdiiogihcdaa
