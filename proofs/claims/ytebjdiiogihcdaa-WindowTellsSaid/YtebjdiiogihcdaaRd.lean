/- the reference's signed, Scale. -/
import Derived.Test.YtebjdiiogihcdaaRc
namespace Go.Proofs.Ytebjdiiogihcdaa
open Go.RowKit
set_option linter.unusedSimpArgs false

set_option maxRecDepth 100000 in
set_option maxHeartbeats 2000000 in
theorem signed_any (g : Nat) (cs : List Nat) (b : Nat) (minus : Bool) (hb0 : 1 ≤ b) (hb : b ≤ 1152921504606846976) (w : World) (hg : w.heap[g]? = some (.cells (ic cs).toArray 3 (0, 0))) (h9 : cs.length = 9) (hlt : ∀ j, cs.getD j 0 < 1048576) :
    Calls Try.prog 55 #[.slice (some ⟨g, 0, none⟩) 9 9, .int .i64 (b : Int), .bool minus] w fun e w' => e = two (if 1152921504606846976 < dval cs / b then (0, 11) else (if minus = true then -((dval cs / b : Nat) : Int) else ((dval cs / b : Nat) : Int), 0)) ∧ w' = w := by
  have HB := hid (by_any g cs b hb0 hb w hg h9 hlt)
  clear hg h9 hlt
  obtain ⟨q, hq⟩ : ∃ q, q = dval cs / b := ⟨_, rfl⟩
  rw [← hq] at HB ⊢
  clear hq
  unfold two
  rcases Bool.eq_false_or_eq_true (decide (q ≤ 1152921504606846976)) with d | d
  · have hd := of_decide_eq_true d
    rw [d] at HB
    rw [if_neg (by omega)]
    have kn : IntKind.i64.wrap (-(q : Int)) = -(q : Int) := IntWalk.i64_in _ (by omega)
    clear d
    have HD := hid hd
    clear hd
    cases minus with
    | true =>
      rw [if_pos rfl]
      go_enter Try.func55, Try.ntmps55
      go_wp2_with fail
      refine HB.out.mono ?_
      rintro e wz ⟨⟨qq, rfl, hqq⟩, hwz⟩
      subst wz
      obtain rfl := hqq HD.out
      clear hqq
      go_wp2
      go_ret2
      exact ⟨rfl, rfl⟩
    | false =>
      rw [if_neg (by simp)]
      go_enter Try.func55, Try.ntmps55
      go_wp2_with fail
      refine HB.out.mono ?_
      rintro e wz ⟨⟨qq, rfl, hqq⟩, hwz⟩
      subst wz
      obtain rfl := hqq HD.out
      clear hqq
      go_wp2
      go_ret2
      exact ⟨rfl, rfl⟩
  · have hd := of_decide_eq_false d
    rw [d] at HB
    rw [if_pos (by omega)]
    clear d hd
    go_enter Try.func55, Try.ntmps55
    go_wp2_with fail
    refine HB.out.mono ?_
    rintro e wz ⟨⟨qq, rfl, hqq⟩, hwz⟩
    subst wz
    clear hqq
    go_wp2
    go_ret2
    exact ⟨rfl, rfl⟩

set_option maxRecDepth 100000 in
set_option maxHeartbeats 2000000 in
theorem refScale_any (a : Int) (b c : Nat) (ha0 : -1152921504606846976 ≤ a) (ha1 : a ≤ 1152921504606846976) (hb : b ≤ 1152921504606846976) (hc0 : 1 ≤ c) (hc : c ≤ 1152921504606846976) (w : World) :
    Calls Try.prog 44 #[.int .i64 a, .int .i64 (b : Int), .int .i64 (c : Int)] w fun e w' => e = two (scaV a b c) ∧ Below w.heap.size w w' := by
  have HA := hid (fun w => refFits_any a w); have HB := hid (fun w => refFits_any (b : Int) w)
  rw [fitB_iff.2 (⟨by omega, by omega⟩ : -1152921504606846976 ≤ a ∧ a ≤ 1152921504606846976)] at HA
  rw [fitB_iff.2 (⟨by omega, by omega⟩ : -1152921504606846976 ≤ (b : Int) ∧ (b : Int) ≤ 1152921504606846976)] at HB
  have ZA := hid (fun w => refSize_any a ha0 ha1 w)
  have ZB := hid (fun w => refSize_any (b : Int) (by omega) (by omega) w)
  simp only [Int.natAbs_natCast] at ZB
  obtain ⟨na, hna⟩ : ∃ x, x = a.natAbs := ⟨_, rfl⟩
  have HP := hid (fun w => product_any na b (by omega) hb w)
  have SG := hid (fun g cs minus w h1 h2 h3 => signed_any g cs c minus hc0 hc w h1 h2 h3)
  obtain ⟨mn, hmn⟩ : ∃ mn : Bool, mn = decide (a < 0) := ⟨_, rfl⟩
  have HV := hid (show scaV a b c = if 1152921504606846976 < na * b / c then (0, 11) else (if mn = true then -((na * b / c : Nat) : Int) else ((na * b / c : Nat) : Int), 0) by
    unfold scaV; rw [← hna, hmn]; simp)
  rw [← hna] at ZA
  have d1 : decide ((c : Int) < 1) = false := decide_eq_false (by omega)
  have d2 : decide (1152921504606846976 < (c : Int)) = false := decide_eq_false (by omega)
  have d1' : decide (c < 1) = false := decide_eq_false (by omega)
  have d3 : decide ((b : Int) < 0) = false := decide_eq_false (by omega)
  clear hna
  obtain ⟨res, hres⟩ : ∃ x, x = scaV a b c := ⟨_, rfl⟩
  rw [← hres] at HV ⊢
  clear hres
  have d4 := hmn.symm
  clear hmn
  cases mn
  all_goals
    go_enter Try.func44, Try.ntmps44
    go_wp2_with fail
    refine (HA.out _).mono ?_
    rintro e wz ⟨rfl, hwz⟩
    subst wz
    go_wp2_with fail
    refine (HB.out _).mono ?_
    rintro e wz ⟨rfl, hwz⟩
    subst wz
    go_wp2_with fail
    refine (ZA.out _).mono ?_
    rintro e wz ⟨rfl, hwz⟩
    subst wz
    go_wp2_with fail
    refine (ZB.out _).mono ?_
    rintro e wz ⟨rfl, hwz⟩
    subst wz
    go_wp2_with fail
    refine (HP.out _).mono ?_
    rintro e w1 ⟨g, cs, rfl, hb1, hg1, h91, hv1, hl1⟩
    have L1 := hid hb1
    have HS := hid (show ∀ minus : Bool, Calls Try.prog 55 #[.slice (some ⟨g, 0, none⟩) 9 9, .int .i64 (c : Int), .bool minus] w1 fun e w' => e = two (if 1152921504606846976 < na * b / c then (0, 11) else (if minus = true then -((na * b / c : Nat) : Int) else ((na * b / c : Nat) : Int), 0)) ∧ w' = w1 from fun minus => by
      have h := SG.out g cs minus w1 hg1 h91 hl1
      rw [hv1] at h
      exact h)
    clear hb1 hg1 h91 hv1 hl1
    go_wp2_with fail
    refine (HS.out _).mono ?_
    rintro e wz ⟨he, hwz⟩
    subst wz
    have he2 : e = two res := by (rw [he, HV.out]) <;> simp
    clear he
    subst he2
    unfold two
    go_wp2
    go_ret2
    exact ⟨rfl, L1.out⟩
end Go.Proofs.Ytebjdiiogihcdaa
