/- the reference's by: a division by hand, bit by bit. -/
import Derived.Test.YtebjdiiogihcdaaRb
namespace Go.Proofs.Ytebjdiiogihcdaa
open Go.RowKit
set_option linter.unusedSimpArgs false

theorem bit_step (c v u : Nat) (hu : u < 20) : (c + 1048576 * v) / 2 ^ u = 2 * ((c + 1048576 * v) / 2 ^ (u + 1)) + c / 2 ^ u % 2 := by
  have e : (1048576 : Nat) = 2 ^ u * (2 * 2 ^ (19 - u)) := by
    rw [← Nat.pow_succ', ← Nat.pow_add, show u + (19 - u + 1) = 20 by omega]
  have h1 : (c + 1048576 * v) / 2 ^ u = c / 2 ^ u + 2 * (2 ^ (19 - u) * v) := by
    rw [e, Nat.mul_assoc, Nat.add_mul_div_left _ _ (Nat.two_pow_pos u), Nat.mul_assoc]
  rw [Nat.pow_succ, ← Nat.div_div_eq_div_mul, h1]
  generalize c / 2 ^ u = x
  generalize 2 ^ (19 - u) * v = y
  omega
theorem div_step1 (M b q r bit : Nat) (hb : 0 < b) (hq : q = M / b) (hr : r = M % b) (hbit : bit < 2) (h : b ≤ 2 * r + bit) : (2 * M + bit) / b = 2 * q + 1 ∧ (2 * M + bit) % b = 2 * r + bit - b := by
  have e := Nat.div_add_mod M b
  have hl := Nat.mod_lt M hb
  rw [← hq, ← hr] at e
  rw [← hr] at hl
  refine (Nat.div_mod_unique hb).2 ⟨?_, by omega⟩
  rw [Nat.mul_add, Nat.mul_one, ← e, Nat.mul_left_comm]
  generalize b * q = x
  omega
theorem div_step0 (M b q r bit : Nat) (hb : 0 < b) (hq : q = M / b) (hr : r = M % b) (h : ¬ b ≤ 2 * r + bit) : (2 * M + bit) / b = 2 * q ∧ (2 * M + bit) % b = 2 * r + bit := by
  have e := Nat.div_add_mod M b
  rw [← hq, ← hr] at e
  refine (Nat.div_mod_unique hb).2 ⟨?_, by omega⟩
  rw [← e, Nat.mul_left_comm]
  generalize b * q = x
  omega

set_option maxRecDepth 100000 in
set_option maxHeartbeats 4000000 in
theorem by_any (g : Nat) (cs : List Nat) (b : Nat) (hb0 : 1 ≤ b) (hb : b ≤ 1152921504606846976) (w : World) (hg : w.heap[g]? = some (.cells (ic cs).toArray 3 (0, 0))) (h9 : cs.length = 9) (hlt : ∀ j, cs.getD j 0 < 1048576) :
    Calls Try.prog 62 #[.slice (some ⟨g, 0, none⟩) 9 9, .int .i64 (b : Int)] w fun e w' => (∃ q : Int, e = .returned (.tuple #[.int .i64 q, .bool (decide (dval cs / b ≤ 1152921504606846976))]) ∧ (dval cs / b ≤ 1152921504606846976 → q = ((dval cs / b : Nat) : Int))) ∧ w' = w := by
  have HC := hid (fun j (hj : j < 9) => ic_cell hg j (by omega))
  have HLT := hid hlt
  have HD := hid (fun i (hi : i < 9) => dval_drop cs i (by omega))
  have HLE := hid (fun i => dval_drop_le cs i)
  have H0 := hid (show dval (cs.drop 9) = 0 by rw [List.drop_eq_nil_of_le (by omega)]; rfl)
  have HZ := hid (show cs.drop 0 = cs from rfl)
  clear hg h9 hlt
  obtain ⟨N, hN⟩ : ∃ N, N = dval cs := ⟨_, rfl⟩
  rw [← hN] at HLE ⊢
  have HN := hid hN
  clear hN
  go_enter Try.func62, Try.ntmps62
  go_wp2
  go_loopw [6, 7, 8, 9, 10] (fun qv rv iv _ _ wr => ∃ t : Nat, t ≤ 9 ∧ iv = .int .i64 ((t : Int) - 1) ∧ qv = .int .i64 ((dval (cs.drop t) / b : Nat) : Int) ∧ rv = .int .i64 ((dval (cs.drop t) % b : Nat) : Int) ∧ dval (cs.drop t) / b ≤ 1152921504606846977 ∧ wr = w)
    (fun _ _ iv _ _ _ => (intOf iv + 1).toNat)
  case atStart => exact ⟨9, by omega, rfl, by rw [H0.out, Nat.zero_div]; rfl, by rw [H0.out, Nat.zero_mod]; rfl, by rw [H0.out, Nat.zero_div]; omega, rfl⟩
  case round =>
    obtain ⟨t, ht, rfl, rfl, rfl, hqb, rfl⟩ := hrel
    by_cases h0 : t = 0
    · subst h0
      rw [show ((0 : Nat) : Int) - 1 = -1 from rfl]
      rw [HZ.out, ← HN.out] at hqb
      rw [HZ.out, ← HN.out]
      obtain ⟨q, hq⟩ : ∃ q, q = N / b := ⟨_, rfl⟩
      have HQ := hid hq
      rw [← hq] at hqb ⊢
      have f1 : IntKind.i64.wrap (q : Int) = (q : Int) := IntWalk.i64_in _ (by omega)
      clear hq
      rcases Bool.eq_false_or_eq_true (decide (q ≤ 1152921504606846976)) with d1 | d1
      · have d1' : decide ((q : Int) ≤ 1152921504606846976) = true := decide_eq_true (by have := of_decide_eq_true d1; omega)
        go_wp2
        go_ret2
        exact ⟨⟨_, by rw [← HQ.out, d1]; rfl, fun _ => by rw [← HQ.out]⟩, rfl⟩
      · have d1' : decide ((q : Int) ≤ 1152921504606846976) = false := decide_eq_false (by have := of_decide_eq_false d1; omega)
        go_wp2
        go_ret2
        exact ⟨⟨_, by rw [← HQ.out, d1]; rfl, fun _ => by rw [← HQ.out]⟩, rfl⟩
    · obtain ⟨i, rfl⟩ : ∃ i, t = i + 1 := ⟨t - 1, by omega⟩
      rw [show ((i + 1 : Nat) : Int) - 1 = (i : Int) by omega]
      have km1 : IntKind.i64.wrap ((i : Int) - 1) = (i : Int) - 1 := IntWalk.i64_in _ (by omega)
      have kge : decide ((0 : Int) ≤ (i : Int)) = true := decide_eq_true (by omega)
      have HDI := hid (HD.out i (by omega))
      have HLI := hid (HLE.out i)
      have HCL := HLT.out i
      have c0 := HC.out i (by omega)
      obtain ⟨V, hV⟩ : ∃ V, V = dval (cs.drop (i + 1)) := ⟨_, rfl⟩
      obtain ⟨D, hDD⟩ : ∃ D, D = dval (cs.drop i) := ⟨_, rfl⟩
      rw [← hV] at HDI hqb ⊢
      rw [← hDD] at HDI HLI
      have HDD := hid hDD
      clear hV hDD
      generalize cs.getD i 0 = c at *
      have DV := hid (show D / 2 ^ 20 = V by rw [HDI.out]; omega)
      obtain ⟨q0, hq0⟩ : ∃ x, x = V / b := ⟨_, rfl⟩
      obtain ⟨r0, hr0⟩ : ∃ x, x = V % b := ⟨_, rfl⟩
      rw [← hq0] at hqb
      rw [← hq0, ← hr0]
      have Q0 := hid hq0; have R0 := hid hr0
      clear hq0 hr0 h0
      go_wp2
      go_loopw [6, 7, 9, 10] (fun qv rv wv _ wr2 => ∃ s : Nat, s ≤ 20 ∧ wv = .int .i64 ((2 ^ s / 2 : Nat) : Int) ∧ qv = .int .i64 ((D / 2 ^ s / b : Nat) : Int) ∧ rv = .int .i64 ((D / 2 ^ s % b : Nat) : Int) ∧ D / 2 ^ s / b ≤ 1152921504606846977 ∧ wr2 = wr)
        (fun _ _ wv _ _ => (intOf wv).toNat)
      case atStart => exact ⟨20, by omega, rfl, by rw [DV.out, ← Q0.out], by rw [DV.out, ← R0.out], by rw [DV.out, ← Q0.out]; exact hqb, rfl⟩
      case round =>
        obtain ⟨s, hs, rfl, rfl, rfl, hqb2, rfl⟩ := hrel
        by_cases hs0 : s = 0
        · subst hs0
          rw [show ((2 ^ 0 / 2 : Nat) : Int) = 0 from rfl]
          rw [Nat.pow_zero, Nat.div_one] at hqb2
          rw [Nat.pow_zero, Nat.div_one]
          have QQ := hid (show D / b = dval (cs.drop i) / b by rw [← HDD.out])
          have RR := hid (show D % b = dval (cs.drop i) % b by rw [← HDD.out])
          obtain ⟨qe, hqe⟩ : ∃ x, x = D / b := ⟨_, rfl⟩
          obtain ⟨re, hre⟩ : ∃ x, x = D % b := ⟨_, rfl⟩
          rw [← hqe] at QQ hqb2
          rw [← hre] at RR
          rw [← hqe, ← hre]
          clear hqe hre
          go_wp2
          go_roundw
          case rel => exact ⟨i, by omega, rfl, by rw [QQ.out], by rw [RR.out], by rw [← QQ.out]; exact hqb2, by first | rfl | trivial⟩
          case measure => simp [intOf]
        · obtain ⟨u, rfl⟩ : ∃ u, s = u + 1 := ⟨s - 1, by omega⟩
          have hw2 : 2 ^ (u + 1) / 2 = 2 ^ u := by rw [Nat.pow_succ]; omega
          have hwl : 2 ^ u ≤ 524288 := by
            have : 2 ^ u ≤ 2 ^ 19 := Nat.pow_le_pow_right (by decide) (by omega)
            omega
          have hw0 : 0 < 2 ^ u := Nat.two_pow_pos u
          rw [hw2]
          have BS := hid (bit_step c V u (by omega))
          rw [← HDI.out] at BS
          have W2 := hid (show 2 ^ u / 2 = 2 ^ u / 2 from rfl)
          have LEu := hid (show D / 2 ^ u ≤ D from Nat.div_le_self _ _)
          obtain ⟨bit, hbit⟩ : ∃ x, x = c / 2 ^ u % 2 := ⟨_, rfl⟩
          rw [← hbit] at BS
          have hbl : bit < 2 := by rw [hbit]; exact Nat.mod_lt _ (by decide)
          obtain ⟨dw, hdw⟩ : ∃ x, x = c / 2 ^ u := ⟨_, rfl⟩
          have hdl : dw ≤ c := by rw [hdw]; exact Nat.div_le_self _ _
          rw [← hdw] at hbit
          obtain ⟨ww, hww⟩ : ∃ x, x = 2 ^ u := ⟨_, rfl⟩
          have HWW := hid hww
          rw [← hww] at hdw hw0 hwl LEu BS
          rw [← hww]
          obtain ⟨M, hM⟩ : ∃ x, x = D / 2 ^ (u + 1) := ⟨_, rfl⟩
          rw [← hM] at BS hqb2
          rw [← hM]
          have hml : M % b < b := Nat.mod_lt _ hb0
          have S1 := hid (div_step1 M b _ _ bit hb0 rfl rfl hbl)
          have S0 := hid (div_step0 M b _ _ bit hb0 rfl rfl)
          rw [← BS.out] at S1 S0
          obtain ⟨q, hq⟩ : ∃ x, x = M / b := ⟨_, rfl⟩
          obtain ⟨r, hr⟩ : ∃ x, x = M % b := ⟨_, rfl⟩
          rw [← hq] at hqb2 S1 S0
          rw [← hr] at hml S1 S0
          rw [← hq, ← hr]
          have w0 : ((ww : Int) == 0) = false := by simp; omega
          have w0' : ¬ ww = 0 := by omega
          have w1 : decide ((0 : Int) < (ww : Int)) = true := decide_eq_true (by omega)
          have w1' : decide (0 < ww) = true := decide_eq_true (by omega)
          have e1 : IntKind.i64.wrap (2 * (r : Int)) = 2 * (r : Int) := IntWalk.i64_in _ (by omega)
          have e2 : (c : Int) / (ww : Int) = (dw : Int) := by rw [hdw]; rfl
          have e3 : IntKind.i64.wrap (dw : Int) = (dw : Int) := IntWalk.i64_in _ (by omega)
          have e4 : (dw : Int) % 2 = (bit : Int) := by omega
          have e5 : IntKind.i64.wrap (2 * (r : Int) + (bit : Int)) = ((2 * r + bit : Nat) : Int) := by rw [IntWalk.i64_in _ (by omega)]; omega
          obtain ⟨r2, hr2⟩ : ∃ x, x = 2 * r + bit := ⟨_, rfl⟩
          rw [← hr2] at e5 S1 S0
          have i3 : (0 : Int) ≤ (i : Int) := by omega
          have i4 : (i : Int) < 9 := by omega
          have ki : IntKind.i64.wrap (i : Int) = (i : Int) := IntWalk.i64_in _ (by omega)
          have BB := hid hbl; have HM := hid hM; have HBI := hid hbit
          clear hbit hdw hww hM hq hr hw2 hbl
          rcases Bool.eq_false_or_eq_true (decide (b ≤ r2)) with g1 | g1
          · have g1' : decide ((b : Int) ≤ (r2 : Int)) = true := decide_eq_true (by have := of_decide_eq_true g1; omega)
            have SX := hid (S1.out (of_decide_eq_true g1))
            have e10 : IntKind.i64.wrap ((r2 : Int) - (b : Int)) = ((r2 - b : Nat) : Int) := by
              have := of_decide_eq_true g1
              rw [IntWalk.i64_in _ (by omega)]; omega
            obtain ⟨r3, hr3⟩ : ∃ x, x = r2 - b := ⟨_, rfl⟩
            have HR3 := hid hr3
            rw [← hr3] at e10
            clear hr2 hr3 S1 S0
            rcases Bool.eq_false_or_eq_true (decide (576460752303423488 < q)) with g2 | g2
            · have g2' : decide ((576460752303423488 : Int) < (q : Int)) = true := decide_eq_true (by have := of_decide_eq_true g2; omega)
              have BIG := hid (show ¬ N / b ≤ 1152921504606846976 by
                have h1 : D / ww / b ≤ N / b := Nat.div_le_div_right (Nat.le_trans LEu.out HLI.out)
                have h2 := of_decide_eq_true g2
                have h3 := (SX.out.1 : D / ww / b = _)
                omega)
              go_wp2
              go_ret2
              exact ⟨⟨0, by rw [decide_eq_false BIG.out]; rfl, fun h => absurd h BIG.out⟩, rfl⟩
            · have g2' : decide ((576460752303423488 : Int) < (q : Int)) = false := decide_eq_false (by have := of_decide_eq_false g2; omega)
              have hq59 := of_decide_eq_false g2
              have e6 : IntKind.i64.wrap (2 * (q : Int)) = 2 * (q : Int) := IntWalk.i64_in _ (by omega)
              have e7 : IntKind.i64.wrap (2 * (q : Int) + 1) = ((2 * q + 1 : Nat) : Int) := by rw [IntWalk.i64_in _ (by omega)]; omega
              have e8 : (ww : Int) / 2 = ((ww / 2 : Nat) : Int) := by omega
              have e9 : IntKind.i64.wrap ((ww / 2 : Nat) : Int) = ((ww / 2 : Nat) : Int) := IntWalk.i64_in _ (by omega)
              obtain ⟨w2, hw2⟩ : ∃ x, x = ww / 2 := ⟨_, rfl⟩
              have HW2 := hid hw2
              rw [← hw2] at e8 e9
              obtain ⟨qn, hqn⟩ : ∃ x, x = 2 * q + 1 := ⟨_, rfl⟩
              have HQN := hid hqn
              rw [← hqn] at e7
              have QNL := hid (show qn ≤ 1152921504606846977 by omega)
              have WLT := hid (show w2 < ww by omega)
              clear hw2 hqn hq59
              go_wp2
              go_roundw
              case rel => exact ⟨u, by omega, by rw [HW2.out, HWW.out], by rw [← HWW.out, SX.out.1, HQN.out], by rw [← HWW.out, SX.out.2, ← HR3.out], by rw [← HWW.out, SX.out.1, ← HQN.out]; exact QNL.out, by first | rfl | trivial⟩
              case measure => have := WLT.out; simp [intOf]; omega
          · have g1' : decide ((b : Int) ≤ (r2 : Int)) = false := decide_eq_false (by have := of_decide_eq_false g1; omega)
            have SX := hid (S0.out (of_decide_eq_false g1))
            clear hr2 S1 S0
            rcases Bool.eq_false_or_eq_true (decide (576460752303423488 < q)) with g2 | g2
            · have g2' : decide ((576460752303423488 : Int) < (q : Int)) = true := decide_eq_true (by have := of_decide_eq_true g2; omega)
              have BIG := hid (show ¬ N / b ≤ 1152921504606846976 by
                have h1 : D / ww / b ≤ N / b := Nat.div_le_div_right (Nat.le_trans LEu.out HLI.out)
                have h2 := of_decide_eq_true g2
                have h3 := (SX.out.1 : D / ww / b = _)
                omega)
              go_wp2
              go_ret2
              exact ⟨⟨0, by rw [decide_eq_false BIG.out]; rfl, fun h => absurd h BIG.out⟩, rfl⟩
            · have g2' : decide ((576460752303423488 : Int) < (q : Int)) = false := decide_eq_false (by have := of_decide_eq_false g2; omega)
              have hq59 := of_decide_eq_false g2
              have e6 : IntKind.i64.wrap (2 * (q : Int)) = 2 * (q : Int) := IntWalk.i64_in _ (by omega)
              have e7 : (2 * (q : Int)) = ((2 * q : Nat) : Int) := by omega
              have e8 : (ww : Int) / 2 = ((ww / 2 : Nat) : Int) := by omega
              have e9 : IntKind.i64.wrap ((ww / 2 : Nat) : Int) = ((ww / 2 : Nat) : Int) := IntWalk.i64_in _ (by omega)
              obtain ⟨w2, hw2⟩ : ∃ x, x = ww / 2 := ⟨_, rfl⟩
              have HW2 := hid hw2
              rw [← hw2] at e8 e9
              obtain ⟨qn, hqn⟩ : ∃ x, x = 2 * q := ⟨_, rfl⟩
              have HQN := hid hqn
              rw [← hqn] at e7
              have QNL := hid (show qn ≤ 1152921504606846977 by omega)
              have WLT := hid (show w2 < ww by omega)
              clear hw2 hqn hq59
              go_wp2
              go_roundw
              case rel => exact ⟨u, by omega, by rw [HW2.out, HWW.out], by rw [← HWW.out, SX.out.1, HQN.out], by rw [← HWW.out, SX.out.2], by rw [← HWW.out, SX.out.1, ← HQN.out]; exact QNL.out, by first | rfl | trivial⟩
              case measure => have := WLT.out; simp [intOf]; omega
end Go.Proofs.Ytebjdiiogihcdaa
