/- Contracts of the reference gaugeref02: GetUint. -/
import Derived.Test.YtimeadnkligkaaaFh
namespace Go.Proofs.Ytimeadnkligkaaa
open Go.RowKit

theorem ref_val (acc d W X : Nat) (h : X = acc + d % 128 * W) (hX : X ≤ 9223372036854775807) : wrap64 ((acc : Int) + wrap64 ((d : Int) % 128 * (W : Int))) = (X : Int) := by
  have e : (d : Int) % 128 * (W : Int) = ((d % 128 * W : Nat) : Int) := by simp
  have h1 : d % 128 * W ≤ X := by omega
  rw [e, IntWalk.wrap64_in ((d % 128 * W : Nat) : Int) ⟨by omega, by omega⟩, IntWalk.wrap64_in _ ⟨by omega, by omega⟩]
  omega

set_option maxRecDepth 100000 in
set_option maxHeartbeats 2000000 in
theorem refGetUint_in (ao : Option Addr) (c : Nat) (l : List UInt8) (a : Nat) (w : World) (hl : l.length ≤ 140737488355328) (ha : a ≤ l.length) (hb : Sl w 1 (.slice ao l.length c) l.length (bc l)) :
    Calls Try.prog 35 #[.slice ao l.length c, .int .i64 a] w fun e w' => e = retU (getG l a 9 0 0) ∧ w' = w := by
  have Hb := hid hb; clear hb
  have i5 : decide ((a : Int) < 0) = false := by simp
  have i6 : decide ((l.length : Int) < (a : Int)) = false := by simp; omega
  go_enter Try.func35, Try.ntmps35
  go_wp2
  go_loop [7, 8, 9] (fun v x i => ∃ k acc W : Nat, k ≤ 9 ∧ a + k ≤ l.length ∧ i = .int .i64 k ∧ v = .int .i64 acc ∧ x = .int .i64 W ∧ (k ≤ 8 → W = 128 ^ k ∧ acc < 128 ^ k ∧ getG l a 9 0 0 = getG l a (8 - k + 1) k acc) ∧ (k = 9 → getG l a 9 0 0 = (0, 0, 5)))
    (fun _ _ i => 9 - (intOf i).toNat)
  case atStart => exact ⟨0, 0, 1, by omega, by omega, rfl, rfl, rfl, fun _ => ⟨rfl, by decide, rfl⟩, by omega⟩
  case round =>
    obtain ⟨k, acc, W, hk9, hkl, rfl, rfl, rfl, h8, h9⟩ := hrel
    have H8 := hid h8; have H9 := hid h9; clear h8 h9
    by_cases hk : k ≤ 8
    · obtain ⟨hW, hacc, hG⟩ := H8.out hk
      have HA := hid hacc; have HG := hid hG; have HW := hid hW
      have hWb : W ≤ 72057594037927936 := by
        have h1 : 128 ^ k ≤ 128 ^ 8 := Nat.pow_le_pow_right (by decide) hk
        have e8 : (128 : Nat) ^ 8 = 72057594037927936 := by decide
        omega
      clear hacc hG hW
      by_cases hlt : a + k < l.length
      · obtain ⟨b, off, c', hv, _, _, hbw, hcell⟩ := Hb.out.form (by decide) (by omega)
        simp only [Value.slice.injEq] at hv
        obtain ⟨rfl, _, rfl⟩ := hv
        have hc := hcell (a + k) (by omega)
        rw [bc_get _ _ hlt] at hc
        clear hcell
        have hd256 : (l.getD (a + k) 0).toNat < 256 := UInt8.toNat_lt _
        obtain ⟨d, hd⟩ : ∃ d, d = (l.getD (a + k) 0).toNat := ⟨_, rfl⟩
        rw [← hd] at hc hd256
        have HD := hid hd; clear hd
        have hv := val_or acc d k HA.out hk hd256
        obtain ⟨X, hX⟩ : ∃ X, X = acc + d % 128 * 128 ^ k := ⟨_, rfl⟩
        rw [← hX] at hv
        have hval := hid (ref_val acc d W X (by rw [hX, HW.out]) hv.2.2)
        have HV := hid hv; have HX := hid hX; clear hv hX
        by_cases hsm : d < 128
        · by_cases hz : 0 < k ∧ d = 0
          · have hR := hid (HG.out.trans (getG_bad l a (8 - k) k acc d hlt HD.out (.inr hz)))
            have hdz : ((d : Int) == 0) = true := by simp; omega
            have hk0 : (0 : Int) < (k : Int) := by omega
            clear hz
            go_wp2
            go_ret3
            exact ⟨by rw [hR.out]; rfl, rfl⟩
          · have hR := hid (HG.out.trans (getG_end l a (8 - k) k acc d hlt HD.out (by omega) hsm))
            have hXd := hid (show X = acc + d * 128 ^ k by rw [HX.out, Nat.mod_eq_of_lt hsm])
            by_cases hd0 : d = 0
            · have hk0 : k = 0 := by omega
              have hdz : ((d : Int) == 0) = true := by simp; omega
              have hki : (k : Int) ≤ 0 := by omega
              clear hz hd0 hk0
              go_wp2
              go_ret3
              refine ⟨?_, rfl⟩
              unfold retU
              rw [hR.out]
              show Ending.returned (.tuple #[.int .i64 (wrap64 _), .int .i64 _, .int .i64 _]) = _
              rw [hval.out, hXd.out]
              rfl
            · have hdz : ((d : Int) == 0) = false := by simp; omega
              clear hz
              go_wp2
              go_ret3
              refine ⟨?_, rfl⟩
              unfold retU
              rw [hR.out]
              show Ending.returned (.tuple #[.int .i64 (wrap64 _), .int .i64 _, .int .i64 _]) = _
              rw [hval.out, hXd.out]
              rfl
        · by_cases hk7 : k < 8
          · have hR := HG.out.trans (getG_go l a (8 - k) k acc d hlt HD.out (by omega) hsm)
            rw [show 8 - k = 8 - (k + 1) + 1 by omega, ← HX.out] at hR
            have HR := hid hR; clear hR
            have hW2 : W ≤ 562949953421312 := by
              have h1 : 128 ^ k ≤ 128 ^ 7 := Nat.pow_le_pow_right (by decide) (by omega)
              have e8 : (128 : Nat) ^ 7 = 562949953421312 := by decide
              rw [HW.out]; omega
            go_wp2
            go_round
            case rel => exact ⟨k + 1, X, W * 128, by omega, by omega, by go_num, by rw [hval.out], by go_num, fun _ => ⟨by rw [HW.out, Nat.pow_succ], HV.out.2.1, HR.out⟩, by omega⟩
            case measure => simp [intOf]; omega
          · have hR := hid (HG.out.trans (getG_bad l a (8 - k) k acc d hlt HD.out (.inl ⟨by omega, by omega⟩)))
            go_wp2
            go_round
            case rel => exact ⟨k + 1, X, W, by omega, by omega, by go_num, by rw [hval.out], rfl, by omega, fun _ => hR.out⟩
            case measure => simp [intOf]; omega
      · have hR := hid (HG.out.trans (getG_short l a (8 - k) k acc hlt))
        go_wp2
        go_ret3
        exact ⟨by rw [hR.out]; rfl, rfl⟩
    · have hR := hid (H9.out (by omega))
      go_wp2
      go_ret3
      exact ⟨by rw [hR.out]; rfl, rfl⟩
end Go.Proofs.Ytimeadnkligkaaa
