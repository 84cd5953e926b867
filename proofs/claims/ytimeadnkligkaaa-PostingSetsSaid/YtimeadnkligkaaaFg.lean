/- Contracts of package frame: GetUint. -/
import Derived.Test.YtimeadnkligkaaaFv
namespace Go.Proofs.Ytimeadnkligkaaa
open Go.RowKit

/-- from the k-th byte of a number on -/
def getG (l : List UInt8) (a : Nat) : Nat → Nat → Nat → Int × Int × Int
  | 0, _, _ => (0, 0, 5)
  | f + 1, k, acc =>
    if l.length ≤ a + k then (0, 0, 4)
    else if (k = 8 ∧ 127 < (l.getD (a + k) 0).toNat) ∨ (0 < k ∧ (l.getD (a + k) 0).toNat = 0) then (0, 0, 5)
    else if (l.getD (a + k) 0).toNat < 128 then (((acc + (l.getD (a + k) 0).toNat * 128 ^ k : Nat) : Int), ((a + k + 1 : Nat) : Int), 0)
    else getG l a f (k + 1) (acc + (l.getD (a + k) 0).toNat % 128 * 128 ^ k)
/-- the number at a place, the place behind it, the error -/
def getU (l : List UInt8) (a : Int) : Int × Int × Int :=
  if a < 0 ∨ (l.length : Int) < a then (0, 0, 2) else getG l a.toNat 9 0 0

theorem val_or (acc d k : Nat) (hacc : acc < 128 ^ k) (hk : k ≤ 8) (hd : d < 256) :
    bits BinOp.or IntKind.u64 (acc : Int) (IntKind.u64.wrap (IntKind.u64.wrap (bits BinOp.and IntKind.u8 (d : Int) 127) * 2 ^ (7 * k))) = ((acc + d % 128 * 128 ^ k : Nat) : Int) ∧ acc + d % 128 * 128 ^ k < 128 ^ (k + 1) ∧ acc + d % 128 * 128 ^ k ≤ 9223372036854775807 := by
  have e1 : bits BinOp.and IntKind.u8 (d : Int) 127 = ((d % 128 : Nat) : Int) := by
    rw [show (127 : Int) = ((127 : Nat) : Int) by rfl, u8_and_nat d 127 hd (by decide), nat_mask7]
  have hp : (2 : Nat) ^ (7 * k) = 128 ^ k := by rw [Nat.pow_mul]
  have h8 : 128 ^ k ≤ 128 ^ 8 := Nat.pow_le_pow_right (by decide) hk
  have e8 : (128 : Nat) ^ 8 = 72057594037927936 := by decide
  have hm : d % 128 * 128 ^ k ≤ 127 * 128 ^ k := Nat.mul_le_mul_right _ (by omega)
  have h3 : d % 128 * 128 ^ k < 9223372036854775808 := by omega
  have e2 : IntKind.u64.wrap (IntKind.u64.wrap (((d % 128 : Nat) : Int)) * 2 ^ (7 * k)) = ((d % 128 * 128 ^ k : Nat) : Int) := by
    rw [IntKind.wrap_u64, IntKind.wrap_u64, show (((d % 128 : Nat) : Int)) % 18446744073709551616 = ((d % 128 : Nat) : Int) by omega]
    have : (((d % 128 : Nat) : Int)) * 2 ^ (7 * k) = ((d % 128 * 128 ^ k : Nat) : Int) := by rw [← hp]; simp
    rw [this]
    omega
  rw [e1, e2, u64_or_nat _ _ (by omega) (by omega)]
  refine ⟨?_, ?_, by omega⟩
  · congr 1
    rw [Nat.or_comm, nat_join (7 * k) _ _ (by rw [hp]; exact Nat.mul_mod_left _ _) (by rw [hp]; exact hacc), Nat.add_comm]
  · rw [Nat.pow_succ]; omega

theorem val_or0 (acc d : Nat) {X : Int} (h : bits BinOp.or IntKind.u64 (acc : Int) (IntKind.u64.wrap (IntKind.u64.wrap (bits BinOp.and IntKind.u8 (d : Int) 127) * 2 ^ (7 * 0))) = X) :
    bits BinOp.or IntKind.u64 (acc : Int) (IntKind.u64.wrap (IntKind.u64.wrap (bits BinOp.and IntKind.u8 (d : Int) 127))) = X := by simpa using h
theorem getG_bad (l : List UInt8) (a f k acc d : Nat) (hlt : a + k < l.length) (hd : d = (l.getD (a + k) 0).toNat) (h : (k = 8 ∧ 127 < d) ∨ (0 < k ∧ d = 0)) : getG l a (f + 1) k acc = (0, 0, 5) := by
  subst hd
  rw [getG, if_neg (by omega), if_pos h]
theorem getG_end (l : List UInt8) (a f k acc d : Nat) (hlt : a + k < l.length) (hd : d = (l.getD (a + k) 0).toNat) (h : ¬ ((k = 8 ∧ 127 < d) ∨ (0 < k ∧ d = 0))) (hs : d < 128) : getG l a (f + 1) k acc = (((acc + d * 128 ^ k : Nat) : Int), ((a + k + 1 : Nat) : Int), 0) := by
  subst hd
  rw [getG, if_neg (by omega), if_neg h, if_pos hs]
theorem getG_go (l : List UInt8) (a f k acc d : Nat) (hlt : a + k < l.length) (hd : d = (l.getD (a + k) 0).toNat) (h : ¬ ((k = 8 ∧ 127 < d) ∨ (0 < k ∧ d = 0))) (hs : ¬ d < 128) : getG l a (f + 1) k acc = getG l a f (k + 1) (acc + d % 128 * 128 ^ k) := by
  subst hd
  rw [getG, if_neg (by omega), if_neg h, if_neg hs]
theorem getG_short (l : List UInt8) (a f k acc : Nat) (hlt : ¬ a + k < l.length) : getG l a (f + 1) k acc = (0, 0, 4) := by
  rw [getG, if_pos (by omega)]

set_option maxRecDepth 100000 in
set_option maxHeartbeats 2000000 in
theorem getUint_in (b off c : Nat) (l : List UInt8) (a : Nat) (w : World) (hl : l.length ≤ 140737488355328) (ha : a < l.length) (hlc : l.length ≤ c)
    (hcell : ∀ j, j < l.length → w.cell? ⟨b, off + j, none⟩ = some (.int .u8 ((l.getD j 0).toNat : Int))) :
    Calls Try.prog 34 #[.slice (some ⟨b, off, none⟩) l.length c, .int .i64 a] w fun e w' => e = .returned (.tuple #[.int .i64 (getG l a 9 0 0).1, .int .i64 (getG l a 9 0 0).2.1, .int .i64 (getG l a 9 0 0).2.2]) ∧ w' = w := by
  have HC := hid hcell; clear hcell
  have i0 : (0 : Int) ≤ (a : Int) := by omega
  have i1 : (a : Int) ≤ (l.length : Int) := by omega
  have i2 : (a : Int) < (c : Int) := by omega
  have i3 : (l.length : Int) ≤ (c : Int) := by omega
  have i5 : decide ((a : Int) < 0) = false := by simp
  have i6 : decide ((l.length : Int) < (a : Int)) = false := by simp; omega
  go_enter Try.func34, Try.ntmps34
  go_wp2
  go_loop [7, 22] (fun v i => ∃ k acc : Nat, k ≤ 8 ∧ a + k ≤ l.length ∧ i = .int .i64 k ∧ v = .int .u64 acc ∧ acc < 128 ^ k ∧ getG l a 9 0 0 = getG l a (9 - k) k acc)
    (fun _ i => l.length - (intOf i).toNat)
  case atStart => exact ⟨0, 0, by omega, by omega, rfl, rfl, by decide, rfl⟩
  case round =>
    obtain ⟨k, acc, hk8, hkl, rfl, rfl, hacc, hG⟩ := hrel
    rw [show 9 - k = 8 - k + 1 by omega] at hG
    have HA := hid hacc; have HG := hid hG; clear hacc hG
    by_cases hlt : a + k < l.length
    · have hc := HC.out (a + k) hlt
      rw [← Nat.add_assoc] at hc
      have hd256 := UInt8.toNat_lt (l.getD (a + k) 0)
      obtain ⟨d, hd⟩ : ∃ d, d = (l.getD (a + k) 0).toNat := ⟨_, rfl⟩
      rw [← hd] at hc hd256
      have HD := hid hd; clear hd
      have i4 : (k : Int) < (l.length : Int) - a := by omega
      by_cases hbad : (k = 8 ∧ 127 < d) ∨ (0 < k ∧ d = 0)
      · have hR := hid (HG.out.trans (getG_bad l a (8 - k) k acc d hlt HD.out hbad))
        rcases hbad with ⟨h8, h127⟩ | ⟨h0, hz⟩
        · have hz : ((d : Int) == 0) = false := by simp; omega
          subst h8
          go_wp2
          go_ret3
          exact ⟨by rw [hR.out]; rfl, rfl⟩
        · have hz' : ((d : Int) == 0) = true := by simp; omega
          have hle : (d : Int) ≤ 127 := by omega
          clear hz
          by_cases h8 : k = 8
          · subst h8
            go_wp2
            go_ret3
            exact ⟨by rw [hR.out]; rfl, rfl⟩
          · have h8i : ¬ (k : Int) = 8 := by omega
            go_wp2
            go_ret3
            exact ⟨by rw [hR.out]; rfl, rfl⟩
      · have hv := val_or acc d k HA.out hk8 hd256
        obtain ⟨X, hX⟩ : ∃ X, X = acc + d % 128 * 128 ^ k := ⟨_, rfl⟩
        rw [← hX] at hv
        have hX2 := hv.2.2
        have HV := hid hv; have HX := hid hX; clear hv hX
        by_cases hsm : d < 128
        · have hR := hid (HG.out.trans (getG_end l a (8 - k) k acc d hlt HD.out hbad hsm))
          have hXd := hid (show X = acc + d * 128 ^ k by rw [HX.out, Nat.mod_eq_of_lt hsm])
          by_cases hk0 : k = 0
          · subst hk0
            rw [Nat.add_zero] at hc
            have hv0 := hid (val_or0 acc d HV.out.1)
            go_wp2
            go_ret3
            refine ⟨?_, rfl⟩
            rw [hR.out]
            show Ending.returned (.tuple #[.int .i64 (wrap64 _), .int .i64 _, .int .i64 _]) = _
            rw [hv0.out, IntWalk.wrap64_in _ ⟨by omega, by omega⟩, hXd.out]
            rfl
          · have hdz : ((d : Int) == 0) = false := by simp; omega
            by_cases hk8' : k = 8
            · subst hk8'
              have hv1 := hid (show bits BinOp.or IntKind.u64 (acc : Int) (IntKind.u64.wrap (IntKind.u64.wrap (bits BinOp.and IntKind.u8 (d : Int) 127) * 72057594037927936)) = (X : Int) from HV.out.1)
              go_wp2
              go_ret3
              refine ⟨?_, rfl⟩
              rw [hR.out]
              show Ending.returned (.tuple #[.int .i64 (wrap64 _), .int .i64 _, .int .i64 _]) = _
              rw [hv1.out, IntWalk.wrap64_in _ ⟨by omega, by omega⟩, hXd.out]
              rfl
            · have h8i : ¬ (k : Int) = 8 := by omega
              have hkp : (0 : Int) < (k : Int) := by omega
              go_wp2
              go_ret3
              refine ⟨?_, rfl⟩
              rw [hR.out]
              show Ending.returned (.tuple #[.int .i64 (wrap64 _), .int .i64 _, .int .i64 _]) = _
              rw [HV.out.1, IntWalk.wrap64_in _ ⟨by omega, by omega⟩, hXd.out]
              rfl
        · have hR := HG.out.trans (getG_go l a (8 - k) k acc d hlt HD.out hbad hsm)
          have hdz : ((d : Int) == 0) = false := by simp; omega
          have hk7 : k < 8 := by omega
          have hbd := HV.out.2.1
          rw [show 8 - k = 9 - (k + 1) by omega, ← HX.out] at hR
          have HR := hid hR; have HB := hid hbd; clear hR hbd
          by_cases hk0 : k = 0
          · subst hk0
            rw [Nat.add_zero] at hc
            have hv0 := hid (val_or0 acc d HV.out.1)
            go_wp2
            go_round
            case rel => exact ⟨1, X, by omega, by omega, by go_num, by rw [hv0.out], HB.out, HR.out⟩
            case measure => simp [intOf]; omega
          · have h8i : ¬ (k : Int) = 8 := by omega
            have hkp : (0 : Int) < (k : Int) := by omega
            go_wp2
            go_round
            case rel => exact ⟨_, _, _, .int .u64 (X : Nat), _, _, .int .i64 ((k + 1 : Nat) : Int), ⟨k + 1, by omega, by omega, rfl, X, rfl, HB.out, HR.out⟩, rfl, rfl, rfl, by rw [HV.out.1], rfl, rfl, by go_num⟩
            case measure => simp [intOf]; omega
    · have hR := hid (HG.out.trans (getG_short l a (8 - k) k acc hlt))
      go_wp2
      go_ret3
      exact ⟨by rw [hR.out]; rfl, rfl⟩
end Go.Proofs.Ytimeadnkligkaaa
