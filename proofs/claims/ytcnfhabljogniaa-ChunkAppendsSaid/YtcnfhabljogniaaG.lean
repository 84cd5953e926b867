/- Contracts of the reference gaugeref01: Bit, Right; the walk of BitsRights. -/
import Derived.Test.YtcnfhabljogniaaE
namespace Go.Proofs.Ytcnfhabljogniaa
open Go.RowKit

/-- halvings -/
theorem div_pow_succ (z k : Nat) : z / 2 ^ (k + 1) = z / 2 ^ k / 2 := by rw [Nat.pow_succ, Nat.div_div_eq_div_mul]

set_option maxRecDepth 100000 in
set_option maxHeartbeats 1000000 in
theorem refBit_any (bv : Value) (l : List UInt8) (N : Int) (i : Nat) (w : World) (hi : i < 8 * l.length) (hl : l.length ≤ 200000000000000) (hb : Sl w 1 bv l.length (bc l)) :
    Calls Try.prog 56 #[.agg #[bv, .int .i64 N], .int .i64 i] w fun e w' => e = .returned (.int .u64 (bitAt l i : Nat)) ∧ Below w.heap.size w w' := by
  obtain ⟨b, off, c, rfl, hlc, _, hbl, hcell⟩ := hb.form (by decide) (by omega)
  have hc := hcell (i / 8) (by omega)
  rw [bc_get l (i / 8) (by omega)] at hc
  have hix : (i : Int) / 8 < (l.length : Int) := by omega
  obtain ⟨z, hz⟩ : ∃ z : Nat, z = (l.getD (i / 8) 0).toNat := ⟨_, rfl⟩
  have hz8 : z < 256 := by rw [hz]; exact UInt8.toNat_lt _
  have hbit := hid (show bitAt l i = z / 2 ^ (7 - i % 8) % 2 by rw [hz]; rfl)
  rw [← hz] at hc
  have Hz := hid hz
  clear hcell hb hz
  go_enter Try.func56, Try.ntmps56
  go_wp2
  go_loop [5, 6] (fun v k => ∃ m : Nat, m ≤ 7 - i % 8 ∧ k = .int .i64 m ∧ v = .int .u64 (z / 2 ^ m : Nat))
    (fun _ k => 7 - i % 8 - (intOf k).toNat)
  case atStart => exact ⟨0, Nat.zero_le _, rfl, by simp⟩
  case round =>
    obtain ⟨m, hm, rfl, rfl⟩ := hrel
    have hq := hid (div_pow_succ z m)
    obtain ⟨y, hy⟩ : ∃ y, y = z / 2 ^ m := ⟨_, rfl⟩
    have hy8 : y < 256 := by rw [hy]; exact Nat.lt_of_le_of_lt (Nat.div_le_self _ _) hz8
    rw [← hy] at hq ⊢
    have Hy := hid hy; clear hy
    by_cases hlt : m < 7 - i % 8
    · have hlt' : (m : Int) < 7 - (i : Int) % 8 := by omega
      go_wp2
      go_round
      case rel => exact ⟨m + 1, by omega, by go_num, by rw [hq.out]; go_num⟩
      case measure => simp [intOf]; omega
    · have hlt' : ¬ (m : Int) < 7 - (i : Int) % 8 := by omega
      obtain rfl : m = 7 - i % 8 := by omega
      go_wp2
      go_ret
      exact ⟨ret_int (by show (y : Int) % 2 = _; rw [hbit.out, ← Hy.out]; omega), (Below.refl _ _).alloc (Nat.le_refl _) _⟩

theorem last_bits : ∀ r : Fin 8, ∀ z : Fin 256, (∀ j : Fin 8, r.val ≤ j.val → z.val / 2 ^ (7 - j.val) % 2 = 0) → z.val * 2 ^ r.val % 256 = 0 := by decide +kernel

theorem Rt_rightB {l : List UInt8} {m : Nat} (h : Rt l m) : rightB l m = true := by
  unfold rightB
  obtain ⟨hl, hz⟩ := h
  have h1 : ((l.length : Int) = ((m : Int) + 7) / 8) := by omega
  simp only [Bool.and_eq_true, Bool.or_eq_true, decide_eq_true_eq]
  refine ⟨by omega, h1, ?_⟩
  by_cases h8 : m % 8 = 0
  · left; omega
  · right
    have hb : (l.getD (l.length - 1) 0).toNat < 256 := UInt8.toNat_lt _
    have := last_bits ⟨m % 8, by omega⟩ ⟨_, hb⟩ (fun j hj => by
      have hz' := hz (8 * (m / 8) + j.val) (by simp at hj; omega) (by have := j.isLt; omega)
      unfold bitAt at hz'
      rw [show (8 * (m / 8) + j.val) / 8 = l.length - 1 by have := j.isLt; omega, show (8 * (m / 8) + j.val) % 8 = j.val by have := j.isLt; omega] at hz'
      exact hz')
    simp only at this
    rw [show ((m : Int) % 8).toNat = m % 8 by omega]
    have e : (((l.getD (l.length - 1) 0).toNat * 2 ^ (m % 8) % 256 : Nat) : Int) = 0 := by rw [this]; rfl
    simpa using e

set_option maxRecDepth 100000 in
set_option maxHeartbeats 1000000 in
theorem refRight_any (bv : Value) (l : List UInt8) (N : Int) (w : World) (hN0 : -9223372036854775808 ≤ N) (hN : N ≤ 9223372036854775807) (hl : l.length ≤ 200000000000000) (hb : Sl w 1 bv l.length (bc l)) :
    Calls Try.prog 52 #[.agg #[bv, .int .i64 N]] w fun e w' => e = .returned (.bool (rightB l N)) ∧ Below w.heap.size w w' := by
  obtain ⟨ao, c, rfl, _, _, _⟩ := hb.shape
  have Hb := hid hb; clear hb
  by_cases h0 : N < 0
  · have e : rightB l N = false := by unfold rightB; simp; omega
    rw [e]
    have hd : decide (N < 0) = true := by simpa using h0
    clear e
    go_enter Try.func52, Try.ntmps52
    go_wp2
    go_ret
    exact ⟨rfl, (Below.refl _ _).alloc (Nat.le_refl _) _⟩
  obtain ⟨m, rfl⟩ := Int.eq_ofNat_of_zero_le (show 0 ≤ N by omega)
  have hd : decide ((m : Int) < 0) = false := by simp
  by_cases hlen : l.length = m / 8 + (m % 8 + 7) / 8
  · have hd2 : ((l.length : Int) != (m : Int) / 8 + ((m : Int) % 8 + 7) / 8) = false := by simp; omega
    have hlen8 : l.length = (m + 7) / 8 := by omega
    have Hl := hid hlen; have Hl8 := hid hlen8
    have hm1 : m ≤ 8 * l.length := by omega
    clear hlen hlen8
    go_enter Try.func52, Try.ntmps52
    go_wp2
    go_loopw [3] (fun i wr => ∃ k : Nat, m ≤ k ∧ k ≤ 8 * l.length ∧ i = .int .i64 k ∧ (∀ j, m ≤ j → j < k → bitAt l j = 0) ∧ wr.heap[w.heap.size]? = some (.cells #[.slice ao l.length c, .int .i64 m] 58 (0, 0)) ∧ Below w.heap.size w wr)
      (fun i _ => 8 * l.length - (intOf i).toNat)
    case atStart => exact ⟨m, Nat.le_refl _, hm1, rfl, by intro j h1 h2; omega, blk_new w _ _ rfl, (Below.refl _ _).alloc (Nat.le_refl _) _⟩
    case round =>
      obtain ⟨k, hmk, hk, rfl, hz, hB, hbel⟩ := hrel
      obtain ⟨a0, a1, a2, a3, a4⟩ := blk2 hB
      have H := hid hB; have L := hid hbel; have HZ := hid hz; clear hB hbel hz
      by_cases hlt : k < 8 * l.length
      · by_cases hbz : bitAt l k = 0
        · have hd3 : (((bitAt l k : Nat) : Int) != 0) = false := by simp [hbz]
          have Hbz := hid hbz; clear hbz
          go_wp2_with (go_at_call 56; refine (refBit_any (.slice ao l.length c) l m k _ hlt hl (Hb.out.below L.out (fun _ _ h => h))).mono ?_; rintro e w1 ⟨rfl, hb1⟩; have B1 := hid hb1; have x0 := blk_below H.out hb1 a4; have X0 := hid x0; obtain ⟨b0, b1, b2, b3, b4⟩ := blk2 x0; clear x0 hb1)
          go_roundw
          case rel =>
            refine ⟨k + 1, by omega, by omega, by go_num, fun j h1 h2 => ?_, X0.out, L.out.trans (B1.out.mono L.out.size)⟩
            by_cases hj : j = k
            · rw [hj]; exact Hbz.out
            · exact HZ.out j h1 (by omega)
          case measure => simp [intOf]; omega
        · have hd3 : (((bitAt l k : Nat) : Int) != 0) = true := by simp [hbz]
          have e : rightB l m = false := by
            cases hr : rightB l m with
            | false => rfl
            | true => exact absurd ((rightB_Rt hr).2.2 k (by simpa using hmk) hlt) hbz
          have He := hid e; clear e hbz
          go_wp2_with (go_at_call 56; refine (refBit_any (.slice ao l.length c) l m k _ hlt hl (Hb.out.below L.out (fun _ _ h => h))).mono ?_; rintro e w1 ⟨rfl, hb1⟩; have B1 := hid hb1; have x0 := blk_below H.out hb1 a4; have X0 := hid x0; obtain ⟨b0, b1, b2, b3, b4⟩ := blk2 x0; clear x0 hb1)
          go_ret
          exact ⟨ret_bool He.out.symm, L.out.trans (B1.out.mono L.out.size)⟩
      · go_wp2
        go_ret
        refine ⟨ret_bool ?_, L.out⟩
        exact (Rt_rightB ⟨Hl8.out, fun j h1 h2 => HZ.out j h1 (by omega)⟩).symm
  · have hd2 : ((l.length : Int) != (m : Int) / 8 + ((m : Int) % 8 + 7) / 8) = true := by simp; omega
    have e : rightB l m = false := by unfold rightB; simp; omega
    rw [e]
    clear e
    have Hl := hid hlen; clear hlen
    go_enter Try.func52, Try.ntmps52
    go_wp2
    go_ret
    exact ⟨rfl, (Below.refl _ _).alloc (Nat.le_refl _) _⟩

theorem held_below {w wc w1 : World} {bv nv : Value} (h : wc.cell? ⟨w.heap.size, 0, none⟩ = some bv ∧ wc.cell? ⟨w.heap.size, 1, none⟩ = some nv ∧ w.heap.size < wc.heap.size ∧ Below w.heap.size w wc) (hb : Below wc.heap.size wc w1) :
    w1.cell? ⟨w.heap.size, 0, none⟩ = some bv ∧ w1.cell? ⟨w.heap.size, 1, none⟩ = some nv ∧ w.heap.size < w1.heap.size ∧ Below w.heap.size w w1 := by
  obtain ⟨h0, h1, h2, h3⟩ := h
  exact ⟨(hb.cell (p := ⟨w.heap.size, 0, none⟩) h2).trans h0, (hb.cell (p := ⟨w.heap.size, 1, none⟩) h2).trans h1, Nat.lt_of_lt_of_le h2 hb.size, h3.trans (hb.mono (Nat.le_of_lt h2))⟩

end Go.Proofs.Ytcnfhabljogniaa
