/- Contracts of package frame and of its reference: Sum. -/
import Derived.Test.YtecnjgiodnphcaaProg
import Derived.Test.YtecnjgiodnphcaaGk
import Derived.Laws.BitsAllLaws
import Derived.Lib.Zigzag
namespace Go.Proofs.Ytecnjgiodnphcaa
open Go.RowKit

/-- one bit of the sum -/
def crc1 (c : Nat) : Nat := (c / 2) ^^^ (if c % 2 = 1 then 2197175160 else 0)
def crcN (c : Nat) : Nat → Nat
  | 0 => c
  | k + 1 => crc1 (crcN c k)
def crcB (c : Nat) (b : UInt8) : Nat := crcN (c ^^^ b.toNat) 8
def crcL (c : Nat) (l : List UInt8) : Nat := l.foldl crcB c
/-- the sum of bytes -/
def sumL (l : List UInt8) : Nat := 4294967295 - crcL 4294967295 l

theorem xor_lt32 {a b : Nat} (ha : a < 4294967296) (hb : b < 4294967296) : a ^^^ b < 4294967296 := Nat.xor_lt_two_pow (n := 32) ha hb
theorem crc1_lt {c : Nat} (h : c < 4294967296) : crc1 c < 4294967296 := by
  unfold crc1
  refine xor_lt32 (by omega) ?_
  split <;> decide
theorem crcN_lt {c : Nat} (h : c < 4294967296) (k : Nat) : crcN c k < 4294967296 := by
  induction k with
  | zero => exact h
  | succ k ih => exact crc1_lt ih
theorem crcB_lt {c : Nat} (h : c < 4294967296) (b : UInt8) : crcB c b < 4294967296 := crcN_lt (xor_lt32 h (by have := UInt8.toNat_lt b; omega)) 8
theorem crcL_lt {c : Nat} (h : c < 4294967296) (l : List UInt8) : crcL c l < 4294967296 := by
  unfold crcL
  induction l generalizing c with
  | nil => exact h
  | cons b l ih => exact ih (crcB_lt h b)
theorem crcL_snoc (c : Nat) (l : List UInt8) (k : Nat) (h : k < l.length) : crcL c (l.take (k + 1)) = crcB (crcL c (l.take k)) (l.getD k 0) := by
  unfold crcL
  rw [List.take_succ_eq_append_getElem h, List.foldl_append]
  simp [List.getD, h]
theorem sumL_lt (l : List UInt8) : sumL l < 4294967296 := by unfold sumL; omega

theorem crc1_bits (c : Nat) (hc : c < 4294967296) : bits BinOp.xor IntKind.u32 ((c : Int) / 2) (bits BinOp.and IntKind.u32 2197175160 (-bits BinOp.and IntKind.u32 (c : Int) 1 % 4294967296)) = ((crc1 c : Nat) : Int) := by
  have e1 : bits BinOp.and IntKind.u32 (c : Int) 1 = ((c % 2 : Nat) : Int) := by
    rw [show (1 : Int) = ((1 : Nat) : Int) by rfl, u32_and_nat c 1 hc (by decide), nat_mask1]
  rw [e1]
  unfold crc1
  by_cases h : c % 2 = 1
  · rw [h, if_pos rfl]
    have e2 : (-(((1 : Nat)) : Int)) % 4294967296 = ((4294967295 : Nat) : Int) := by decide
    rw [e2, show (2197175160 : Int) = ((2197175160 : Nat) : Int) by rfl, u32_and_nat _ _ (by decide) (by decide), show (2197175160 &&& 4294967295 : Nat) = 2197175160 by decide]
    rw [show ((c : Int) / 2) = ((c / 2 : Nat) : Int) by omega, u32_xor_nat _ _ (by omega) (by decide)]
  · have h0 : c % 2 = 0 := by omega
    rw [h0, if_neg (by decide)]
    have e2 : (-(((0 : Nat)) : Int)) % 4294967296 = ((0 : Nat) : Int) := by decide
    rw [e2, show (2197175160 : Int) = ((2197175160 : Nat) : Int) by rfl, u32_and_nat _ _ (by decide) (by decide), show (2197175160 &&& 0 : Nat) = 0 by decide]
    rw [show ((c : Int) / 2) = ((c / 2 : Nat) : Int) by omega, u32_xor_nat _ _ (by omega) (by decide)]

theorem xor_ones32 (b : Nat) (hb : b < 2 ^ 32) : (2 ^ 32 - 1) ^^^ b = 2 ^ 32 - 1 - b := by
  apply Nat.eq_of_testBit_eq
  intro i
  rw [Nat.testBit_xor, Nat.testBit_two_pow_sub_one, show 2 ^ 32 - 1 - b = 2 ^ 32 - (b + 1) by omega, Nat.testBit_two_pow_sub_succ hb]
  by_cases hi : i < 32
  · simp [hi]
  · have : b.testBit i = false := Nat.testBit_lt_two_pow (Nat.lt_of_lt_of_le hb (Nat.pow_le_pow_right (by decide) (by omega)))
    simp [hi, this]

theorem step_any (c : Nat) (Bc : Nat) (w : World) (hc : c < 4294967296) (hB : w.heap[Bc]? = some (.cells #[.int .u32 c] 24 (0, 0))) :
    Calls Try.prog 34 #[.pointer (some ⟨Bc, 0, none⟩)] w fun e w' => e = .returned (.tuple #[]) ∧ w'.heap[Bc]? = some (.cells #[.int .u32 ((crc1 c : Nat) : Int)] 24 (0, 0)) ∧ Below Bc w w' := by
  obtain ⟨a0, a1, a2⟩ := blk1 hB
  have H := hid hB; clear hB
  go_enter Try.func34, Try.ntmps34
  go_wp2
  go_end0
  refine ⟨rfl, ?_, (Below.refl _ _).setCell (by exact Nat.le_refl _) _⟩
  rw [crc1_bits c hc]
  exact blk_setCell H.out 0 _

set_option maxHeartbeats 1000000 in
theorem sum_any (v : Value) (l : List UInt8) (w : World) (hl : l.length ≤ 140737488355328) (hb : Sl w 1 v l.length (bc l)):
    Calls Try.prog 14 #[v] w fun e w' => e = .returned (.int .u32 (sumL l : Nat)) ∧ Below w.heap.size w w' := by
  obtain ⟨ao, c, rfl, _, _, _⟩ := hb.shape
  have Hb := hid hb; clear hb
  go_enter Try.func14, Try.ntmps14
  go_wp2
  go_loopw [10] (fun i wr => ∃ k : Nat, k ≤ l.length ∧ i = .int .i64 k ∧ wr.heap[w.heap.size]? = some (.cells #[.int .u32 (crcL 4294967295 (l.take k) : Nat)] 24 (0, 0)) ∧ Below w.heap.size w wr)
    (fun i _ => l.length - (intOf i).toNat)
  case atStart => exact ⟨0, Nat.zero_le _, rfl, blk_new w _ _ rfl, (Below.refl _ _).alloc (Nat.le_refl _) _⟩
  case round =>
    obtain ⟨k, hk, rfl, hB, hbel⟩ := hrel
    obtain ⟨a0, a1, a2⟩ := blk1 hB
    have H := hid hB; have L := hid hbel; clear hB hbel
    by_cases hlt : k < l.length
    · obtain ⟨b, off, c', hv', _, _, hbw, hcell⟩ := Hb.out.form (by decide) (by omega)
      simp only [Value.slice.injEq] at hv'
      obtain ⟨rfl, _, rfl⟩ := hv'
      have hcb : wr.cell? ⟨b, off + k, none⟩ = some (.int .u8 ((l.getD k 0).toNat : Int)) := by
        rw [L.out.cell (p := ⟨b, off + k, none⟩) hbw, hcell k (by omega), bc_get l k hlt]
      clear hcell
      have hcl := crcL_lt (c := 4294967295) (by decide) (l.take k)
      have hs := hid (crcL_snoc 4294967295 l k hlt)
      obtain ⟨C, hC⟩ : ∃ C, C = crcL 4294967295 (l.take k) := ⟨_, rfl⟩
      obtain ⟨B, hBB⟩ : ∃ B, B = l.getD k 0 := ⟨_, rfl⟩
      rw [← hC] at a0 H hcl hs
      rw [← hBB] at hcb hs
      have HC := hid hC; have HB := hid hBB
      clear hC hBB
      have hB8 : B.toNat < 256 := UInt8.toNat_lt B
      have hX : C ^^^ B.toNat < 4294967296 := xor_lt32 hcl (by omega)
      have hx0 := hid (u32_xor_nat C B.toNat hcl (by omega))
      obtain ⟨X, hXX⟩ : ∃ X, X = C ^^^ B.toNat := ⟨_, rfl⟩
      rw [← hXX] at hX hx0
      have HX := hid hXX; clear hXX
      go_wp2
      obtain ⟨wo, hwo⟩ : ∃ wo : World, wo = wr := ⟨_, rfl⟩
      go_loopw [18] (fun j wi => ∃ m : Nat, m ≤ 8 ∧ j = .int .i64 m ∧ wi.heap[w.heap.size]? = some (.cells #[.int .u32 (crcN X m : Nat)] 24 (0, 0)) ∧ Below w.heap.size w wi)
        (fun j _ => 8 - (intOf j).toNat)
      case atStart => exact ⟨0, by omega, rfl, by rw [hx0.out]; exact blk_setCell H.out 0 _, L.out.setCell (by exact Nat.le_refl _) _⟩
      case round =>
        obtain ⟨m, hm, rfl, hBi, hbi⟩ := hrel
        have Hi := hid hBi; have Li := hid hbi; have hszi := hbi.size; clear hBi hbi
        by_cases hm8 : m < 8
        · go_wp2_with (go_at_call 34; refine (step_any (crcN X m) w.heap.size _ (crcN_lt hX m) Hi.out).mono ?_; rintro e w5 ⟨rfl, hB5, hb5⟩; have H5 := hid hB5; have L5 := hid hb5; clear hB5 hb5)
          go_roundw
          case rel => exact ⟨m + 1, by omega, by go_num, H5.out, Li.out.trans L5.out⟩
          case measure => simp [intOf]; omega
        · obtain rfl : m = 8 := by omega
          go_wp2
          go_roundw
          case rel => exact ⟨k + 1, by omega, by go_num, by rw [hs.out]; unfold crcB; rw [← HX.out]; exact Hi.out, Li.out⟩
          case measure => simp [intOf]; omega
    · obtain rfl : k = l.length := by omega
      have hcl := crcL_lt (c := 4294967295) (by decide) (l.take l.length)
      have ht := hid (show crcL 4294967295 (l.take l.length) = crcL 4294967295 l by rw [List.take_length])
      obtain ⟨C, hC⟩ : ∃ C, C = crcL 4294967295 (l.take l.length) := ⟨_, rfl⟩
      rw [← hC] at a0 H hcl ht
      have HC := hid hC
      clear hC
      go_wp2
      go_ret
      refine ⟨ret_int ?_, L.out⟩
      show bits BinOp.xor IntKind.u32 IntKind.u32.max (C : Int) = _
      have e2 : IntKind.u32.max = ((2 ^ 32 - 1 : Nat) : Int) := by decide
      rw [e2, u32_xor_nat _ _ (by decide) hcl, xor_ones32 _ (by omega)]
      unfold sumL
      rw [← ht.out]

set_option maxHeartbeats 1000000 in
theorem refSum_any (v : Value) (l : List UInt8) (w : World) (hl : l.length ≤ 140737488355328) (hb : Sl w 1 v l.length (bc l)) :
    Calls Try.prog 15 #[v] w fun e w' => e = .returned (.int .u32 (sumL l : Nat)) ∧ w' = w := by
  obtain ⟨ao, c, rfl, _, _, _⟩ := hb.shape
  have Hb := hid hb; clear hb
  go_enter Try.func15, Try.ntmps15
  go_wp2
  go_loop [3, 4] (fun c i => ∃ k : Nat, k ≤ l.length ∧ i = .int .i64 k ∧ c = .int .u32 (crcL 4294967295 (l.take k) : Nat))
    (fun _ i => l.length - (intOf i).toNat)
  case atStart => exact ⟨0, Nat.zero_le _, rfl, rfl⟩
  case round =>
    obtain ⟨k, hk, rfl, rfl⟩ := hrel
    have hcl := crcL_lt (c := 4294967295) (by decide) (l.take k)
    obtain ⟨C, hC⟩ : ∃ C, C = crcL 4294967295 (l.take k) := ⟨_, rfl⟩
    have hs := hid (crcL_snoc 4294967295 l k)
    rw [← hC] at hcl hs ⊢
    have HC := hid hC; clear hC
    by_cases hlt : k < l.length
    · obtain ⟨b, off, c', hv', _, _, hbw, hcell⟩ := Hb.out.form (by decide) (by omega)
      simp only [Value.slice.injEq] at hv'
      obtain ⟨rfl, _, rfl⟩ := hv'
      have hcb : w.cell? ⟨b, off + k, none⟩ = some (.int .u8 ((l.getD k 0).toNat : Int)) := by
        rw [hcell k (by omega), bc_get l k hlt]
      clear hcell
      have hs' := hs.out hlt; clear hs
      obtain ⟨B, hBB⟩ : ∃ B, B = l.getD k 0 := ⟨_, rfl⟩
      rw [← hBB] at hcb hs'
      have hs := hid hs'; clear hs'
      have HB := hid hBB; clear hBB
      have hB8 : B.toNat < 256 := UInt8.toNat_lt B
      have hX : C ^^^ B.toNat < 4294967296 := xor_lt32 hcl (by omega)
      have hx0 := hid (u32_xor_nat C B.toNat hcl (by omega))
      obtain ⟨X, hXX⟩ : ∃ X, X = C ^^^ B.toNat := ⟨_, rfl⟩
      rw [← hXX] at hX hx0
      have HX := hid hXX; clear hXX
      go_wp2
      go_loop [3, 5] (fun c j => ∃ m : Nat, m ≤ 8 ∧ j = .int .i64 m ∧ c = .int .u32 (crcN X m : Nat))
        (fun _ j => 8 - (intOf j).toNat)
      case atStart => exact ⟨0, by omega, rfl, by rw [hx0.out]; rfl⟩
      case round =>
        obtain ⟨m, hm, rfl, rfl⟩ := hrel
        have hYl := crcN_lt hX m
        have hst := hid (show crcN X (m + 1) = crc1 (crcN X m) from rfl)
        obtain ⟨Y, hY⟩ : ∃ Y, Y = crcN X m := ⟨_, rfl⟩
        rw [← hY] at hYl hst ⊢
        have HY := hid hY; clear hY
        by_cases hm8 : m < 8
        · by_cases hodd : Y % 2 = 1
          · have hd : ((Y : Int) % 2 == 1) = true := by simp; omega
            have hq := hid (show bits .xor .u32 ((Y : Int) / 2) 2197175160 = ((crc1 Y : Nat) : Int) by
              unfold crc1
              rw [if_pos hodd, show ((Y : Int) / 2) = ((Y / 2 : Nat) : Int) by omega, show (2197175160 : Int) = ((2197175160 : Nat) : Int) by rfl, u32_xor_nat _ _ (by omega) (by decide)])
            clear hodd
            go_wp2
            go_round
            case rel => exact ⟨m + 1, by omega, by go_num, by rw [hst.out, ← hq.out]⟩
            case measure => simp [intOf]; omega
          · have hd : ((Y : Int) % 2 == 1) = false := by simp; omega
            have hq := hid (show ((Y : Int) / 2) = ((crc1 Y : Nat) : Int) by
              unfold crc1
              rw [if_neg hodd, Nat.xor_zero]; omega)
            clear hodd
            go_wp2
            go_round
            case rel => exact ⟨m + 1, by omega, by go_num, by rw [hst.out, ← hq.out]⟩
            case measure => simp [intOf]; omega
        · obtain rfl : m = 8 := by omega
          go_wp2
          go_round
          case rel => exact ⟨k + 1, by omega, by go_num, by rw [hs.out, HY.out]; unfold crcB; rw [← HX.out]⟩
          case measure => simp [intOf]; omega
    · obtain rfl : k = l.length := by omega
      have ht := hid (show crcL 4294967295 (l.take l.length) = crcL 4294967295 l by rw [List.take_length])
      clear hs
      go_wp2
      go_ret
      refine ⟨ret_int ?_, rfl⟩
      show (4294967295 : Int) - (C : Int) = _
      unfold sumL
      rw [← ht.out, ← HC.out]
      omega

end Go.Proofs.Ytecnjgiodnphcaa
