/- Contracts of package bits: Put. -/
import Derived.Test.YtpipgiacmkeinaaC
import Derived.Laws.ResultCell
namespace Go.Proofs.Ytpipgiacmkeinaa
open Go.RowKit

/-- bits.Put in plain words: the bytes, how many bits, the error. -/
def putV (l : List UInt8) (N : Int) (u : Nat) (n : Int) : List UInt8 × Int × Int :=
  if rightB l N = false ∨ n < 0 ∨ 64 < n then ([], 0, 2) else if n < (Lib.bitLen u : Int) then ([], 0, 3) else (putN l N.toNat u n.toNat, N + n, 0)

theorem rightB_Rt {l : List UInt8} {N : Int} (h : rightB l N = true) : 0 ≤ N ∧ Rt l N.toNat := by
  unfold rightB at h
  simp only [Bool.and_eq_true, Bool.or_eq_true, decide_eq_true_eq] at h
  obtain ⟨h0, hl, hz⟩ := h
  obtain ⟨m, rfl⟩ := Int.eq_ofNat_of_zero_le h0
  simp only [Int.toNat_natCast] at *
  refine ⟨h0, by omega, fun i hi hlt => ?_⟩
  have hi8 : i / 8 = l.length - 1 := by omega
  have hm8 : ¬ m % 8 = 0 := by omega
  have hz' : (l.getD (l.length - 1) 0).toNat * 2 ^ (m % 8) % 256 = 0 := by
    rcases hz with hz | hz
    · omega
    · have e : ((m : Int) % 8).toNat = m % 8 := by omega
      rw [e] at hz
      have : (((l.getD (l.length - 1) 0).toNat * 2 ^ (m % 8) % 256 : Nat) : Int) = 0 := by rw [← hz]; simp
      omega
  unfold bitAt
  rw [hi8]
  have hb : (l.getD (l.length - 1) 0).toNat < 256 := UInt8.toNat_lt _
  have hi7 : i % 8 ≥ m % 8 := by omega
  generalize (l.getD (l.length - 1) 0).toNat = z at *
  have hd : 256 ∣ z * 2 ^ (m % 8) := Nat.dvd_of_mod_eq_zero hz'
  have hd2 : 2 ^ (8 - m % 8) ∣ z := by
    have e : 256 = 2 ^ (8 - m % 8) * 2 ^ (m % 8) := by rw [← Nat.pow_add, show 8 - m % 8 + m % 8 = 8 by omega]
    rw [e] at hd
    exact Nat.dvd_of_mul_dvd_mul_right (Nat.two_pow_pos _) hd
  obtain ⟨q, rfl⟩ := hd2
  obtain ⟨d, hd⟩ : ∃ d, 8 - m % 8 = (7 - i % 8) + (d + 1) := ⟨i % 8 - m % 8, by omega⟩
  rw [hd, Nat.pow_add, Nat.mul_assoc, Nat.mul_div_cancel_left _ (Nat.two_pow_pos _), Nat.pow_succ, Nat.mul_assoc, Nat.mul_left_comm]
  omega

theorem bitLen_le64 (u : Nat) : Lib.bitLen u ≤ 64 := by
  have h : ∀ f x, Lib.bitLenAux f x ≤ f := by
    intro f
    induction f with
    | zero => intro x; exact Nat.le_refl _
    | succ f ih => intro x; unfold Lib.bitLenAux; split <;> (try have := ih (x / 2)) <;> omega
  exact h 64 u

theorem writer2_any (Bo : Nat) (ao : Option Addr) (n c : Nat) (N : Int) (w : World) (hB : w.heap[Bo]? = some (.cells #[.slice ao n c, .int .i64 N] 24 (0, 0))) :
    Calls Try.prog 40 #[.pointer (some ⟨Bo, 0, none⟩)] w fun e w' => e = .returned (.agg #[.slice ao n c, .int .i64 N]) ∧ Below w.heap.size w w' := by
  have d0 := cell_of_blk hB 0
  have d1 := cell_of_blk hB 1
  have hlt := lt_of_blk hB
  simp only [List.getElem?_toArray, List.getElem?_cons_zero, List.getElem?_cons_succ] at d0 d1
  have H := hid hB; clear hB
  go_enter Try.func40, Try.ntmps40
  go_wp2
  refine bodyPost_ret (v := .agg #[.slice ao n c, .int .i64 N]) (by simp [results, Try.results40, go_sem]) rfl ⟨rfl, ?_⟩
  exact (Below.refl _ _).alloc (Nat.le_refl _) _

/-- What Put hands back, in words of memory. -/
def PutPost (w : World) (r : List UInt8 × Int × Int) (e : Ending) (w' : World) : Prop :=
  ∃ ao c, e = .returned (.tuple #[.agg #[.slice ao r.1.length c, .int .i64 r.2.1], .int .i64 r.2.2]) ∧ Below w.heap.size w w' ∧ w'.ownsRow w.heap.size 5 1 (.slice ao r.1.length c) r.1.length (bc r.1)

theorem len_any (u : Nat) (w : World) (hu : u < 18446744073709551616) : Calls Try.prog 32 #[.int .u64 u] w fun e w' => e = .returned (.int .i64 (Lib.bitLen u)) ∧ w' = w :=
  Try.len64 (u : Int) w (by omega) (by omega)

section
variable (bv : Value) (l : List UInt8) (u : Nat) (w : World) (hl : l.length ≤ 170000000000000) (hb : Sl w 1 bv l.length (bc l))
include hl hb

theorem put_bad1 (N n : Int) (hN0 : -9223372036854775808 ≤ N) (hN : N ≤ 9223372036854775807) (hn0 : -9223372036854775808 ≤ n) (hn1 : n ≤ 9223372036854775807) (hR : rightB l N = false) :
    Calls Try.prog 13 #[.agg #[bv, .int .i64 N], .int .u64 u, .int .i64 n] w (PutPost w ([], 0, 2)) := by
  have hr := fun wx (hx : Sl wx 1 bv l.length (bc l)) => right_any bv l N wx hN0 hN (by omega) hx
  rw [hR] at hr
  have Hr := hid hr; clear hr
  have Hb := hid hb; clear hb hR
  go_enter Try.func13, Try.ntmps13
  go_wp2_with (go_at_call 19; refine (Hr.out _ ((Hb.out.alloc _).alloc _)).mono ?_; rintro e w1 ⟨rfl, hb1⟩; obtain ⟨x0, x1, x2, x3⟩ := two_boxes hb1; have X0 := hid x0; have X1 := hid x1; have X2 := hid x2; obtain ⟨a0, a1, a2, a3, a4⟩ := blk2 x0; obtain ⟨b0, b1, b2, b3, b4⟩ := blk2 x1; clear x0 x1 x2 hb1)
  refine bodyPost_ret (v := .tuple #[.agg #[.slice none 0 0, .int .i64 0], .int .i64 2]) (by simp [results, Try.results13, go_sem, b0, b1, b2, b3, b4]) rfl ⟨none, 0, rfl, ?_, ?_⟩
  · exact (X2.out.setCell (by simp) _).setCell (by simp) _
  · exact World.ownsRow_nil _ _ _ _

theorem put_bad2 (N n : Int) (hN0 : -9223372036854775808 ≤ N) (hN : N ≤ 9223372036854775807) (hn0 : -9223372036854775808 ≤ n) (hn1 : n ≤ 9223372036854775807) (hR : rightB l N = true) (hn : n < 0 ∨ 64 < n) :
    Calls Try.prog 13 #[.agg #[bv, .int .i64 N], .int .u64 u, .int .i64 n] w (PutPost w ([], 0, 2)) := by
  have hr := fun wx (hx : Sl wx 1 bv l.length (bc l)) => right_any bv l N wx hN0 hN (by omega) hx
  rw [hR] at hr
  have Hr := hid hr; clear hr
  have Hb := hid hb; clear hb hR
  rcases hn with hn | hn
  · go_enter Try.func13, Try.ntmps13
    go_wp2_with (go_at_call 19; refine (Hr.out _ ((Hb.out.alloc _).alloc _)).mono ?_; rintro e w1 ⟨rfl, hb1⟩; obtain ⟨x0, x1, x2, x3⟩ := two_boxes hb1; have X0 := hid x0; have X1 := hid x1; have X2 := hid x2; obtain ⟨a0, a1, a2, a3, a4⟩ := blk2 x0; obtain ⟨b0, b1, b2, b3, b4⟩ := blk2 x1; clear x0 x1 x2 hb1)
    refine bodyPost_ret (v := .tuple #[.agg #[.slice none 0 0, .int .i64 0], .int .i64 2]) (by simp [results, Try.results13, go_sem, b0, b1, b2, b3, b4]) rfl ⟨none, 0, rfl, ?_, ?_⟩
    · exact (X2.out.setCell (by simp) _).setCell (by simp) _
    · exact World.ownsRow_nil _ _ _ _
  · go_enter Try.func13, Try.ntmps13
    go_wp2_with (go_at_call 19; refine (Hr.out _ ((Hb.out.alloc _).alloc _)).mono ?_; rintro e w1 ⟨rfl, hb1⟩; obtain ⟨x0, x1, x2, x3⟩ := two_boxes hb1; have X0 := hid x0; have X1 := hid x1; have X2 := hid x2; obtain ⟨a0, a1, a2, a3, a4⟩ := blk2 x0; obtain ⟨b0, b1, b2, b3, b4⟩ := blk2 x1; clear x0 x1 x2 hb1)
    refine bodyPost_ret (v := .tuple #[.agg #[.slice none 0 0, .int .i64 0], .int .i64 2]) (by simp [results, Try.results13, go_sem, b0, b1, b2, b3, b4]) rfl ⟨none, 0, rfl, ?_, ?_⟩
    · exact (X2.out.setCell (by simp) _).setCell (by simp) _
    · exact World.ownsRow_nil _ _ _ _

theorem put_big (hu : u < 18446744073709551616) (N n : Int) (hN0 : -9223372036854775808 ≤ N) (hN : N ≤ 9223372036854775807) (hR : rightB l N = true) (hn0 : 0 ≤ n) (hn : n ≤ 64) (hbig : n < (Lib.bitLen u : Int)) :
    Calls Try.prog 13 #[.agg #[bv, .int .i64 N], .int .u64 u, .int .i64 n] w (PutPost w ([], 0, 3)) := by
  have hr := fun wx (hx : Sl wx 1 bv l.length (bc l)) => right_any bv l N wx hN0 hN (by omega) hx
  rw [hR] at hr
  have Hr := hid hr; clear hr
  have Hb := hid hb; clear hb hR
  go_enter Try.func13, Try.ntmps13
  go_wp2_with (first | (go_at_call 19; refine (Hr.out _ ((Hb.out.alloc _).alloc _)).mono ?_; rintro e w1 ⟨rfl, hb1⟩; obtain ⟨x0, x1, x2, x3⟩ := two_boxes hb1; have X0 := hid x0; have X1 := hid x1; have X2 := hid x2; obtain ⟨a0, a1, a2, a3, a4⟩ := blk2 x0; obtain ⟨b0, b1, b2, b3, b4⟩ := blk2 x1; clear x0 x1 x2 hb1) | (go_at_call 32; refine (len_any u _ hu).mono ?_; rintro e wz ⟨rfl, hwz⟩; subst wz))
  refine bodyPost_ret (v := .tuple #[.agg #[.slice none 0 0, .int .i64 0], .int .i64 3]) (by simp [results, Try.results13, go_sem, b0, b1, b2, b3, b4]) rfl ⟨none, 0, rfl, ?_, ?_⟩
  · exact (X2.out.setCell (by simp) _).setCell (by simp) _
  · exact World.ownsRow_nil _ _ _ _

set_option maxHeartbeats 1000000 in
theorem put_good (hu : u < 18446744073709551616) (N n : Nat) (hN : N ≤ 1390000000000000) (hR : rightB l N = true) (hn : n ≤ 64) (hbig : Lib.bitLen u ≤ n) :
    Calls Try.prog 13 #[.agg #[bv, .int .i64 N], .int .u64 u, .int .i64 n] w (PutPost w (putN l N u n, N + n, 0)) := by
  have hr := fun wx (hx : Sl wx 1 bv l.length (bc l)) => right_any bv l N wx (by omega) (by omega) (by omega) hx
  have hRt := (rightB_Rt hR).2
  simp only [Int.toNat_natCast] at hRt
  rw [hR] at hr
  have Hr := hid hr; clear hr
  have Hb := hid hb; clear hb hR
  have HRt := hid hRt; clear hRt
  go_enter Try.func13, Try.ntmps13
  go_wp2_with (first
    | (go_at_call 19; refine (Hr.out _ ((Hb.out.alloc _).alloc _)).mono ?_; rintro e w1 ⟨rfl, hb1⟩; obtain ⟨x0, x1, x2, x3⟩ := two_boxes hb1; have X0 := hid x0; have X1 := hid x1; have X2 := hid x2; obtain ⟨a0, a1, a2, a3, a4⟩ := blk2 x0; obtain ⟨b0, b1, b2, b3, b4⟩ := blk2 x1; clear x0 x1 x2 hb1)
    | (go_at_call 32; refine (len_any u _ hu).mono ?_; rintro e wz ⟨rfl, hwz⟩; subst wz)
    | (go_at_call 33; refine (writer_any bv l N w1 (by omega) (Hb.out.below X2.out (fun k _ h => h))).mono ?_; rintro e w2 ⟨Bo, v, rfl, hb2, hBo, hblk, hown⟩; have Y0 := hid (blk_below X0.out hb2 (by omega)); have Y1 := hid (blk_below X1.out hb2 (by omega)); have HB2 := hid hb2; have HK := hid hblk; have HO := hid hown; clear hb2 hblk hown)
    | (go_at_call 39; refine (put_loop u n N Bo w1.heap.size v l w2 hu hn HRt.out (by omega) HK.out HO.out HB2.out.size hBo).mono ?_; rintro e w3 ⟨rfl, hb3, v', hblk3, hown3⟩; obtain ⟨ao, c, rfl, _, _, _⟩ := (Sl.own hown3).shape; have Z1 := blk_below Y1.out hb3 (by omega); have HB3 := hid hb3; have HK3 := hid hblk3; have HO3 := hid hown3; clear hb3 hblk3 hown3; have HZ1 := hid Z1; obtain ⟨c0, c1, c2, c3, c4⟩ := blk2 Z1; clear Z1)
    | (go_at_call 40; refine (writer2_any Bo ao _ c _ w3 HK3.out).mono ?_; rintro e w4 ⟨rfl, hb4⟩; have V1 := blk_below HZ1.out hb4 (by omega); have HB4 := hid hb4; have hs4 := hb4.size; clear hb4; have HV1 := hid V1; obtain ⟨d0, d1, d2, d3, d4⟩ := blk2 V1; clear V1))
  refine bodyPost_ret (v := .tuple #[.agg #[.slice ao (putN l N u n).length c, .int .i64 ((N : Int) + n)], .int .i64 0]) (by simp [results, Try.results13, go_sem, d0, d1, d2, d3, d4]) rfl ⟨ao, c, rfl, ?_, ?_⟩
  · exact ((((X2.out.trans (HB2.out.mono (by omega))).trans (HB3.out.mono (by omega))).trans (HB4.out.mono (by omega))).setCell (by simp) _).setCell (by simp) _
  · have o4 := own_below HO3.out HB4.out (Nat.le_refl _)
    exact own_setOther (own_setOther (own_base o4 (by omega)) _ _ (own_ne_lt o4 (by omega))) _ _ (own_ne_lt o4 (by omega))
end

/-- bits.Put. -/
theorem put_any (bv : Value) (l : List UInt8) (N : Int) (u : Nat) (n : Int) (w : World) (hN0 : -9223372036854775808 ≤ N) (hN : N ≤ 9223372036854775807) (hu : u < 18446744073709551616)
    (hn0 : -9223372036854775808 ≤ n) (hn1 : n ≤ 9223372036854775807) (hl : l.length ≤ 170000000000000) (hb : Sl w 1 bv l.length (bc l)) :
    Calls Try.prog 13 #[.agg #[bv, .int .i64 N], .int .u64 u, .int .i64 n] w (PutPost w (putV l N u n)) := by
  by_cases hR : rightB l N = false
  · have e : putV l N u n = ([], 0, 2) := by unfold putV; rw [if_pos (.inl hR)]
    rw [e]; exact put_bad1 bv l u w hl hb N n hN0 hN hn0 hn1 hR
  · have hR' : rightB l N = true := by simpa using hR
    by_cases hn : n < 0 ∨ 64 < n
    · have e : putV l N u n = ([], 0, 2) := by unfold putV; rw [if_pos (.inr hn)]
      rw [e]; exact put_bad2 bv l u w hl hb N n hN0 hN hn0 hn1 hR' hn
    · have hno : ¬ (rightB l N = false ∨ n < 0 ∨ 64 < n) := by simp [hR']; omega
      by_cases hbig : n < (Lib.bitLen u : Int)
      · have e : putV l N u n = ([], 0, 3) := by unfold putV; rw [if_neg hno, if_pos hbig]
        rw [e]; exact put_big bv l u w hl hb hu N n hN0 hN hR' (by omega) (by omega) hbig
      · have e : putV l N u n = (putN l N.toNat u n.toNat, N + n, 0) := by unfold putV; rw [if_neg hno, if_neg hbig]
        rw [e]
        have h0 := (rightB_Rt hR').1
        obtain ⟨m, rfl⟩ := Int.eq_ofNat_of_zero_le h0
        obtain ⟨k, rfl⟩ := Int.eq_ofNat_of_zero_le (show 0 ≤ n by omega)
        have hm := (rightB_Rt hR').2.1
        simp only [Int.toNat_natCast] at *
        exact put_good bv l u w hl hb hu m k (by omega) hR' (by omega) (by omega)
end Go.Proofs.Ytpipgiacmkeinaa
