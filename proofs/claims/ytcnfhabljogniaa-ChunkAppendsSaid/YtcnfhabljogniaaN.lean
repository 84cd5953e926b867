/- Contracts of bits.PutNum, and of its reference. -/
import Derived.Test.YtcnfhabljogniaaM
namespace Go.Proofs.Ytcnfhabljogniaa
open Go.RowKit

/-- the bytes of bits with a number behind them that says how long it is -/
def numL (l : List UInt8) (N u : Nat) : List UInt8 := putN (putN l N (Lib.bitLen u) 7) (N + 7) u (Lib.bitLen u)
/-- bits.PutNum in plain words -/
def putNumV (l : List UInt8) (N : Int) (u : Nat) : List UInt8 × Int × Int :=
  if rightB l N = false then ([], 0, 2) else (numL l N.toNat u, N + 7 + Lib.bitLen u, 0)
theorem Rt.putN {l : List UInt8} {N : Nat} (h : Rt l N) (u n : Nat) : Rt (putN l N u n) (N + n) := (h.putTo u n n).1

section
variable (bv : Value) (l : List UInt8) (u : Nat) (w : World) (hl : l.length ≤ 160000000000000) (hb : Sl w 1 bv l.length (bc l))
include hl hb

theorem putNum_bad (N : Int) (hN0 : -9223372036854775808 ≤ N) (hN : N ≤ 9223372036854775807) (hR : rightB l N = false) :
    Calls Try.prog 42 #[.agg #[bv, .int .i64 N], .int .u64 u] w (PutPost w ([], 0, 2)) := by
  have hr := fun wx (hx : Sl wx 1 bv l.length (bc l)) => right_any bv l N wx hN0 hN (by omega) hx
  rw [hR] at hr
  have Hr := hid hr; clear hr
  have Hb := hid hb; clear hb hR
  go_enter Try.func42, Try.ntmps42
  go_wp2_with (go_at_call 49; refine (Hr.out _ ((Hb.out.alloc _).alloc _)).mono ?_; rintro e w1 ⟨rfl, hb1⟩; obtain ⟨x0, x1, x2, x3⟩ := two_boxes hb1; have X0 := hid x0; have X1 := hid x1; have X2 := hid x2; obtain ⟨a0, a1, a2, a3, a4⟩ := blk2 x0; obtain ⟨b0, b1, b2, b3, b4⟩ := blk2 x1; clear x0 x1 x2 hb1)
  refine bodyPost_ret (v := .tuple #[.agg #[.slice none 0 0, .int .i64 0], .int .i64 2]) (by simp [results, Try.results42, go_sem, b0, b1, b2, b3, b4]) rfl ⟨none, 0, rfl, ?_, ?_⟩
  · exact (X2.out.setCell (by simp) _).setCell (by simp) _
  · exact World.ownsRow_nil _ _ _ _

set_option maxRecDepth 100000 in
set_option maxHeartbeats 2000000 in
theorem putNum_good (hu : u < 18446744073709551616) (N : Nat) (hN : N ≤ 1380000000000000) (hR : rightB l N = true) :
    Calls Try.prog 42 #[.agg #[bv, .int .i64 N], .int .u64 u] w (PutPost w (numL l N u, (N : Int) + 7 + Lib.bitLen u, 0)) := by
  have hr := fun wx (hx : Sl wx 1 bv l.length (bc l)) => right_any bv l N wx (by omega) (by omega) (by omega) hx
  have hRt := (rightB_Rt hR).2
  simp only [Int.toNat_natCast] at hRt
  rw [hR] at hr
  have Hr := hid hr; clear hr
  have Hb := hid hb; clear hb hR
  have hm64 := bitLen_le64 u
  have hl' : l.length ≤ 180000000000000 := by omega
  have hnum := hid (show numL l N u = putN (putN l N (Lib.bitLen u) 7) (N + 7) u (Lib.bitLen u) from rfl)
  have HL := hid (fun wx => len_any u wx hu)
  generalize Lib.bitLen u = m at *
  have hRt2 := hid (hRt.putN m 7)
  have HRt := hid hRt; clear hRt
  go_enter Try.func42, Try.ntmps42
  go_wp2_with fail
  refine (Hr.out _ ((Hb.out.alloc _).alloc _)).mono ?_
  rintro e w1 ⟨rfl, hb1⟩
  obtain ⟨x0, x1, x2, x3⟩ := two_boxes hb1
  have X0 := hid x0; have X1 := hid x1; have X2 := hid x2
  obtain ⟨a0, a1, a2, a3, a4⟩ := blk2 x0
  obtain ⟨b0, b1, b2, b3, b4⟩ := blk2 x1
  clear x0 x1 x2 hb1
  go_wp2_with fail
  refine (writer_any bv l N w1 hl' (Hb.out.below X2.out (fun k _ h => h))).mono ?_
  rintro e w2 ⟨Bo, v, rfl, hb2, hBo, hblk, hown⟩
  have Y1 := hid (blk_below X1.out hb2 (by omega))
  have HB2 := hid hb2; have HK := hid hblk; have HO := hid hown
  have s2 := hb2.size
  clear hb2 hblk hown a0 a1 a2 a3 a4 b0 b1 b2 b3 b4
  go_wp2_with fail
  refine (HL.out w2).mono ?_
  rintro e wz ⟨rfl, hwz⟩
  subst wz
  go_wp2_with fail
  refine (put_loop m 7 N Bo w1.heap.size v l w2 (by omega) (by omega) HRt.out (by omega) HK.out HO.out HB2.out.size hBo).mono ?_
  rintro e w3 ⟨rfl, hb3, v3, hblk3, hown3⟩
  have Z1 := hid (blk_below Y1.out hb3 (by omega))
  have HB3 := hid hb3; have HK3 := hid hblk3; have HO3 := hid hown3
  have s3 := hb3.size
  clear hb3 hblk3 hown3
  go_wp2_with fail
  have hs1 : w1.heap.size ≤ w3.heap.size := by omega
  refine (put_loop u m (N + 7) Bo w1.heap.size v3 (putN l N m 7) w3 hu hm64 hRt2.out (by omega) HK3.out HO3.out hs1 hBo).mono ?_
  rintro e w4 ⟨rfl, hb4, v4, hblk4, hown4⟩
  rw [← hnum.out] at hown4
  obtain ⟨ao, c, rfl, _, _, _⟩ := (Sl.own hown4).shape
  have V1 := hid (blk_below Z1.out hb4 (by omega))
  have HB4 := hid hb4; have HK4 := hid hblk4; have HO4 := hid hown4
  have s4 := hb4.size
  clear hb4 hblk4 hown4
  go_wp2_with fail
  refine (writer2_any Bo ao _ c _ w4 HK4.out).mono ?_
  rintro e w5 ⟨rfl, hb5⟩
  have W1 := hid (blk_below V1.out hb5 (by omega))
  have HB5 := hid hb5; have s5 := hb5.size
  clear hb5
  obtain ⟨d0, d1, d2, d3, d4⟩ := blk2 W1.out
  go_wp2
  refine bodyPost_ret (v := .tuple #[.agg #[.slice ao (numL l N u).length c, .int .i64 ((N : Int) + 7 + m)], .int .i64 0]) (by simp [results, Try.results42, go_sem, d0, d1, d2, d3, d4]) rfl ⟨ao, c, rfl, ?_, ?_⟩
  · exact (((((X2.out.trans (HB2.out.mono (by omega))).trans (HB3.out.mono (by omega))).trans (HB4.out.mono (by omega))).trans (HB5.out.mono (by omega))).setCell (by simp) _).setCell (by simp) _
  · have o5 := own_below HO4.out HB5.out (Nat.le_refl _)
    exact own_setOther (own_setOther (own_base o5 (by omega)) _ _ (own_ne_lt o5 (by omega))) _ _ (own_ne_lt o5 (by omega))
end

theorem numL_length {l : List UInt8} {N : Nat} (h : Rt l N) (u : Nat) : (numL l N u).length = (N + 7 + Lib.bitLen u + 7) / 8 := by
  unfold numL
  exact ((h.putN (Lib.bitLen u) 7).putN u (Lib.bitLen u)).1

/-- bits.PutNum. -/
theorem putNum_any (bv : Value) (l : List UInt8) (N : Int) (u : Nat) (w : World) (hN0 : -9223372036854775808 ≤ N) (hN : N ≤ 9223372036854775807) (hu : u < 18446744073709551616)
    (hl : l.length ≤ 160000000000000) (hb : Sl w 1 bv l.length (bc l)) :
    Calls Try.prog 42 #[.agg #[bv, .int .i64 N], .int .u64 u] w (PutPost w (putNumV l N u)) := by
  by_cases hR : rightB l N = false
  · rw [show putNumV l N u = ([], 0, 2) by unfold putNumV; rw [if_pos hR]]
    exact putNum_bad bv l u w hl hb N hN0 hN hR
  · have hR' : rightB l N = true := by simpa using hR
    rw [show putNumV l N u = (numL l N.toNat u, N + 7 + Lib.bitLen u, 0) by unfold putNumV; rw [if_neg hR]]
    have h0 := (rightB_Rt hR').1
    obtain ⟨m, rfl⟩ := Int.eq_ofNat_of_zero_le h0
    have hm := (rightB_Rt hR').2.1
    simp only [Int.toNat_natCast] at *
    exact putNum_good bv l u w hl hb hu m (by omega) hR'

theorem bitLen_small (m : Nat) (h : m ≤ 64) : Lib.bitLen m ≤ 7 := by
  have h : ∀ k : Fin 65, Lib.bitLen k.val ≤ 7 := by decide +kernel
  exact h ⟨m, by omega⟩

set_option maxRecDepth 100000 in
set_option maxHeartbeats 2000000 in
theorem refPutNum_any (bv : Value) (l : List UInt8) (N : Int) (u : Nat) (w : World) (hN0 : -9223372036854775808 ≤ N) (hN : N ≤ 9223372036854775807) (hu : u < 18446744073709551616)
    (hl : l.length ≤ 160000000000000) (hb : Sl w 1 bv l.length (bc l)) :
    Calls Try.prog 30 #[.agg #[bv, .int .i64 N], .int .u64 u] w (PutPost w (putNumV l N u)) := by
  have hm64 := bitLen_le64 u
  have hm7 := bitLen_small _ hm64
  have HL := hid (fun wx => refDigits_any u wx hu)
  have hQ := fun wx (hx : Sl wx 1 bv l.length (bc l)) => refPut_any bv l N (Lib.bitLen u) 7 wx hN0 hN (by omega) (by omega) (by omega) (by omega) hx
  have Hb := hid hb; clear hb
  by_cases hR : rightB l N = false
  · rw [show putNumV l N u = ([], 0, 2) by unfold putNumV; rw [if_pos hR]]
    have e : putV l N (Lib.bitLen u) 7 = ([], 0, 2) := by unfold putV; rw [if_pos (.inl hR)]
    rw [e] at hQ
    have HQ := hid hQ
    clear hQ e hR hm7
    generalize Lib.bitLen u = m at *
    go_enter Try.func30, Try.ntmps30
    go_wp2_with fail
    refine (HL.out _).mono ?_
    rintro e wz ⟨rfl, hwz⟩
    subst wz
    go_wp2_with fail
    refine (HQ.out _ ((Hb.out.alloc _).alloc _)).mono ?_
    rintro e w1 ⟨ao, c, rfl, hb1, hown1⟩
    obtain ⟨x0, x1, x2, x3⟩ := two_boxes hb1
    have X1 := hid x1; have X2 := hid x2; clear x0 x1 x2 hb1 hown1
    obtain ⟨b0, b1, b2, b3, b4⟩ := blk2 X1.out
    go_wp2
    refine bodyPost_ret (v := .tuple #[.agg #[.slice none 0 0, .int .i64 0], .int .i64 2]) (by simp [results, Try.results30, go_sem, b0, b1, b2, b3, b4]) rfl ⟨none, 0, rfl, ?_, ?_⟩
    · exact ((X2.out.setCell (by simp) _).setCell (by simp) _).alloc (by simp [World.setCell]; omega) _
    · exact World.ownsRow_nil _ _ _ _
  · have hR' : rightB l N = true := by simpa using hR
    rw [show putNumV l N u = (numL l N.toNat u, N + 7 + Lib.bitLen u, 0) by unfold putNumV; rw [if_neg hR]]
    obtain ⟨h0, hRt⟩ := rightB_Rt hR'
    obtain ⟨N, rfl⟩ := Int.eq_ofNat_of_zero_le h0
    rw [Int.toNat_natCast] at hRt ⊢
    have hlen := hRt.1
    have e : putV l N (Lib.bitLen u) 7 = (putN l N (Lib.bitLen u) 7, (N : Int) + 7, 0) := by
      unfold putV
      rw [if_neg (by simp [hR']), if_neg (by omega)]
      rfl
    rw [e] at hQ
    have hRt2 := hRt.putN (Lib.bitLen u) 7
    have e7 : ((N + 7 : Nat) : Int) = (N : Int) + 7 := by omega
    have hR2 := Rt_rightB hRt2
    rw [e7] at hR2
    have hS := fun va wx (hx : Sl wx 1 va (putN l N (Lib.bitLen u) 7).length (bc (putN l N (Lib.bitLen u) 7))) => refPut_any va (putN l N (Lib.bitLen u) 7) ((N : Int) + 7) u (Lib.bitLen u) wx (by omega) (by omega) hu (by omega) (by omega) (by have := hRt2.1; omega) hx
    have e2 : putV (putN l N (Lib.bitLen u) 7) ((N : Int) + 7) u (Lib.bitLen u) = (numL l N u, (N : Int) + 7 + Lib.bitLen u, 0) := by
      unfold putV
      rw [if_neg (by simp [hR2]; omega), if_neg (by omega)]
      rw [← e7, Int.toNat_natCast, Int.toNat_natCast]
      rfl
    rw [e2] at hS
    have HQ := hid hQ; have HS := hid hS
    clear hQ hS e e2 hR hR' hRt hR2 hRt2 hm7 hlen e7 h0 hN0 hN
    generalize putN l N (Lib.bitLen u) 7 = lp at *
    generalize numL l N u = ln at *
    generalize Lib.bitLen u = m at *
    go_enter Try.func30, Try.ntmps30
    go_wp2_with fail
    refine (HL.out _).mono ?_
    rintro e wz ⟨rfl, hwz⟩
    subst wz
    go_wp2_with fail
    refine (HQ.out _ ((Hb.out.alloc _).alloc _)).mono ?_
    rintro e w1 ⟨ao, c, rfl, hb1, hown1⟩
    obtain ⟨x0, x1, x2, x3⟩ := two_boxes hb1
    have X1 := hid x1; have X2 := hid x2; have O1 := hid hown1; clear x0 x1 x2 hb1 hown1
    obtain ⟨b0, b1, b2, b3, b4⟩ := blk2 X1.out
    go_wp2_with fail
    refine (HS.out _ _ ((Sl.own O1.out).alloc _)).mono ?_
    rintro e w2 ⟨ao2, c2, rfl, hb2, hown2⟩
    obtain ⟨y0, y1, y2⟩ := one_box hb2
    have Y1 := hid (blk_below X1.out y1 (by omega))
    have L2 := hid y1
    have O2 := hid hown2
    clear y0 y1 hb2 hown2 b0 b1 b2 b3 b4
    obtain ⟨d0, d1, d2, d3, d4⟩ := blk2 Y1.out
    have s2 := L2.out.size
    go_wp2
    refine bodyPost_ret (v := .tuple #[.agg #[.slice ao2 ln.length c2, .int .i64 ((N : Int) + 7 + m)], .int .i64 0]) (by simp [results, Try.results30, go_sem, d0, d1, d2, d3, d4]) rfl ⟨ao2, c2, rfl, ?_, ?_⟩
    · exact ((X2.out.trans (L2.out.mono (by omega))).setCell (by simp) _).setCell (by simp) _
    · have o := own_base O2.out (show w1.heap.size ≤ _ by simp)
      exact own_setOther (own_setOther (own_base o (by omega)) _ _ (own_ne_lt o (by omega))) _ _ (own_ne_lt o (by omega))
end Go.Proofs.Ytcnfhabljogniaa
