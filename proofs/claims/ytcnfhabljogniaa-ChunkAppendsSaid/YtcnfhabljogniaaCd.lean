/- chunk's writer: num, signed. -/
import Derived.Test.YtcnfhabljogniaaCc
namespace Go.Proofs.Ytcnfhabljogniaa
open Go.RowKit
set_option linter.unusedSimpArgs false

/-- bits with a number behind them -/
def pushNum (x : List UInt8 × Nat) (u : Nat) : List UInt8 × Nat := (numL x.1 x.2 u, x.2 + 7 + Lib.bitLen u)
/-- a writer at block p that holds the bits x -/
def Wr (p : Nat) (x : List UInt8 × Nat) (w : World) : Prop :=
  ∃ v, w.heap[p]? = some (.cells #[v, .int .i64 (x.2 : Int)] 60 (0, 0)) ∧ w.ownsRow (p + 1) 5 1 v x.1.length (bc x.1) ∧ Rt x.1 x.2
theorem Rt_push {x : List UInt8 × Nat} (h : Rt x.1 x.2) (u : Nat) : Rt (pushNum x u).1 (pushNum x u).2 := by
  have := (h.putN (Lib.bitLen u) 7).putN u (Lib.bitLen u)
  exact this
theorem putNumV_Rt {l : List UInt8} {N : Nat} (h : Rt l N) (u : Nat) : putNumV l N u = (numL l N u, (N : Int) + 7 + Lib.bitLen u, 0) := by
  unfold putNumV
  rw [if_neg (by rw [Rt_rightB h]; simp), Int.toNat_natCast]

set_option maxRecDepth 100000 in
set_option maxHeartbeats 1000000 in
theorem wnum_any (p : Nat) (x : List UInt8 × Nat) (u : Nat) (w : World) (hu : u < 18446744073709551616) (hN : x.2 ≤ 1200000000000000) (h : Wr p x w) :
    Calls Try.prog 27 #[.pointer (some ⟨p, 0, none⟩), .int .u64 u] w fun e w' => e = .returned (.tuple #[]) ∧ Below p w w' ∧ Wr p (pushNum x u) w' := by
  obtain ⟨v, hp, ho, hR⟩ := h
  have hlt := lt_of_blk hp
  have hP := putNum_any v x.1 (x.2 : Int) u w (by omega) (by omega) hu (by have := hR.1; omega) (Sl.own ho)
  rw [putNumV_Rt hR] at hP
  have HP := hid hP; have HO := hid ho; have HR := hid hR; have HB := hid hp
  obtain ⟨ao, n, c, rfl⟩ : ∃ ao n c, v = .slice ao n c := by obtain ⟨ao, c, rfl, _⟩ := (Sl.own ho).shape; exact ⟨ao, _, c, rfl⟩
  obtain ⟨a0, a1, a2, a3, a4⟩ := blk2 hp
  clear hP ho hp hR
  go_enter Try.func27, Try.ntmps27
  go_wp2_with fail
  refine HP.out.mono ?_
  rintro e w1 ⟨ao1, c1, rfl, hb1, hown1⟩
  have L1 := hid hb1; have O1 := hid hown1
  have B1 := hid (blk_below HB.out hb1 hlt)
  obtain ⟨b0, b1, b2, b3, b4⟩ := blk2 B1.out
  clear hb1 hown1 a0 a1 a2 a3 a4
  go_wp2
  go_end0
  have o1 := own_base O1.out (show p + 1 ≤ w.heap.size by omega)
  have hne := own_ne_lt o1 (Nat.lt_succ_self p)
  refine ⟨rfl, ((L1.out.mono (Nat.le_of_lt hlt)).setCell (Nat.le_refl p) _).setCell (Nat.le_refl p) _, .slice ao1 (numL x.1 x.2 u).length c1, ?_, ?_, Rt_push HR.out u⟩
  · have := blk_setCell (blk_setCell B1.out 0 (.slice ao1 (numL x.1 x.2 u).length c1)) 1 (.int .i64 ((x.2 : Int) + 7 + Lib.bitLen u))
    simpa [pushNum] using this
  · exact own_setOther (own_setOther o1 ⟨p, 0, none⟩ _ hne) ⟨p, 1, none⟩ _ hne

/-- a number with a sign, told without one -/
def zigN (n : Int) : Nat := (zig n).toNat
theorem zigN_cast (n : Int) (h0 : -9223372036854775808 ≤ n) (h1 : n ≤ 9223372036854775807) : ((zigN n : Nat) : Int) = zig n := by
  have := zig_range n h0 h1; unfold zigN; omega
theorem zigN_lt (n : Int) (h0 : -9223372036854775808 ≤ n) (h1 : n ≤ 9223372036854775807) : zigN n < 18446744073709551616 := by
  have := zig_range n h0 h1; unfold zigN; omega

set_option maxRecDepth 100000 in
set_option maxHeartbeats 1000000 in
theorem wsigned_any (p : Nat) (x : List UInt8 × Nat) (n : Int) (w : World) (h0 : -9223372036854775808 ≤ n) (h1 : n ≤ 9223372036854775807) (hN : x.2 ≤ 1200000000000000) (h : Wr p x w) :
    Calls Try.prog 28 #[.pointer (some ⟨p, 0, none⟩), .int .i64 n] w fun e w' => e = .returned (.tuple #[]) ∧ Below p w w' ∧ Wr p (pushNum x (zigN n)) w' := by
  have HZ := hid (zig_any n w h0 h1)
  rw [← zigN_cast n h0 h1] at HZ
  have HW := hid (wnum_any p x (zigN n) w (zigN_lt n h0 h1) hN h)
  clear h
  go_enter Try.func28, Try.ntmps28
  go_wp2_with fail
  refine HZ.out.mono ?_
  rintro e wz ⟨rfl, hwz⟩
  subst wz
  go_wp2_with fail
  refine HW.out.mono ?_
  rintro e w1 ⟨rfl, hb1, hw1⟩
  have L := hid hb1; have W1 := hid hw1
  clear hb1 hw1
  go_wp2
  go_end0
  exact ⟨rfl, L.out, W1.out⟩
end Go.Proofs.Ytcnfhabljogniaa
