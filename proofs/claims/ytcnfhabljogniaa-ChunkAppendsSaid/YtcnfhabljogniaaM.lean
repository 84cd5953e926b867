/- Contracts of bits.Get and of its reference; the walk of BitsGets. -/
import Derived.Test.YtcnfhabljogniaaK
namespace Go.Proofs.Ytcnfhabljogniaa
open Go.RowKit

theorem getN_lt (l : List UInt8) (a n : Nat) : getN l a n < 2 ^ n := by
  induction n with
  | zero => simp [getN]
  | succ n ih => rw [getN, Nat.pow_succ]; have := bitAt_lt l (a + n); omega
theorem getN_le63 (l : List UInt8) (a k n : Nat) (hk : k < n) (hn : n ≤ 64) : getN l a k ≤ 9223372036854775807 := by
  have h1 := getN_lt l a k
  have h2 : (2 : Nat) ^ k ≤ 2 ^ 63 := Nat.pow_le_pow_right (by decide) (by omega)
  have h3 : (2 : Nat) ^ 63 = 9223372036854775808 := by decide
  omega
/-- bits.Get in plain words -/
def getV (l : List UInt8) (N a n : Int) : Nat × Int :=
  if rightB l N = false ∨ n < 0 ∨ 64 < n ∨ a < 0 ∨ N < a then (0, 2) else if N - a < n then (0, 4) else (getN l a.toNat n.toNat, 0)
/-- What Get hands back. -/
def GetPost (w : World) (r : Nat × Int) (e : Ending) (w' : World) : Prop := e = .returned (.tuple #[.int .u64 (r.1 : Nat), .int .i64 r.2]) ∧ Below w.heap.size w w'
theorem get_bit (u z m : Nat) (hu : u ≤ 9223372036854775807) (hz : z < 256) : bits .or .u64 ((u : Int) * 2) (IntKind.u64.wrap (bits .and .u8 ((z : Int) / 2 ^ m) 1)) = ((2 * u + z / 2 ^ m % 2 : Nat) : Int) := by
  have e : ((z : Int) / 2 ^ m) = ((z / 2 ^ m : Nat) : Int) := by rw [Int.natCast_ediv, Int.natCast_pow]; rfl
  have hle : z / 2 ^ m ≤ z := Nat.div_le_self _ _
  rw [e, show (1 : Int) = ((1 : Nat) : Int) by rfl, u8_and_nat _ 1 (by omega) (by decide), nat_mask1, IntKind.wrap_u64, show (((z / 2 ^ m % 2 : Nat) : Int)) % 18446744073709551616 = ((z / 2 ^ m % 2 : Nat) : Int) by omega, show (u : Int) * 2 = ((2 * u : Nat) : Int) by omega, u64_or_nat _ _ (by omega) (by omega)]
  congr 1
  have := nat_join 1 (2 * u) (z / 2 ^ m % 2) (by simp) (by omega)
  exact this

section
variable (bv : Value) (l : List UInt8) (w : World) (hl : l.length ≤ 160000000000000) (hb : Sl w 1 bv l.length (bc l))
include hl hb

theorem get_bad1 (N a n : Int) (hN0 : -9223372036854775808 ≤ N) (hN : N ≤ 9223372036854775807) (ha0 : -9223372036854775808 ≤ a) (ha : a ≤ 9223372036854775807) (hR : rightB l N = false) :
    Calls Try.prog 55 #[.agg #[bv, .int .i64 N], .int .i64 a, .int .i64 n] w (GetPost w (0, 2)) := by
  have hr := fun wx (hx : Sl wx 1 bv l.length (bc l)) => right_any bv l N wx hN0 hN (by omega) hx
  rw [hR] at hr
  have Hr := hid hr; clear hr
  have Hb := hid hb; clear hb hR
  go_enter Try.func55, Try.ntmps55
  go_wp2_with (go_at_call 49; refine (Hr.out _ (Hb.out.alloc _)).mono ?_; rintro e w1 ⟨rfl, hb1⟩; obtain ⟨x0, x1, x2⟩ := one_box hb1; obtain ⟨a0, a1, a2, a3, a4⟩ := blk2 x0; have X0 := hid x0; have X1 := hid x1; clear x0 x1 hb1)
  go_ret2
  exact ⟨rfl, X1.out⟩

theorem get_bad2 (N a n : Int) (hN0 : -9223372036854775808 ≤ N) (hN : N ≤ 9223372036854775807) (ha0 : -9223372036854775808 ≤ a) (ha : a ≤ 9223372036854775807) (hR : rightB l N = true) (hc : n < 0) :
    Calls Try.prog 55 #[.agg #[bv, .int .i64 N], .int .i64 a, .int .i64 n] w (GetPost w (0, 2)) := by
  have hd0 : decide (n < 0) = true := by simpa using hc
  have hr := fun wx (hx : Sl wx 1 bv l.length (bc l)) => right_any bv l N wx hN0 hN (by omega) hx
  rw [hR] at hr
  have Hr := hid hr; clear hr
  have Hb := hid hb; clear hb hR
  go_enter Try.func55, Try.ntmps55
  go_wp2_with (go_at_call 49; refine (Hr.out _ (Hb.out.alloc _)).mono ?_; rintro e w1 ⟨rfl, hb1⟩; obtain ⟨x0, x1, x2⟩ := one_box hb1; obtain ⟨a0, a1, a2, a3, a4⟩ := blk2 x0; have X0 := hid x0; have X1 := hid x1; clear x0 x1 hb1)
  go_ret2
  exact ⟨rfl, X1.out⟩

theorem get_bad3 (N a n : Int) (hN0 : -9223372036854775808 ≤ N) (hN : N ≤ 9223372036854775807) (ha0 : -9223372036854775808 ≤ a) (ha : a ≤ 9223372036854775807) (hR : rightB l N = true) (hc : 0 ≤ n ∧ 64 < n) :
    Calls Try.prog 55 #[.agg #[bv, .int .i64 N], .int .i64 a, .int .i64 n] w (GetPost w (0, 2)) := by
  have hd0 : decide (n < 0) = false := by simp; omega
  have hd1 : decide (64 < n) = true := by simp; omega
  have hr := fun wx (hx : Sl wx 1 bv l.length (bc l)) => right_any bv l N wx hN0 hN (by omega) hx
  rw [hR] at hr
  have Hr := hid hr; clear hr
  have Hb := hid hb; clear hb hR
  go_enter Try.func55, Try.ntmps55
  go_wp2_with (go_at_call 49; refine (Hr.out _ (Hb.out.alloc _)).mono ?_; rintro e w1 ⟨rfl, hb1⟩; obtain ⟨x0, x1, x2⟩ := one_box hb1; obtain ⟨a0, a1, a2, a3, a4⟩ := blk2 x0; have X0 := hid x0; have X1 := hid x1; clear x0 x1 hb1)
  go_ret2
  exact ⟨rfl, X1.out⟩

theorem get_bad4 (N a n : Int) (hN0 : -9223372036854775808 ≤ N) (hN : N ≤ 9223372036854775807) (ha0 : -9223372036854775808 ≤ a) (ha : a ≤ 9223372036854775807) (hR : rightB l N = true) (hc : 0 ≤ n ∧ n ≤ 64 ∧ a < 0) :
    Calls Try.prog 55 #[.agg #[bv, .int .i64 N], .int .i64 a, .int .i64 n] w (GetPost w (0, 2)) := by
  have hd0 : decide (n < 0) = false := by simp; omega
  have hd1 : decide (64 < n) = false := by simp; omega
  have hd2 : decide (a < 0) = true := by simp; omega
  have hr := fun wx (hx : Sl wx 1 bv l.length (bc l)) => right_any bv l N wx hN0 hN (by omega) hx
  rw [hR] at hr
  have Hr := hid hr; clear hr
  have Hb := hid hb; clear hb hR
  go_enter Try.func55, Try.ntmps55
  go_wp2_with (go_at_call 49; refine (Hr.out _ (Hb.out.alloc _)).mono ?_; rintro e w1 ⟨rfl, hb1⟩; obtain ⟨x0, x1, x2⟩ := one_box hb1; obtain ⟨a0, a1, a2, a3, a4⟩ := blk2 x0; have X0 := hid x0; have X1 := hid x1; clear x0 x1 hb1)
  go_ret2
  exact ⟨rfl, X1.out⟩

theorem get_bad5 (N a n : Int) (hN0 : -9223372036854775808 ≤ N) (hN : N ≤ 9223372036854775807) (ha0 : -9223372036854775808 ≤ a) (ha : a ≤ 9223372036854775807) (hR : rightB l N = true) (hc : 0 ≤ n ∧ n ≤ 64 ∧ 0 ≤ a ∧ N < a) :
    Calls Try.prog 55 #[.agg #[bv, .int .i64 N], .int .i64 a, .int .i64 n] w (GetPost w (0, 2)) := by
  have hd0 : decide (n < 0) = false := by simp; omega
  have hd1 : decide (64 < n) = false := by simp; omega
  have hd2 : decide (a < 0) = false := by simp; omega
  have hd3 : decide (N < a) = true := by simp; omega
  have hr := fun wx (hx : Sl wx 1 bv l.length (bc l)) => right_any bv l N wx hN0 hN (by omega) hx
  rw [hR] at hr
  have Hr := hid hr; clear hr
  have Hb := hid hb; clear hb hR
  go_enter Try.func55, Try.ntmps55
  go_wp2_with (go_at_call 49; refine (Hr.out _ (Hb.out.alloc _)).mono ?_; rintro e w1 ⟨rfl, hb1⟩; obtain ⟨x0, x1, x2⟩ := one_box hb1; obtain ⟨a0, a1, a2, a3, a4⟩ := blk2 x0; have X0 := hid x0; have X1 := hid x1; clear x0 x1 hb1)
  go_ret2
  exact ⟨rfl, X1.out⟩

theorem get_bad6 (N a n : Int) (hN0 : -9223372036854775808 ≤ N) (hN : N ≤ 9223372036854775807) (ha0 : -9223372036854775808 ≤ a) (ha : a ≤ 9223372036854775807) (hR : rightB l N = true) (hc : 0 ≤ n ∧ n ≤ 64 ∧ 0 ≤ a ∧ a ≤ N ∧ N - a < n) :
    Calls Try.prog 55 #[.agg #[bv, .int .i64 N], .int .i64 a, .int .i64 n] w (GetPost w (0, 4)) := by
  have hd0 : decide (n < 0) = false := by simp; omega
  have hd1 : decide (64 < n) = false := by simp; omega
  have hd2 : decide (a < 0) = false := by simp; omega
  have hd3 : decide (N < a) = false := by simp; omega
  have hr := fun wx (hx : Sl wx 1 bv l.length (bc l)) => right_any bv l N wx hN0 hN (by omega) hx
  rw [hR] at hr
  have Hr := hid hr; clear hr
  have Hb := hid hb; clear hb hR
  go_enter Try.func55, Try.ntmps55
  go_wp2_with (go_at_call 49; refine (Hr.out _ (Hb.out.alloc _)).mono ?_; rintro e w1 ⟨rfl, hb1⟩; obtain ⟨x0, x1, x2⟩ := one_box hb1; obtain ⟨a0, a1, a2, a3, a4⟩ := blk2 x0; have X0 := hid x0; have X1 := hid x1; clear x0 x1 hb1)
  go_ret2
  exact ⟨rfl, X1.out⟩

theorem refGet_bad1 (N a n : Int) (hN0 : -9223372036854775808 ≤ N) (hN : N ≤ 9223372036854775807) (ha0 : -9223372036854775808 ≤ a) (ha : a ≤ 9223372036854775807) (hR : rightB l N = false) :
    Calls Try.prog 48 #[.agg #[bv, .int .i64 N], .int .i64 a, .int .i64 n] w (GetPost w (0, 2)) := by
  have hr := fun wx (hx : Sl wx 1 bv l.length (bc l)) => refRight_any bv l N wx hN0 hN (by omega) hx
  rw [hR] at hr
  have Hr := hid hr; clear hr
  have Hb := hid hb; clear hb hR
  go_enter Try.func48, Try.ntmps48
  go_wp2_with (go_at_call 52; refine (Hr.out _ (Hb.out.alloc _)).mono ?_; rintro e w1 ⟨rfl, hb1⟩; obtain ⟨x0, x1, x2⟩ := one_box hb1; obtain ⟨a0, a1, a2, a3, a4⟩ := blk2 x0; have X0 := hid x0; have X1 := hid x1; clear x0 x1 hb1)
  go_ret2
  exact ⟨rfl, X1.out⟩

theorem refGet_bad2 (N a n : Int) (hN0 : -9223372036854775808 ≤ N) (hN : N ≤ 9223372036854775807) (ha0 : -9223372036854775808 ≤ a) (ha : a ≤ 9223372036854775807) (hR : rightB l N = true) (hc : n < 0) :
    Calls Try.prog 48 #[.agg #[bv, .int .i64 N], .int .i64 a, .int .i64 n] w (GetPost w (0, 2)) := by
  have hd0 : decide (n < 0) = true := by simpa using hc
  have hr := fun wx (hx : Sl wx 1 bv l.length (bc l)) => refRight_any bv l N wx hN0 hN (by omega) hx
  rw [hR] at hr
  have Hr := hid hr; clear hr
  have Hb := hid hb; clear hb hR
  go_enter Try.func48, Try.ntmps48
  go_wp2_with (go_at_call 52; refine (Hr.out _ (Hb.out.alloc _)).mono ?_; rintro e w1 ⟨rfl, hb1⟩; obtain ⟨x0, x1, x2⟩ := one_box hb1; obtain ⟨a0, a1, a2, a3, a4⟩ := blk2 x0; have X0 := hid x0; have X1 := hid x1; clear x0 x1 hb1)
  go_ret2
  exact ⟨rfl, X1.out⟩

theorem refGet_bad3 (N a n : Int) (hN0 : -9223372036854775808 ≤ N) (hN : N ≤ 9223372036854775807) (ha0 : -9223372036854775808 ≤ a) (ha : a ≤ 9223372036854775807) (hR : rightB l N = true) (hc : 0 ≤ n ∧ 64 < n) :
    Calls Try.prog 48 #[.agg #[bv, .int .i64 N], .int .i64 a, .int .i64 n] w (GetPost w (0, 2)) := by
  have hd0 : decide (n < 0) = false := by simp; omega
  have hd1 : decide (64 < n) = true := by simp; omega
  have hr := fun wx (hx : Sl wx 1 bv l.length (bc l)) => refRight_any bv l N wx hN0 hN (by omega) hx
  rw [hR] at hr
  have Hr := hid hr; clear hr
  have Hb := hid hb; clear hb hR
  go_enter Try.func48, Try.ntmps48
  go_wp2_with (go_at_call 52; refine (Hr.out _ (Hb.out.alloc _)).mono ?_; rintro e w1 ⟨rfl, hb1⟩; obtain ⟨x0, x1, x2⟩ := one_box hb1; obtain ⟨a0, a1, a2, a3, a4⟩ := blk2 x0; have X0 := hid x0; have X1 := hid x1; clear x0 x1 hb1)
  go_ret2
  exact ⟨rfl, X1.out⟩

theorem refGet_bad4 (N a n : Int) (hN0 : -9223372036854775808 ≤ N) (hN : N ≤ 9223372036854775807) (ha0 : -9223372036854775808 ≤ a) (ha : a ≤ 9223372036854775807) (hR : rightB l N = true) (hc : 0 ≤ n ∧ n ≤ 64 ∧ a < 0) :
    Calls Try.prog 48 #[.agg #[bv, .int .i64 N], .int .i64 a, .int .i64 n] w (GetPost w (0, 2)) := by
  have hd0 : decide (n < 0) = false := by simp; omega
  have hd1 : decide (64 < n) = false := by simp; omega
  have hd2 : decide (a < 0) = true := by simp; omega
  have hr := fun wx (hx : Sl wx 1 bv l.length (bc l)) => refRight_any bv l N wx hN0 hN (by omega) hx
  rw [hR] at hr
  have Hr := hid hr; clear hr
  have Hb := hid hb; clear hb hR
  go_enter Try.func48, Try.ntmps48
  go_wp2_with (go_at_call 52; refine (Hr.out _ (Hb.out.alloc _)).mono ?_; rintro e w1 ⟨rfl, hb1⟩; obtain ⟨x0, x1, x2⟩ := one_box hb1; obtain ⟨a0, a1, a2, a3, a4⟩ := blk2 x0; have X0 := hid x0; have X1 := hid x1; clear x0 x1 hb1)
  go_ret2
  exact ⟨rfl, X1.out⟩

theorem refGet_bad5 (N a n : Int) (hN0 : -9223372036854775808 ≤ N) (hN : N ≤ 9223372036854775807) (ha0 : -9223372036854775808 ≤ a) (ha : a ≤ 9223372036854775807) (hR : rightB l N = true) (hc : 0 ≤ n ∧ n ≤ 64 ∧ 0 ≤ a ∧ N < a) :
    Calls Try.prog 48 #[.agg #[bv, .int .i64 N], .int .i64 a, .int .i64 n] w (GetPost w (0, 2)) := by
  have hd0 : decide (n < 0) = false := by simp; omega
  have hd1 : decide (64 < n) = false := by simp; omega
  have hd2 : decide (a < 0) = false := by simp; omega
  have hd3 : decide (N < a) = true := by simp; omega
  have hr := fun wx (hx : Sl wx 1 bv l.length (bc l)) => refRight_any bv l N wx hN0 hN (by omega) hx
  rw [hR] at hr
  have Hr := hid hr; clear hr
  have Hb := hid hb; clear hb hR
  go_enter Try.func48, Try.ntmps48
  go_wp2_with (go_at_call 52; refine (Hr.out _ (Hb.out.alloc _)).mono ?_; rintro e w1 ⟨rfl, hb1⟩; obtain ⟨x0, x1, x2⟩ := one_box hb1; obtain ⟨a0, a1, a2, a3, a4⟩ := blk2 x0; have X0 := hid x0; have X1 := hid x1; clear x0 x1 hb1)
  go_ret2
  exact ⟨rfl, X1.out⟩

theorem refGet_bad6 (N a n : Int) (hN0 : -9223372036854775808 ≤ N) (hN : N ≤ 9223372036854775807) (ha0 : -9223372036854775808 ≤ a) (ha : a ≤ 9223372036854775807) (hR : rightB l N = true) (hc : 0 ≤ n ∧ n ≤ 64 ∧ 0 ≤ a ∧ a ≤ N ∧ N - a < n) :
    Calls Try.prog 48 #[.agg #[bv, .int .i64 N], .int .i64 a, .int .i64 n] w (GetPost w (0, 4)) := by
  have hd0 : decide (n < 0) = false := by simp; omega
  have hd1 : decide (64 < n) = false := by simp; omega
  have hd2 : decide (a < 0) = false := by simp; omega
  have hd3 : decide (N < a) = false := by simp; omega
  have hr := fun wx (hx : Sl wx 1 bv l.length (bc l)) => refRight_any bv l N wx hN0 hN (by omega) hx
  rw [hR] at hr
  have Hr := hid hr; clear hr
  have Hb := hid hb; clear hb hR
  go_enter Try.func48, Try.ntmps48
  go_wp2_with (go_at_call 52; refine (Hr.out _ (Hb.out.alloc _)).mono ?_; rintro e w1 ⟨rfl, hb1⟩; obtain ⟨x0, x1, x2⟩ := one_box hb1; obtain ⟨a0, a1, a2, a3, a4⟩ := blk2 x0; have X0 := hid x0; have X1 := hid x1; clear x0 x1 hb1)
  go_ret2
  exact ⟨rfl, X1.out⟩

set_option maxRecDepth 100000 in
set_option maxHeartbeats 1000000 in
theorem get_good (N a n : Nat) (hN : N ≤ 9223372036854775807) (hR : rightB l N = true) (hn : n ≤ 64) (hc : a + n ≤ N) :
    Calls Try.prog 55 #[.agg #[bv, .int .i64 N], .int .i64 a, .int .i64 n] w (GetPost w (getN l a n, 0)) := by
  have hd0 : decide ((n : Int) < 0) = false := by simp
  have hd1 : decide (64 < (n : Int)) = false := by simp; omega
  have hd2 : decide ((a : Int) < 0) = false := by simp
  have hd3 : decide ((N : Int) < (a : Int)) = false := by simp; omega
  have hd5 : decide (N < a) = false := by simp; omega
  have hd4 : decide ((N : Int) - a < (n : Int)) = false := by simp; omega
  have hr := fun wx (hx : Sl wx 1 bv l.length (bc l)) => right_any bv l N wx (by omega) (by omega) (by omega) hx
  have hlen := (rightB_Rt hR).2.1
  rw [Int.toNat_natCast] at hlen
  have hN8 : N ≤ 8 * l.length := by omega
  rw [hR] at hr
  have Hr := hid hr; clear hr
  have Hb := hid hb; clear hb hR hlen
  go_enter Try.func55, Try.ntmps55
  go_wp2_with (go_at_call 49; refine (Hr.out _ (Hb.out.alloc _)).mono ?_; rintro e w1 ⟨rfl, hb1⟩; obtain ⟨x0, x1, x2⟩ := one_box hb1; obtain ⟨a0, a1, a2, a3, a4⟩ := blk2 x0; have X0 := hid x0; have X1 := hid x1; clear x0 x1 hb1)
  go_loop [8, 38] (fun v i => ∃ k : Nat, k ≤ n ∧ i = .int .i64 k ∧ v = .int .u64 (getN l a k : Nat))
    (fun _ i => n - (intOf i).toNat)
  case atStart => exact ⟨0, Nat.zero_le _, rfl, rfl⟩
  case round =>
    obtain ⟨k, hk, rfl, rfl⟩ := hrel
    have hst := hid (show getN l a (k + 1) = 2 * getN l a k + bitAt l (a + k) from rfl)
    have hu := getN_le63 l a k n
    obtain ⟨u, hU⟩ : ∃ u, u = getN l a k := ⟨_, rfl⟩
    rw [← hU] at hst hu ⊢
    have HU := hid hU; clear hU
    by_cases hlt : k < n
    · have hu' := hu hlt hn
      obtain ⟨b, off, c, rfl, hlc, _, hbl, hcell⟩ := Hb.out.form (by decide) (by omega)
      have hcc := hcell ((a + k) / 8) (by omega)
      rw [bc_get l ((a + k) / 8) (by omega)] at hcc
      have hix : ((a : Int) + k) / 8 < (l.length : Int) := by omega
      have hbit := show bitAt l (a + k) = (l.getD ((a + k) / 8) 0).toNat / 2 ^ (7 - (a + k) % 8) % 2 from rfl
      have hz8 : (l.getD ((a + k) / 8) 0).toNat < 256 := UInt8.toNat_lt _
      generalize (l.getD ((a + k) / 8) 0).toNat = z at *
      have hcw : w1.cell? ⟨b, off + (a + k) / 8, none⟩ = some (.int .u8 (z : Int)) := (X1.out.cell (p := ⟨b, off + (a + k) / 8, none⟩) hbl).trans hcc
      have Hbit := hid hbit; clear hbit hcell hcc hu
      have hgb := hid (get_bit u z (7 - (a + k) % 8) hu' hz8)
      go_wp2
      go_round
      case rel => exact ⟨k + 1, by omega, by go_num, by rw [hgb.out, hst.out, Hbit.out]⟩
      case measure => simp [intOf]; omega
    · clear hu
      obtain rfl : k = n := by omega
      go_wp2
      go_ret2
      exact ⟨by rw [HU.out]; rfl, X1.out⟩

set_option maxRecDepth 100000 in
set_option maxHeartbeats 1000000 in
theorem refGet_good (N a n : Nat) (hN : N ≤ 9223372036854775807) (hR : rightB l N = true) (hn : n ≤ 64) (hc : a + n ≤ N) :
    Calls Try.prog 48 #[.agg #[bv, .int .i64 N], .int .i64 a, .int .i64 n] w (GetPost w (getN l a n, 0)) := by
  have hd0 : decide ((n : Int) < 0) = false := by simp
  have hd1 : decide (64 < (n : Int)) = false := by simp; omega
  have hd2 : decide ((a : Int) < 0) = false := by simp
  have hd3 : decide ((N : Int) < (a : Int)) = false := by simp; omega
  have hd5 : decide (N < a) = false := by simp; omega
  have hd4 : decide ((N : Int) - a < (n : Int)) = false := by simp; omega
  have hr := fun wx (hx : Sl wx 1 bv l.length (bc l)) => refRight_any bv l N wx (by omega) (by omega) (by omega) hx
  have hlen := (rightB_Rt hR).2.1
  rw [Int.toNat_natCast] at hlen
  have hN8 : N ≤ 8 * l.length := by omega
  rw [hR] at hr
  have Hr := hid hr; clear hr
  have Hb := hid hb; clear hb hR hlen
  go_enter Try.func48, Try.ntmps48
  go_wp2_with (go_at_call 52; refine (Hr.out _ (Hb.out.alloc _)).mono ?_; rintro e w1 ⟨rfl, hb1⟩; obtain ⟨x0, x1, x2⟩ := one_box hb1; obtain ⟨a0, a1, a2, a3, a4⟩ := blk2 x0; have X0 := hid x0; have X1 := hid x1; clear x0 x1 hb1)
  go_loopw [8, 9] (fun v i wr => ∃ k : Nat, k ≤ n ∧ i = .int .i64 k ∧ v = .int .u64 (getN l a k : Nat) ∧ wr.heap[w.heap.size]? = some (.cells #[bv, .int .i64 N] 58 (0, 0)) ∧ Below w.heap.size w wr)
    (fun _ i _ => n - (intOf i).toNat)
  case atStart => exact ⟨0, Nat.zero_le _, rfl, rfl, X0.out, X1.out⟩
  case round =>
    obtain ⟨k, hk, rfl, rfl, hB, hbel⟩ := hrel
    clear a0 a1 a2 a3 a4
    obtain ⟨a0, a1, a2, a3, a4⟩ := blk2 hB
    have H := hid hB; have L := hid hbel; clear hB hbel
    have hst := hid (show getN l a (k + 1) = 2 * getN l a k + bitAt l (a + k) from rfl)
    have hu := getN_le63 l a k n
    obtain ⟨u, hU⟩ : ∃ u, u = getN l a k := ⟨_, rfl⟩
    rw [← hU] at hst hu ⊢
    have HU := hid hU; clear hU
    by_cases hlt : k < n
    · have hu' := hu hlt hn
      have hbt := bitAt_lt l (a + k)
      have hRb := hid (fun (wx : World) (hx : Sl wx 1 bv l.length (bc l)) => refBit_any bv l N (a + k) wx (by omega) (by omega) hx)
      obtain ⟨z, hz⟩ : ∃ z, z = bitAt l (a + k) := ⟨_, rfl⟩
      rw [← hz] at hst hbt hRb
      have Hz := hid hz; clear hz hu
      have e1 : ((a + k : Nat) : Int) = (a : Int) + k := by omega
      rw [e1] at hRb
      clear e1
      go_wp2_with (go_at_call 56; refine (hRb.out _ (Hb.out.below L.out (fun _ _ h => h))).mono ?_; rintro e w5 ⟨rfl, hb5⟩; have B5 := hid hb5; have x5 := blk_below H.out hb5 a4; have X5 := hid x5; obtain ⟨b0, b1, b2, b3, b4⟩ := blk2 x5; clear x5 hb5)
      go_roundw
      case rel =>
        exact ⟨k + 1, by omega, by go_num, by rw [hst.out]; go_num, X5.out, L.out.trans (B5.out.mono L.out.size)⟩
      case measure => simp [intOf]; omega
    · clear hu
      obtain rfl : k = n := by omega
      go_wp2
      go_ret2
      exact ⟨by rw [HU.out]; rfl, L.out⟩
end

/-- bits.Get. -/
theorem get_any (bv : Value) (l : List UInt8) (N a n : Int) (w : World) (hN0 : -9223372036854775808 ≤ N) (hN : N ≤ 9223372036854775807) (ha0 : -9223372036854775808 ≤ a) (ha : a ≤ 9223372036854775807)
    (hl : l.length ≤ 160000000000000) (hb : Sl w 1 bv l.length (bc l)) :
    Calls Try.prog 55 #[.agg #[bv, .int .i64 N], .int .i64 a, .int .i64 n] w (GetPost w (getV l N a n)) := by
  by_cases hR : rightB l N = false
  · rw [show getV l N a n = (0, 2) by unfold getV; rw [if_pos (.inl hR)]]
    exact get_bad1 bv l w hl hb N a n hN0 hN ha0 ha hR
  have hR' : rightB l N = true := by simpa using hR
  by_cases h1 : n < 0
  · rw [show getV l N a n = (0, 2) by unfold getV; rw [if_pos (.inr (.inl h1))]]
    exact get_bad2 bv l w hl hb N a n hN0 hN ha0 ha hR' h1
  by_cases h2 : 64 < n
  · rw [show getV l N a n = (0, 2) by unfold getV; rw [if_pos (.inr (.inr (.inl h2)))]]
    exact get_bad3 bv l w hl hb N a n hN0 hN ha0 ha hR' ⟨by omega, h2⟩
  by_cases h3 : a < 0
  · rw [show getV l N a n = (0, 2) by unfold getV; rw [if_pos (.inr (.inr (.inr (.inl h3))))]]
    exact get_bad4 bv l w hl hb N a n hN0 hN ha0 ha hR' ⟨by omega, by omega, h3⟩
  by_cases h4 : N < a
  · rw [show getV l N a n = (0, 2) by unfold getV; rw [if_pos (.inr (.inr (.inr (.inr h4))))]]
    exact get_bad5 bv l w hl hb N a n hN0 hN ha0 ha hR' ⟨by omega, by omega, by omega, h4⟩
  have hno : ¬ (rightB l N = false ∨ n < 0 ∨ 64 < n ∨ a < 0 ∨ N < a) := by simp [hR']; omega
  by_cases h5 : N - a < n
  · rw [show getV l N a n = (0, 4) by unfold getV; rw [if_neg hno, if_pos h5]]
    exact get_bad6 bv l w hl hb N a n hN0 hN ha0 ha hR' ⟨by omega, by omega, by omega, by omega, h5⟩
  rw [show getV l N a n = (getN l a.toNat n.toNat, 0) by unfold getV; rw [if_neg hno, if_neg h5]]
  obtain ⟨N, rfl⟩ := Int.eq_ofNat_of_zero_le (show 0 ≤ N by omega)
  obtain ⟨a, rfl⟩ := Int.eq_ofNat_of_zero_le (show 0 ≤ a by omega)
  obtain ⟨n, rfl⟩ := Int.eq_ofNat_of_zero_le (show 0 ≤ n by omega)
  exact get_good bv l w hl hb N a n (by omega) hR' (by omega) (by omega)
theorem refGet_any (bv : Value) (l : List UInt8) (N a n : Int) (w : World) (hN0 : -9223372036854775808 ≤ N) (hN : N ≤ 9223372036854775807) (ha0 : -9223372036854775808 ≤ a) (ha : a ≤ 9223372036854775807)
    (hl : l.length ≤ 160000000000000) (hb : Sl w 1 bv l.length (bc l)) :
    Calls Try.prog 48 #[.agg #[bv, .int .i64 N], .int .i64 a, .int .i64 n] w (GetPost w (getV l N a n)) := by
  by_cases hR : rightB l N = false
  · rw [show getV l N a n = (0, 2) by unfold getV; rw [if_pos (.inl hR)]]
    exact refGet_bad1 bv l w hl hb N a n hN0 hN ha0 ha hR
  have hR' : rightB l N = true := by simpa using hR
  by_cases h1 : n < 0
  · rw [show getV l N a n = (0, 2) by unfold getV; rw [if_pos (.inr (.inl h1))]]
    exact refGet_bad2 bv l w hl hb N a n hN0 hN ha0 ha hR' h1
  by_cases h2 : 64 < n
  · rw [show getV l N a n = (0, 2) by unfold getV; rw [if_pos (.inr (.inr (.inl h2)))]]
    exact refGet_bad3 bv l w hl hb N a n hN0 hN ha0 ha hR' ⟨by omega, h2⟩
  by_cases h3 : a < 0
  · rw [show getV l N a n = (0, 2) by unfold getV; rw [if_pos (.inr (.inr (.inr (.inl h3))))]]
    exact refGet_bad4 bv l w hl hb N a n hN0 hN ha0 ha hR' ⟨by omega, by omega, h3⟩
  by_cases h4 : N < a
  · rw [show getV l N a n = (0, 2) by unfold getV; rw [if_pos (.inr (.inr (.inr (.inr h4))))]]
    exact refGet_bad5 bv l w hl hb N a n hN0 hN ha0 ha hR' ⟨by omega, by omega, by omega, h4⟩
  have hno : ¬ (rightB l N = false ∨ n < 0 ∨ 64 < n ∨ a < 0 ∨ N < a) := by simp [hR']; omega
  by_cases h5 : N - a < n
  · rw [show getV l N a n = (0, 4) by unfold getV; rw [if_neg hno, if_pos h5]]
    exact refGet_bad6 bv l w hl hb N a n hN0 hN ha0 ha hR' ⟨by omega, by omega, by omega, by omega, h5⟩
  rw [show getV l N a n = (getN l a.toNat n.toNat, 0) by unfold getV; rw [if_neg hno, if_neg h5]]
  obtain ⟨N, rfl⟩ := Int.eq_ofNat_of_zero_le (show 0 ≤ N by omega)
  obtain ⟨a, rfl⟩ := Int.eq_ofNat_of_zero_le (show 0 ≤ a by omega)
  obtain ⟨n, rfl⟩ := Int.eq_ofNat_of_zero_le (show 0 ≤ n by omega)
  exact refGet_good bv l w hl hb N a n (by omega) hR' (by omega) (by omega)

end Go.Proofs.Ytcnfhabljogniaa
