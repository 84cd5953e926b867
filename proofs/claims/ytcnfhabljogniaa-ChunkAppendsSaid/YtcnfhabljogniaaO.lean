/- Contracts of bits.GetNum and of its reference; the walk of BitsNums. -/
import Derived.Test.YtcnfhabljogniaaN
namespace Go.Proofs.Ytcnfhabljogniaa
open Go.RowKit

/-- bits.GetNum in plain words -/
def getNumV (l : List UInt8) (N a : Int) : Nat × Int × Int :=
  if (getV l N a 7).2 ≠ 0 then (0, 0, (getV l N a 7).2)
  else if 64 < (getV l N a 7).1 then (0, 0, 5)
  else if (getV l N (a + 7) (getV l N a 7).1).2 ≠ 0 then (0, 0, (getV l N (a + 7) (getV l N a 7).1).2)
  else if Lib.bitLen (getV l N (a + 7) (getV l N a 7).1).1 ≠ (getV l N a 7).1 then (0, 0, 5)
  else ((getV l N (a + 7) (getV l N a 7).1).1, a + 7 + (getV l N a 7).1, 0)
def GetNumPost (w : World) (r : Nat × Int × Int) (e : Ending) (w' : World) : Prop := e = .returned (.tuple #[.int .u64 (r.1 : Nat), .int .i64 r.2.1, .int .i64 r.2.2]) ∧ Below w.heap.size w w'
theorem getV_ok {l : List UInt8} {N a n : Int} (h : (getV l N a n).2 = 0) : rightB l N = true ∧ 0 ≤ n ∧ n ≤ 64 ∧ 0 ≤ a ∧ a + n ≤ N ∧ (getV l N a n).1 = getN l a.toNat n.toNat := by
  unfold getV at h ⊢
  by_cases h1 : rightB l N = false ∨ n < 0 ∨ 64 < n ∨ a < 0 ∨ N < a
  · rw [if_pos h1] at h; exact absurd h (by decide)
  · rw [if_neg h1] at h ⊢
    by_cases h2 : N - a < n
    · rw [if_pos h2] at h; exact absurd h (by decide)
    · rw [if_neg h2]
      have hR : rightB l N = true := by
        cases hh : rightB l N
        · exact absurd (.inl hh) h1
        · rfl
      refine ⟨hR, by omega, by omega, by omega, by omega, rfl⟩
theorem getV_lt (l : List UInt8) (N a n : Int) : (getV l N a n).1 < 18446744073709551616 := by
  unfold getV
  split
  · decide
  · split
    · decide
    · have h1 := getN_lt l a.toNat n.toNat
      have h2 : (2 : Nat) ^ n.toNat ≤ 2 ^ 64 := Nat.pow_le_pow_right (by decide) (by omega)
      have h3 : (2 : Nat) ^ 64 = 18446744073709551616 := by decide
      simp only
      omega

section
variable (bv : Value) (l : List UInt8) (w : World) (hl : l.length ≤ 160000000000000) (hb : Sl w 1 bv l.length (bc l)) (N a : Int) (hN0 : -9223372036854775808 ≤ N) (hN : N ≤ 9223372036854775807) (ha0 : -9223372036854775808 ≤ a) (ha : a ≤ 9223372036854775807)
include hl hb hN0 hN ha0 ha

theorem getNum_err (n : Nat) (er : Int) (hg : getV l N a 7 = (n, er)) (he : er ≠ 0) :
    Calls Try.prog 47 #[.agg #[bv, .int .i64 N], .int .i64 a] w (GetNumPost w (0, 0, er)) := by
  have hG := fun wx (hx : Sl wx 1 bv l.length (bc l)) => get_any bv l N a 7 wx hN0 hN ha0 ha hl hx
  rw [hg] at hG
  have HG := hid hG; have Hb := hid hb
  have hd : (er != 0) = true := by simpa using he
  clear hG hg he hb
  go_enter Try.func47, Try.ntmps47
  go_wp2_with fail
  refine (HG.out _ (Hb.out.alloc _)).mono ?_
  rintro e w1 ⟨rfl, hb1⟩
  obtain ⟨x0, x1, x2⟩ := one_box hb1
  have X1 := hid x1
  clear x0 x1 hb1
  go_wp2
  go_ret3
  exact ⟨rfl, X1.out⟩

theorem getNum_wide (n : Nat) (hg : getV l N a 7 = (n, 0)) (hn : 64 < n) :
    Calls Try.prog 47 #[.agg #[bv, .int .i64 N], .int .i64 a] w (GetNumPost w (0, 0, 5)) := by
  have hG := fun wx (hx : Sl wx 1 bv l.length (bc l)) => get_any bv l N a 7 wx hN0 hN ha0 ha hl hx
  rw [hg] at hG
  have HG := hid hG; have Hb := hid hb
  have hd : decide (64 < (n : Int)) = true := by simp; omega
  clear hG hg hb
  go_enter Try.func47, Try.ntmps47
  go_wp2_with fail
  refine (HG.out _ (Hb.out.alloc _)).mono ?_
  rintro e w1 ⟨rfl, hb1⟩
  obtain ⟨x0, x1, x2⟩ := one_box hb1
  have X1 := hid x1
  clear x0 x1 hb1
  go_wp2
  go_ret3
  exact ⟨rfl, X1.out⟩

set_option maxRecDepth 100000 in
theorem getNum_err2 (n u : Nat) (er : Int) (hg : getV l N a 7 = (n, 0)) (hn : n ≤ 64) (hg2 : getV l N (a + 7) n = (u, er)) (he : er ≠ 0) :
    Calls Try.prog 47 #[.agg #[bv, .int .i64 N], .int .i64 a] w (GetNumPost w (0, 0, er)) := by
  have hok := getV_ok (show (getV l N a 7).2 = 0 by rw [hg])
  have hb1 := hok.2.2.2.1
  have hb2 := hok.2.2.2.2.1
  have hG := fun wx (hx : Sl wx 1 bv l.length (bc l)) => get_any bv l N a 7 wx hN0 hN ha0 ha hl hx
  have hS := fun wx (hx : Sl wx 1 bv l.length (bc l)) => get_any bv l N (a + 7) n wx hN0 hN (by omega) (by omega) hl hx
  rw [hg] at hG
  rw [hg2] at hS
  have HG := hid hG; have HS := hid hS; have Hb := hid hb
  have hd : decide (64 < (n : Int)) = false := by simp; omega
  have hd2 : (er != 0) = true := by simpa using he
  clear hG hS hg hg2 he hb hok
  go_enter Try.func47, Try.ntmps47
  go_wp2_with fail
  refine (HG.out _ (Hb.out.alloc _)).mono ?_
  rintro e w1 ⟨rfl, hb1⟩
  obtain ⟨x0, x1, x2⟩ := one_box hb1
  obtain ⟨a0, a1, a2, a3, a4⟩ := blk2 x0
  have X1 := hid x1
  clear x0 x1 hb1
  go_wp2_with fail
  refine (HS.out _ (Hb.out.below X1.out (fun _ _ h => h))).mono ?_
  rintro e w2 ⟨rfl, hb2⟩
  have L2 := hid hb2; clear hb2
  go_wp2
  go_ret3
  exact ⟨rfl, X1.out.trans (L2.out.mono (by omega))⟩

set_option maxRecDepth 100000 in
theorem getNum_odd (n u m : Nat) (hu : u < 18446744073709551616) (hg : getV l N a 7 = (n, 0)) (hn : n ≤ 64) (hg2 : getV l N (a + 7) n = (u, 0)) (hm : Lib.bitLen u = m) (hne : m ≠ n) :
    Calls Try.prog 47 #[.agg #[bv, .int .i64 N], .int .i64 a] w (GetNumPost w (0, 0, 5)) := by
  have hok := getV_ok (show (getV l N a 7).2 = 0 by rw [hg])
  have hb1 := hok.2.2.2.1
  have hb2 := hok.2.2.2.2.1
  have hG := fun wx (hx : Sl wx 1 bv l.length (bc l)) => get_any bv l N a 7 wx hN0 hN ha0 ha hl hx
  have hS := fun wx (hx : Sl wx 1 bv l.length (bc l)) => get_any bv l N (a + 7) n wx hN0 hN (by omega) (by omega) hl hx
  have hL := fun wx => len_any u wx hu
  rw [hg] at hG
  rw [hg2] at hS
  rw [hm] at hL
  have HG := hid hG; have HS := hid hS; have Hb := hid hb; have HL := hid hL
  have hd : decide (64 < (n : Int)) = false := by simp; omega
  have hd2 : ((m : Int) != (n : Int)) = true := by simp; omega
  have hd3 : (m != n) = true := by simpa using hne
  clear hG hS hL hg hg2 hb hok hm hne
  go_enter Try.func47, Try.ntmps47
  go_wp2_with fail
  refine (HG.out _ (Hb.out.alloc _)).mono ?_
  rintro e w1 ⟨rfl, hb1⟩
  obtain ⟨x0, x1, x2⟩ := one_box hb1
  obtain ⟨a0, a1, a2, a3, a4⟩ := blk2 x0
  have X1 := hid x1
  clear x0 x1 hb1
  go_wp2_with fail
  refine (HS.out _ (Hb.out.below X1.out (fun _ _ h => h))).mono ?_
  rintro e w2 ⟨rfl, hb2⟩
  have L2 := hid hb2; clear hb2
  go_wp2_with fail
  refine (HL.out w2).mono ?_
  rintro e wz ⟨rfl, hwz⟩
  subst wz
  go_wp2
  go_ret3
  exact ⟨rfl, X1.out.trans (L2.out.mono (by omega))⟩

set_option maxRecDepth 100000 in
theorem getNum_good (n u : Nat) (hu : u < 18446744073709551616) (hg : getV l N a 7 = (n, 0)) (hn : n ≤ 64) (hg2 : getV l N (a + 7) n = (u, 0)) (hm : Lib.bitLen u = n) :
    Calls Try.prog 47 #[.agg #[bv, .int .i64 N], .int .i64 a] w (GetNumPost w (u, a + 7 + n, 0)) := by
  have hok := getV_ok (show (getV l N a 7).2 = 0 by rw [hg])
  have hb1 := hok.2.2.2.1
  have hb2 := hok.2.2.2.2.1
  have hok2 := getV_ok (show (getV l N (a + 7) n).2 = 0 by rw [hg2])
  have hb3 := hok2.2.2.2.2.1
  have hG := fun wx (hx : Sl wx 1 bv l.length (bc l)) => get_any bv l N a 7 wx hN0 hN ha0 ha hl hx
  have hS := fun wx (hx : Sl wx 1 bv l.length (bc l)) => get_any bv l N (a + 7) n wx hN0 hN (by omega) (by omega) hl hx
  have hL := fun wx => len_any u wx hu
  rw [hg] at hG
  rw [hg2] at hS
  rw [hm] at hL
  have HG := hid hG; have HS := hid hS; have Hb := hid hb; have HL := hid hL
  have hd : decide (64 < (n : Int)) = false := by simp; omega
  have hd2 : ((n : Int) != (n : Int)) = false := by simp
  have hd3 : (n != n) = false := by simp
  clear hG hS hL hg hg2 hb hok hm hok2
  go_enter Try.func47, Try.ntmps47
  go_wp2_with fail
  refine (HG.out _ (Hb.out.alloc _)).mono ?_
  rintro e w1 ⟨rfl, hb1⟩
  obtain ⟨x0, x1, x2⟩ := one_box hb1
  obtain ⟨a0, a1, a2, a3, a4⟩ := blk2 x0
  have X1 := hid x1
  clear x0 x1 hb1
  go_wp2_with fail
  refine (HS.out _ (Hb.out.below X1.out (fun _ _ h => h))).mono ?_
  rintro e w2 ⟨rfl, hb2⟩
  have L2 := hid hb2; clear hb2
  go_wp2_with fail
  refine (HL.out w2).mono ?_
  rintro e wz ⟨rfl, hwz⟩
  subst wz
  go_wp2
  go_ret3
  exact ⟨rfl, X1.out.trans (L2.out.mono (by omega))⟩

theorem getNum_any :
    Calls Try.prog 47 #[.agg #[bv, .int .i64 N], .int .i64 a] w (GetNumPost w (getNumV l N a)) := by
  obtain ⟨n, e1, hg⟩ : ∃ n e, getV l N a 7 = (n, e) := ⟨_, _, rfl⟩
  by_cases h1 : e1 = 0
  · subst h1
    by_cases h2 : 64 < n
    · rw [show getNumV l N a = (0, 0, 5) by unfold getNumV; rw [hg]; simp [h2]]
      exact getNum_wide bv l w hl hb N a hN0 hN ha0 ha n hg h2
    · obtain ⟨u, e2, hg2⟩ : ∃ u e, getV l N (a + 7) n = (u, e) := ⟨_, _, rfl⟩
      by_cases h3 : e2 = 0
      · subst h3
        have hu := getV_lt l N (a + 7) n
        rw [hg2] at hu
        by_cases h4 : Lib.bitLen u = n
        · rw [show getNumV l N a = (u, a + 7 + n, 0) by unfold getNumV; rw [hg]; simp [h2, hg2, h4]]
          exact getNum_good bv l w hl hb N a hN0 hN ha0 ha n u hu hg (by omega) hg2 h4
        · rw [show getNumV l N a = (0, 0, 5) by unfold getNumV; rw [hg]; simp [h2, hg2, h4]]
          exact getNum_odd bv l w hl hb N a hN0 hN ha0 ha n u _ hu hg (by omega) hg2 rfl h4
      · rw [show getNumV l N a = (0, 0, e2) by unfold getNumV; rw [hg]; simp [h2, hg2, h3]]
        exact getNum_err2 bv l w hl hb N a hN0 hN ha0 ha n u e2 hg (by omega) hg2 h3
  · rw [show getNumV l N a = (0, 0, e1) by unfold getNumV; rw [hg]; simp [h1]]
    exact getNum_err bv l w hl hb N a hN0 hN ha0 ha n e1 hg h1
end

section
variable (bv : Value) (l : List UInt8) (w : World) (hl : l.length ≤ 160000000000000) (hb : Sl w 1 bv l.length (bc l)) (N a : Int) (hN0 : -9223372036854775808 ≤ N) (hN : N ≤ 9223372036854775807) (ha0 : -9223372036854775808 ≤ a) (ha : a ≤ 9223372036854775807)
include hl hb hN0 hN ha0 ha

theorem refGetNum_err (n : Nat) (er : Int) (hg : getV l N a 7 = (n, er)) (he : er ≠ 0) :
    Calls Try.prog 40 #[.agg #[bv, .int .i64 N], .int .i64 a] w (GetNumPost w (0, 0, er)) := by
  have hG := fun wx (hx : Sl wx 1 bv l.length (bc l)) => refGet_any bv l N a 7 wx hN0 hN ha0 ha hl hx
  rw [hg] at hG
  have HG := hid hG; have Hb := hid hb
  have hd : (er != 0) = true := by simpa using he
  clear hG hg he hb
  go_enter Try.func40, Try.ntmps40
  go_wp2_with fail
  refine (HG.out _ (Hb.out.alloc _)).mono ?_
  rintro e w1 ⟨rfl, hb1⟩
  obtain ⟨x0, x1, x2⟩ := one_box hb1
  have X1 := hid x1
  clear x0 x1 hb1
  go_wp2
  go_ret3
  exact ⟨rfl, X1.out⟩

theorem refGetNum_wide (n : Nat) (hg : getV l N a 7 = (n, 0)) (hn : 64 < n) :
    Calls Try.prog 40 #[.agg #[bv, .int .i64 N], .int .i64 a] w (GetNumPost w (0, 0, 5)) := by
  have hG := fun wx (hx : Sl wx 1 bv l.length (bc l)) => refGet_any bv l N a 7 wx hN0 hN ha0 ha hl hx
  rw [hg] at hG
  have HG := hid hG; have Hb := hid hb
  have hd : decide (64 < (n : Int)) = true := by simp; omega
  clear hG hg hb
  go_enter Try.func40, Try.ntmps40
  go_wp2_with fail
  refine (HG.out _ (Hb.out.alloc _)).mono ?_
  rintro e w1 ⟨rfl, hb1⟩
  obtain ⟨x0, x1, x2⟩ := one_box hb1
  have X1 := hid x1
  clear x0 x1 hb1
  go_wp2
  go_ret3
  exact ⟨rfl, X1.out⟩

set_option maxRecDepth 100000 in
theorem refGetNum_err2 (n u : Nat) (er : Int) (hg : getV l N a 7 = (n, 0)) (hn : n ≤ 64) (hg2 : getV l N (a + 7) n = (u, er)) (he : er ≠ 0) :
    Calls Try.prog 40 #[.agg #[bv, .int .i64 N], .int .i64 a] w (GetNumPost w (0, 0, er)) := by
  have hok := getV_ok (show (getV l N a 7).2 = 0 by rw [hg])
  have hb1 := hok.2.2.2.1
  have hb2 := hok.2.2.2.2.1
  have hG := fun wx (hx : Sl wx 1 bv l.length (bc l)) => refGet_any bv l N a 7 wx hN0 hN ha0 ha hl hx
  have hS := fun wx (hx : Sl wx 1 bv l.length (bc l)) => refGet_any bv l N (a + 7) n wx hN0 hN (by omega) (by omega) hl hx
  rw [hg] at hG
  rw [hg2] at hS
  have HG := hid hG; have HS := hid hS; have Hb := hid hb
  have hd : decide (64 < (n : Int)) = false := by simp; omega
  have hd2 : (er != 0) = true := by simpa using he
  clear hG hS hg hg2 he hb hok
  go_enter Try.func40, Try.ntmps40
  go_wp2_with fail
  refine (HG.out _ (Hb.out.alloc _)).mono ?_
  rintro e w1 ⟨rfl, hb1⟩
  obtain ⟨x0, x1, x2⟩ := one_box hb1
  obtain ⟨a0, a1, a2, a3, a4⟩ := blk2 x0
  have X1 := hid x1
  clear x0 x1 hb1
  go_wp2_with fail
  refine (HS.out _ (Hb.out.below X1.out (fun _ _ h => h))).mono ?_
  rintro e w2 ⟨rfl, hb2⟩
  have L2 := hid hb2; clear hb2
  go_wp2
  go_ret3
  exact ⟨rfl, X1.out.trans (L2.out.mono (by omega))⟩

set_option maxRecDepth 100000 in
theorem refGetNum_odd (n u m : Nat) (hu : u < 18446744073709551616) (hg : getV l N a 7 = (n, 0)) (hn : n ≤ 64) (hg2 : getV l N (a + 7) n = (u, 0)) (hm : Lib.bitLen u = m) (hne : m ≠ n) :
    Calls Try.prog 40 #[.agg #[bv, .int .i64 N], .int .i64 a] w (GetNumPost w (0, 0, 5)) := by
  have hok := getV_ok (show (getV l N a 7).2 = 0 by rw [hg])
  have hb1 := hok.2.2.2.1
  have hb2 := hok.2.2.2.2.1
  have hG := fun wx (hx : Sl wx 1 bv l.length (bc l)) => refGet_any bv l N a 7 wx hN0 hN ha0 ha hl hx
  have hS := fun wx (hx : Sl wx 1 bv l.length (bc l)) => refGet_any bv l N (a + 7) n wx hN0 hN (by omega) (by omega) hl hx
  have hL := fun wx => refDigits_any u wx hu
  rw [hg] at hG
  rw [hg2] at hS
  rw [hm] at hL
  have HG := hid hG; have HS := hid hS; have Hb := hid hb; have HL := hid hL
  have hd : decide (64 < (n : Int)) = false := by simp; omega
  have hd2 : ((m : Int) != (n : Int)) = true := by simp; omega
  have hd3 : (m != n) = true := by simpa using hne
  clear hG hS hL hg hg2 hb hok hm hne
  go_enter Try.func40, Try.ntmps40
  go_wp2_with fail
  refine (HG.out _ (Hb.out.alloc _)).mono ?_
  rintro e w1 ⟨rfl, hb1⟩
  obtain ⟨x0, x1, x2⟩ := one_box hb1
  obtain ⟨a0, a1, a2, a3, a4⟩ := blk2 x0
  have X1 := hid x1
  clear x0 x1 hb1
  go_wp2_with fail
  refine (HS.out _ (Hb.out.below X1.out (fun _ _ h => h))).mono ?_
  rintro e w2 ⟨rfl, hb2⟩
  have L2 := hid hb2; clear hb2
  go_wp2_with fail
  refine (HL.out w2).mono ?_
  rintro e wz ⟨rfl, hwz⟩
  subst wz
  go_wp2
  go_ret3
  exact ⟨rfl, X1.out.trans (L2.out.mono (by omega))⟩

set_option maxRecDepth 100000 in
theorem refGetNum_good (n u : Nat) (hu : u < 18446744073709551616) (hg : getV l N a 7 = (n, 0)) (hn : n ≤ 64) (hg2 : getV l N (a + 7) n = (u, 0)) (hm : Lib.bitLen u = n) :
    Calls Try.prog 40 #[.agg #[bv, .int .i64 N], .int .i64 a] w (GetNumPost w (u, a + 7 + n, 0)) := by
  have hok := getV_ok (show (getV l N a 7).2 = 0 by rw [hg])
  have hb1 := hok.2.2.2.1
  have hb2 := hok.2.2.2.2.1
  have hok2 := getV_ok (show (getV l N (a + 7) n).2 = 0 by rw [hg2])
  have hb3 := hok2.2.2.2.2.1
  have hG := fun wx (hx : Sl wx 1 bv l.length (bc l)) => refGet_any bv l N a 7 wx hN0 hN ha0 ha hl hx
  have hS := fun wx (hx : Sl wx 1 bv l.length (bc l)) => refGet_any bv l N (a + 7) n wx hN0 hN (by omega) (by omega) hl hx
  have hL := fun wx => refDigits_any u wx hu
  rw [hg] at hG
  rw [hg2] at hS
  rw [hm] at hL
  have HG := hid hG; have HS := hid hS; have Hb := hid hb; have HL := hid hL
  have hd : decide (64 < (n : Int)) = false := by simp; omega
  have hd2 : ((n : Int) != (n : Int)) = false := by simp
  have hd3 : (n != n) = false := by simp
  clear hG hS hL hg hg2 hb hok hm hok2
  go_enter Try.func40, Try.ntmps40
  go_wp2_with fail
  refine (HG.out _ (Hb.out.alloc _)).mono ?_
  rintro e w1 ⟨rfl, hb1⟩
  obtain ⟨x0, x1, x2⟩ := one_box hb1
  obtain ⟨a0, a1, a2, a3, a4⟩ := blk2 x0
  have X1 := hid x1
  clear x0 x1 hb1
  go_wp2_with fail
  refine (HS.out _ (Hb.out.below X1.out (fun _ _ h => h))).mono ?_
  rintro e w2 ⟨rfl, hb2⟩
  have L2 := hid hb2; clear hb2
  go_wp2_with fail
  refine (HL.out w2).mono ?_
  rintro e wz ⟨rfl, hwz⟩
  subst wz
  go_wp2
  go_ret3
  exact ⟨rfl, X1.out.trans (L2.out.mono (by omega))⟩

theorem refGetNum_any :
    Calls Try.prog 40 #[.agg #[bv, .int .i64 N], .int .i64 a] w (GetNumPost w (getNumV l N a)) := by
  obtain ⟨n, e1, hg⟩ : ∃ n e, getV l N a 7 = (n, e) := ⟨_, _, rfl⟩
  by_cases h1 : e1 = 0
  · subst h1
    by_cases h2 : 64 < n
    · rw [show getNumV l N a = (0, 0, 5) by unfold getNumV; rw [hg]; simp [h2]]
      exact refGetNum_wide bv l w hl hb N a hN0 hN ha0 ha n hg h2
    · obtain ⟨u, e2, hg2⟩ : ∃ u e, getV l N (a + 7) n = (u, e) := ⟨_, _, rfl⟩
      by_cases h3 : e2 = 0
      · subst h3
        have hu := getV_lt l N (a + 7) n
        rw [hg2] at hu
        by_cases h4 : Lib.bitLen u = n
        · rw [show getNumV l N a = (u, a + 7 + n, 0) by unfold getNumV; rw [hg]; simp [h2, hg2, h4]]
          exact refGetNum_good bv l w hl hb N a hN0 hN ha0 ha n u hu hg (by omega) hg2 h4
        · rw [show getNumV l N a = (0, 0, 5) by unfold getNumV; rw [hg]; simp [h2, hg2, h4]]
          exact refGetNum_odd bv l w hl hb N a hN0 hN ha0 ha n u _ hu hg (by omega) hg2 rfl h4
      · rw [show getNumV l N a = (0, 0, e2) by unfold getNumV; rw [hg]; simp [h2, hg2, h3]]
        exact refGetNum_err2 bv l w hl hb N a hN0 hN ha0 ha n u e2 hg (by omega) hg2 h3
  · rw [show getNumV l N a = (0, 0, e1) by unfold getNumV; rw [hg]; simp [h1]]
    exact refGetNum_err bv l w hl hb N a hN0 hN ha0 ha n e1 hg h1
end
end Go.Proofs.Ytcnfhabljogniaa
