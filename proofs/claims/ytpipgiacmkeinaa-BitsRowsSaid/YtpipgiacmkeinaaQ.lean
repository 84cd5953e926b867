/- gaugeref01.Made; the walk of BitsBack. -/
import Derived.Test.YtpipgiacmkeinaaO
namespace Go.Proofs.Ytpipgiacmkeinaa
open Go.RowKit

/-- the first i bits of bytes -/
def madeTo (l : List UInt8) : Nat → List UInt8
  | 0 => []
  | i + 1 => pushBit (madeTo l i) i (decide (bitAt l i = 1))
theorem madeTo_Rt (l : List UInt8) (i : Nat) : Rt (madeTo l i) i := by
  induction i with
  | zero => exact ⟨rfl, fun i _ h => by simp [madeTo] at h⟩
  | succ i ih => exact (ih.push _).1
def madeN (l : List UInt8) (k : Int) : Nat := if k < 0 then 0 else if 8 * l.length < k.toNat then 8 * l.length else k.toNat

set_option maxRecDepth 100000 in
set_option maxHeartbeats 2000000 in
theorem made_any (v : Value) (l : List UInt8) (k : Int) (w : World) (hl : l.length ≤ 150000000000000) (hb : Sl w 1 v l.length (bc l)) :
    Calls Try.prog 27 #[v, .int .i64 k] w fun e w' => ∃ L m ao c, Rt L m ∧ m ≤ 8 * l.length ∧ e = .returned (.agg #[.slice ao L.length c, .int .i64 (m : Nat)]) ∧ Below w.heap.size w w' ∧ w'.ownsRow w.heap.size 5 1 (.slice ao L.length c) L.length (bc L) := by
  obtain ⟨ao, c, rfl, _, _, _⟩ := hb.shape
  have Hb := hid hb; clear hb
  have hmn : madeN l k ≤ 8 * l.length := by unfold madeN; split; omega; split <;> omega
  have h1 : min (max k 0) (8 * (l.length : Int)) = (madeN l k : Nat) := by unfold madeN; split; omega; split <;> omega
  generalize madeN l k = m at *
  go_enter Try.func27, Try.ntmps27
  go_wp2
  clear h1
  go_loopw [5, 6] (fun out i wr => ∃ j ao2 c2, j ≤ m ∧ i = .int .i64 (j : Nat) ∧ out = .slice ao2 (madeTo l j).length c2 ∧ w.heap.size + 1 ≤ wr.heap.size ∧ Below (w.heap.size + 1) (w.alloc (.cells #[.slice none 0 0, .int .i64 0] 24)) wr ∧
      wr.ownsRow (w.heap.size + 1) 5 1 (.slice ao2 (madeTo l j).length c2) (madeTo l j).length (bc (madeTo l j)))
    (fun _ i _ => m - (intOf i).toNat)
  case atStart => exact ⟨0, none, 0, Nat.zero_le _, rfl, rfl, by simp, Below.refl _ _, World.ownsRow_nil _ _ _ _⟩
  case round =>
    obtain ⟨j, ao2, c2, hj, rfl, rfl, hsz, hbel, hown⟩ := hrel
    have O := hid hown; have L := hid hbel
    have B0 := hid (blk_below (blk_new w (.cells #[.slice none 0 0, .int .i64 0] 24) _ rfl) hbel (by omega))
    obtain ⟨b0, b1, b2, b3, b4⟩ := blk2 B0.out
    clear hown hbel
    by_cases hlt : j < m
    · have hRj := madeTo_Rt l j
      have hst := hid (show madeTo l (j + 1) = pushBit (madeTo l j) j (decide (bitAt l j = 1)) from rfl)
      have hbt := bitAt_lt l j
      have hBt := hid (fun (wx : World) (hx : Sl wx 1 (.slice ao l.length c) l.length (bc l)) => refBit_any (.slice ao l.length c) l 0 j wx (by omega) (by omega) hx)
      have hpt := hid (fun (wx : World) (hx : World.ownsRow wx (w.heap.size + 1) 5 1 (.slice ao2 (madeTo l j).length c2) (madeTo l j).length (bc (madeTo l j))) (hs : w.heap.size + 1 ≤ wx.heap.size) => refput_any (.slice ao2 (madeTo l j).length c2) (madeTo l j) j (bitAt l j) (w.heap.size + 1) wx hbt hRj (by omega) hx hs)
      clear hRj
      generalize madeTo l j = lj at *
      generalize bitAt l j = d at *
      go_wp2_with fail
      refine (hBt.out wr (Hb.out.below ((((Below.refl _ _).alloc (Nat.le_refl _) _).trans (L.out.mono (by omega)))) (fun _ _ h => h))).mono ?_
      rintro e w2 ⟨rfl, hb2⟩
      have L2 := hid hb2; have s2 := hb2.size
      have O2 := hid (own_below O.out hb2 (Nat.le_refl _))
      clear hb2
      go_wp2_with fail
      refine (hpt.out w2 O2.out (by omega)).mono ?_
      rintro e w3 ⟨ao3, c3, rfl, hb3, hs3, hg3, ho3⟩
      have L3 := hid (hb3 _ (L.out.trans (L2.out.mono hsz)))
      have O3 := hid ho3
      clear hb3 hg3 ho3
      rw [← hst.out] at O3 ⊢
      go_wp2
      go_roundw
      case rel => exact ⟨j + 1, ao3, c3, by omega, by go_num, rfl, hs3, L3.out, O3.out⟩
      case measure => simp [intOf]; omega
    · obtain rfl : j = m := by omega
      have hR := hid (madeTo_Rt l j)
      generalize madeTo l j = lj at *
      go_wp2
      refine bodyPost_ret (v := .agg #[.slice ao2 lj.length c2, .int .i64 (j : Nat)]) (by simp [results, Try.results27, go_sem, b0, b1, b2, b3, b4]) rfl ⟨lj, j, ao2, c2, hR.out, hmn, rfl, ?_, ?_⟩
      · exact ((((Below.refl _ _).alloc (Nat.le_refl _) _).trans (L.out.mono (by omega))).setCell (by simp) _).setCell (by simp) _
      · have hne := own_ne_lt O.out (show w.heap.size < w.heap.size + 1 by omega)
        exact own_setOther (own_setOther (own_base O.out (by omega)) _ _ hne) _ _ hne

/-! ### What is put is got -/
theorem bitLen_lt (u : Nat) (hu : u < 18446744073709551616) : u < 2 ^ Lib.bitLen u := by
  have h : ∀ f x, x < 2 ^ f → x < 2 ^ Lib.bitLenAux f x := by
    intro f
    induction f with
    | zero => intro x hx; simpa [Lib.bitLenAux] using hx
    | succ f ih =>
      intro x hx
      unfold Lib.bitLenAux
      split
      · rename_i h0; rw [h0]; decide
      · have := ih (x / 2) (by rw [Nat.pow_succ] at hx; omega)
        rw [Nat.add_comm, Nat.pow_succ]; omega
  exact h 64 u hu
theorem half_step (u d : Nat) : 2 * (u / 2 ^ (d + 1)) + u / 2 ^ d % 2 = u / 2 ^ d := by
  rw [Nat.pow_succ, ← Nat.div_div_eq_div_mul]; omega
/-- n bits of a number, read -/
theorem getN_of_bits (L : List UInt8) (a n u : Nat) (hu : u < 2 ^ n) (h : ∀ j, j < n → bitAt L (a + j) = u / 2 ^ (n - 1 - j) % 2) : getN L a n = u := by
  have hk : ∀ k, k ≤ n → getN L a k = u / 2 ^ (n - k) := by
    intro k
    induction k with
    | zero => intro _; rw [Nat.sub_zero, Nat.div_eq_of_lt hu]; rfl
    | succ k ih =>
      intro hk
      rw [getN, ih (by omega), h k (by omega), show n - k = (n - 1 - k) + 1 by omega, half_step, show n - (k + 1) = n - 1 - k by omega]
  have := hk n (Nat.le_refl _)
  simpa using this
/-- what was read, bit by bit -/
theorem getN_bit (L : List UInt8) (a n j : Nat) (hj : j < n) : bitAt L (a + j) = getN L a n / 2 ^ (n - 1 - j) % 2 := by
  induction n with
  | zero => omega
  | succ n ih =>
    have hb := bitAt_lt L (a + n)
    rw [getN]
    by_cases h : j = n
    · subst h
      rw [show j + 1 - 1 - j = 0 by omega, Nat.pow_zero, Nat.div_one]; omega
    · rw [ih (by omega), show n + 1 - 1 - j = (n - 1 - j) + 1 by omega, Nat.pow_succ, Nat.mul_comm (2 ^ _) 2, ← Nat.div_div_eq_div_mul, show (2 * getN L a n + bitAt L (a + n)) / 2 = getN L a n by omega]
theorem getN_one (L : List UInt8) (a : Nat) : getN L a 1 = bitAt L a := by rw [getN, getN]; simp
theorem getN_putN {L : List UInt8} {m : Nat} (h : Rt L m) (u n : Nat) (hu : u < 2 ^ n) : getN (putN L m u n) m n = u :=
  getN_of_bits _ _ _ _ hu (fun j hj => (h.putTo u n n).2.2 j hj)
theorem bitAt_putN {L : List UInt8} {m : Nat} (h : Rt L m) (u n j : Nat) (hj : j < m) : bitAt (putN L m u n) j = bitAt L j := (h.putTo u n n).2.1 j hj
theorem getV_in {L : List UInt8} {N : Nat} (h : Rt L N) (a n : Nat) (hn : n ≤ 64) (ha : a + n ≤ N) : getV L N a n = (getN L a n, 0) := by
  unfold getV
  rw [if_neg (by rw [Rt_rightB h]; simp; omega), if_neg (by omega)]
  simp

set_option maxRecDepth 100000 in
set_option maxHeartbeats 4000000 in
theorem walk_BitsBack (w : World) (v : Value) (l : List UInt8) (hb : Sl w 1 v l.length (bc l)) (hl : l.length ≤ 140737488351232) (k : Int) (hk0 : -9223372036854775808 ≤ k) (hk : k ≤ 9223372036854775807)
    (u : Int) (hu0 : 0 ≤ u) (hu : u ≤ 18446744073709551615) (n : Int) (hn0 : -9223372036854775808 ≤ n) (hn : n ≤ 9223372036854775807) :
    Calls Try.prog 8 #[v, .int .i64 k, .int .u64 u, .int .i64 n] w fun e w' => e = .returned (.bool true) ∧ Below w.heap.size w w' := by
  obtain ⟨u, rfl⟩ := Int.eq_ofNat_of_zero_le hu0
  have hu' : u < 18446744073709551616 := by omega
  have HM := hid (made_any v l k w (by omega) hb)
  clear hb
  go_enter Try.func8, Try.ntmps8
  go_wp2_with fail
  refine HM.out.mono ?_
  rintro e w1 ⟨L, m, ao, c, hRt, hm, rfl, hb1, hown1⟩
  have L1 := hid hb1; have O1 := hid hown1; have s1 := hb1.size
  have hLl := hRt.1
  have hR := Rt_rightB hRt
  have HRt := hid hRt
  clear hb1 hown1 hRt
  have hP := fun va wx (hx : Sl wx 1 va L.length (bc L)) => put_any va L m u n wx (by omega) (by omega) hu' hn0 hn (by omega) hx
  by_cases hbad : n < 0 ∨ 64 < n ∨ n < (Lib.bitLen u : Int)
  · obtain ⟨er, her, e1⟩ : ∃ er : Int, er ≠ 0 ∧ putV L m u n = ([], 0, er) := by
      unfold putV
      by_cases h1 : rightB L m = false ∨ n < 0 ∨ 64 < n
      · exact ⟨2, by decide, by rw [if_pos h1]⟩
      · rw [if_neg h1]
        by_cases h2 : n < (Lib.bitLen u : Int)
        · exact ⟨3, by decide, by rw [if_pos h2]⟩
        · exfalso
          simp only [hR] at h1
          simp at h1
          omega
    rw [e1] at hP
    have HP := hid hP
    have hd : (er != 0) = true := by simpa using her
    clear hP e1 hR hLl her hbad hm
    go_wp2_with fail
    refine (HP.out _ _ ((Sl.own O1.out).alloc _)).mono ?_
    rintro e w2 ⟨ao2, c2, rfl, hb2, hown2⟩
    obtain ⟨y0, y1, y2⟩ := one_box hb2
    have L2 := hid y1
    have s2 := L2.out.size
    clear y0 y1 hb2 hown2
    go_wp2_with fail
    refine (lives_any _).mono ?_
    rintro e w3 ⟨rfl, hb3⟩
    obtain ⟨z0, z1, z2⟩ := one_box hb3
    have L3 := hid z1; clear z0 z1 hb3
    go_wp2
    go_ret
    exact ⟨rfl, (L1.out.trans (L2.out.mono s1)).trans (L3.out.mono (by omega))⟩
  · obtain ⟨n, rfl⟩ := Int.eq_ofNat_of_zero_le (show 0 ≤ n by omega)
    have hn64 : n ≤ 64 := by omega
    have hbl : Lib.bitLen u ≤ n := by omega
    have e1 : putV L m u n = (putN L m u n, (m : Int) + n, 0) := by
      unfold putV
      rw [if_neg (by simp [hR]; omega), if_neg (by omega)]
      simp
    rw [e1] at hP
    have hun : u < 2 ^ n := Nat.lt_of_lt_of_le (bitLen_lt u hu') (Nat.pow_le_pow_right (by decide) hbl)
    have hRy : Rt (putN L m u n) (m + n) := HRt.out.putN u n
    have hbits : ∀ j, j < m → bitAt (putN L m u n) j = bitAt L j := fun j hj => bitAt_putN HRt.out u n j hj
    have hgot : getN (putN L m u n) m n = u := getN_putN HRt.out u n hun
    have hyl := hRy.1
    generalize putN L m u n = Y at *
    have e2 : ((m + n : Nat) : Int) = (m : Int) + n := by omega
    have hG := fun va wx (hx : Sl wx 1 va Y.length (bc Y)) => get_any va Y ((m : Int) + n) m n wx (by omega) (by omega) (by omega) (by omega) (by omega) hx
    have eG : getV Y ((m : Int) + n) m n = (u, 0) := by rw [← e2, getV_in hRy m n hn64 (by omega), hgot]
    rw [eG] at hG
    have hRr := fun va wx (hx : Sl wx 1 va Y.length (bc Y)) => right_any va Y ((m : Int) + n) wx (by omega) (by omega) (by omega) hx
    have eR : rightB Y ((m : Int) + n) = true := by rw [← e2]; exact Rt_rightB hRy
    rw [eR] at hRr
    have HP := hid hP; have HG := hid hG; have HR := hid hRr
    have HB := hid hbits; have HRy := hid hRy
    have hL8 : L.length ≤ 150000000000000 := by omega
    have hY8 : Y.length ≤ 150000000000000 := by omega
    clear hP hG hRr hbits hRy eG eR e1 e2 hgot hR hbad hyl hun hbl hLl
    go_wp2_with fail
    refine (HP.out _ _ ((Sl.own O1.out).alloc _)).mono ?_
    rintro e w2 ⟨ao2, c2, rfl, hb2, hown2⟩
    obtain ⟨y0, y1, y2⟩ := one_box hb2
    have L2 := hid y1
    have s2 := L2.out.size
    have X2 := hid y0
    have O2 := hid hown2
    obtain ⟨a0, a1, _, _, _⟩ := blk2 y0
    clear y0 y1 hb2 hown2
    go_wp2_with fail
    refine (HG.out _ _ ((Sl.own O2.out).alloc _)).mono ?_
    rintro e w3 ⟨rfl, hb3⟩
    obtain ⟨z0, z1, z2⟩ := one_box hb3
    have L3 := hid z1; have s3 := z1.size
    have X3 := hid (blk_below X2.out z1 y2)
    have Y3 := hid z0
    obtain ⟨a0, a1, _, _, _⟩ := blk2 X3.out
    obtain ⟨b0, b1, _, _, _⟩ := blk2 Y3.out
    clear z0 z1 hb3
    go_wp2_with fail
    refine (HR.out _ w3 ((Sl.own O2.out).below L3.out (fun _ _ h => h))).mono ?_
    rintro e w4 ⟨rfl, hb4⟩
    have L4 := hid hb4; have s4 := hb4.size
    have X4 := hid (blk_below X3.out hb4 (by omega))
    have Y4 := hid (blk_below Y3.out hb4 (by omega))
    have xS := hid (((Sl.own O1.out).below L2.out (fun _ _ h => h)).below (L3.out.trans (L4.out.mono s3)) (fun _ _ h => h))
    have yS := hid ((Sl.own O2.out).below (L3.out.trans (L4.out.mono s3)) (fun _ _ h => h))
    have D4 := hid (((L1.out.trans (L2.out.mono s1)).trans (L3.out.mono (by omega))).trans (L4.out.mono (by omega)))
    clear a0 a1 b0 b1 hb4
    go_wp2_with fail
    go_loopw [14, 15, 16, 17, 18] (fun i _ _ _ _ wr => ∃ j : Nat, j ≤ m ∧ i = .int .i64 (j : Nat) ∧ Below w4.heap.size w4 wr)
      (fun i _ _ _ _ _ => m - (intOf i).toNat)
    case atStart => exact ⟨0, Nat.zero_le _, rfl, Below.refl _ _⟩
    case round =>
      obtain ⟨j, hj, rfl, hbel⟩ := hrel
      have Lr := hid hbel
      have sr := hbel.size
      have X5 := hid (blk_below X4.out hbel (by omega))
      have Y5 := hid (blk_below Y4.out hbel (by omega))
      obtain ⟨a0, a1, _, _, _⟩ := blk2 X5.out
      obtain ⟨b0, b1, _, _, _⟩ := blk2 Y5.out
      clear hbel
      by_cases hlt : j < m
      · have e1 : getV L m j 1 = (bitAt L j, 0) := by
          have := getV_in HRt.out j 1 (by omega) (by omega)
          rw [getN_one] at this
          exact this
        have e2 : getV Y ((m : Int) + n) j 1 = (bitAt L j, 0) := by
          have := getV_in HRy.out j 1 (by omega) (by omega)
          rw [getN_one, HB.out j hlt, show ((m + n : Nat) : Int) = (m : Int) + n by omega] at this
          exact this
        have hg1 := get_any (.slice ao L.length c) L m j 1 wr (by omega) (by omega) (by omega) (by omega) (by omega) (xS.out.below Lr.out (fun _ _ h => h))
        have hg2 := fun wx (hx : Sl wx 1 (.slice ao2 Y.length c2) Y.length (bc Y)) => get_any (.slice ao2 Y.length c2) Y ((m : Int) + n) j 1 wx (by omega) (by omega) (by omega) (by omega) (by omega) hx
        rw [e1] at hg1
        rw [e2] at hg2
        have G1 := hid hg1; have G2 := hid hg2
        clear hg1 hg2 e1 e2
        generalize bitAt L j = d at *
        go_wp2_with fail
        refine G1.out.mono ?_
        rintro e w6 ⟨rfl, hb6⟩
        have L6 := hid hb6; have s6 := hb6.size
        have X6 := hid (blk_below X5.out hb6 (by omega))
        have Y6 := hid (blk_below Y5.out hb6 (by omega))
        clear a0 a1 b0 b1
        obtain ⟨a0, a1, _, _, _⟩ := blk2 X6.out
        obtain ⟨b0, b1, _, _, _⟩ := blk2 Y6.out
        clear hb6
        go_wp2_with fail
        refine (G2.out w6 (yS.out.below (Lr.out.trans (L6.out.mono sr)) (fun _ _ h => h))).mono ?_
        rintro e w7 ⟨rfl, hb7⟩
        have L7 := hid hb7; have s7 := hb7.size
        clear hb7
        go_wp2
        go_roundw
        case rel => exact ⟨j + 1, by omega, by go_num, (Lr.out.trans (L6.out.mono sr)).trans (L7.out.mono (by omega))⟩
        case measure => simp [intOf]; omega
      · go_wp2_with fail
        refine (lives_any wr).mono ?_
        rintro e w8 ⟨rfl, hb8⟩
        have L8 := hid hb8; clear hb8
        go_wp2
        go_ret
        exact ⟨rfl, (D4.out.trans (Lr.out.mono (by omega))).trans (L8.out.mono (by omega))⟩
end Go.Proofs.Ytpipgiacmkeinaa
