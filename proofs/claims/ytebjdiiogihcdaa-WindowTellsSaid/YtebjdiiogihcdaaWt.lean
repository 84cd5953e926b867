/- fixed.Scale, of any number, times a number from 0 on. -/
import Derived.Test.YtebjdiiogihcdaaWs
namespace Go.Proofs.Ytebjdiiogihcdaa
open Go.RowKit
set_option linter.unusedSimpArgs false

set_option maxRecDepth 100000 in
set_option maxHeartbeats 1000000 in
theorem sign_any (p q r : Nat) (n a b c : Int) (hn0 : 0 ≤ n) (hn1 : n ≤ 1152921504606846976) (hb : 0 ≤ b) (hc : 0 ≤ c) (w : World) (hp : w.heap[p]? = some (.cells #[.int .i64 a] 3 (0, 0))) (hq : w.heap[q]? = some (.cells #[.int .i64 b] 3 (0, 0))) (hr : w.heap[r]? = some (.cells #[.int .i64 c] 3 (0, 0))) :
    Calls Try.prog 58 #[.int .i64 n, .pointer (some ⟨p, 0, none⟩), .pointer (some ⟨q, 0, none⟩), .pointer (some ⟨r, 0, none⟩)] w fun e w' => e = .returned (.int .i64 (if a < 0 then -n else n)) ∧ w' = w := by
  obtain ⟨p0, _, _⟩ := blk1 hp
  obtain ⟨q0, _, _⟩ := blk1 hq
  obtain ⟨r0, _, _⟩ := blk1 hr
  have d2 : decide (b < 0) = false := decide_eq_false (by omega)
  have d3 : decide (c < 0) = false := decide_eq_false (by omega)
  have kn : IntKind.i64.wrap (-n) = -n := IntWalk.i64_in _ (by omega)
  clear hp hq hr
  rcases Bool.eq_false_or_eq_true (decide (a < 0)) with d1 | d1
  · rw [if_pos (of_decide_eq_true d1)]
    go_enter Try.func58, Try.ntmps58
    go_wp2
    go_ret
    exact ⟨rfl, rfl⟩
  · rw [if_neg (of_decide_eq_false d1)]
    go_enter Try.func58, Try.ntmps58
    go_wp2
    go_ret
    exact ⟨rfl, rfl⟩

/-- a by b, by c, towards 0 -/
def scaV (a : Int) (b c : Nat) : Int × Int := if 1152921504606846976 < a.natAbs * b / c then (0, 11) else ((if a < 0 then -((a.natAbs * b / c : Nat) : Int) else ((a.natAbs * b / c : Nat) : Int)), 0)

theorem div64_any (hi lo y : Nat) (hlo : lo < 18446744073709551616) (hy : hi < y) (hy2 : hi = 0 ∨ y < 4294967296) (hy3 : y < 18446744073709551616) (w : World) :
    Calls Try.prog 61 #[.int .u64 hi, .int .u64 lo, .int .u64 y] w fun e w' => (∃ r : Int, e = .returned (.tuple #[.int .u64 (((hi * 18446744073709551616 + lo) / y : Nat) : Int), .int .u64 r])) ∧ Below w.heap.size w w' := by
  by_cases h0 : hi = 0
  · subst h0
    refine (div64_low lo y hlo hy hy3 w).mono ?_
    rintro e w' ⟨rfl, hb⟩
    rw [Nat.zero_mul, Nat.zero_add]
    exact ⟨⟨_, rfl⟩, hb⟩
  · exact div64_small hi lo y h0 hlo hy (by rcases hy2 with h | h; exact absurd h h0; exact h) w

set_option maxRecDepth 100000 in
set_option maxHeartbeats 2000000 in
theorem scaled_any (a : Int) (b c : Nat) (ha0 : -1152921504606846976 ≤ a) (ha1 : a ≤ 1152921504606846976) (hb : b ≤ 1152921504606846976) (hc0 : 1 ≤ c) (hc : c ≤ 1152921504606846976) (hbc : b ≤ 1 ∨ c < 4294967296) (w : World) :
    Calls Try.prog 50 #[.int .i64 a, .int .i64 (b : Int), .int .i64 (c : Int)] w fun e w' => e = two (scaV a b c) ∧ Below w.heap.size w w' := by
  have hmf : ∀ (fn : Fn) (first cap : Array Value) (w : World), (Instr.makeFunc fn first cap).run Try.prog w = .ok (.func fn first cap) w := fun _ _ _ _ => rfl
  have SA := hid (fun wx => size_any a (by omega) (by omega) wx)
  have SB := hid (fun wx => size_any (b : Int) (by omega) (by omega) wx)
  have SC := hid (fun wx => size_any (c : Int) (by omega) (by omega) wx)
  simp only [Int.natAbs_natCast] at SB SC
  have hna : a.natAbs ≤ 1152921504606846976 := by omega
  have hsv := hid (show scaV a b c = _ from rfl)
  unfold scaV at hsv ⊢
  obtain ⟨na, hnad⟩ : ∃ x, x = a.natAbs := ⟨_, rfl⟩
  rw [← hnad] at SA hna ⊢
  clear hsv hnad
  have HM := hid (fun wx => mul64_any na b (by omega) (by omega) wx)
  obtain ⟨m, hm⟩ : ∃ m, m = na * b := ⟨_, rfl⟩
  rw [← hm] at HM ⊢
  have hmb : b ≤ 1 → m < 18446744073709551616 := by
    intro h
    have : na * b ≤ na * 1 := Nat.mul_le_mul_left na h
    omega
  obtain ⟨hi, hhi⟩ : ∃ x, x = m / 18446744073709551616 := ⟨_, rfl⟩
  obtain ⟨lo, hlo⟩ : ∃ x, x = m % 18446744073709551616 := ⟨_, rfl⟩
  rw [← hhi, ← hlo] at HM
  have hml : m = hi * 18446744073709551616 + lo := by omega
  have hlo2 : lo < 18446744073709551616 := by omega
  have hor : hi = 0 ∨ c < 4294967296 := by
    rcases hbc with h | h
    · have := hmb h; exact .inl (by omega)
    · exact .inr h
  have B0 := hid (blk_alloc (blk_alloc (blk_new w (.cells #[.int .i64 a] 3) _ rfl) (.cells #[.int .i64 (b : Int)] 3)) (.cells #[.int .i64 (c : Int)] 3))
  have B1 := hid (blk_alloc (blk_new (w.alloc (.cells #[.int .i64 a] 3)) (.cells #[.int .i64 (b : Int)] 3) (w.heap.size + 1) (by simp)) (.cells #[.int .i64 (c : Int)] 3))
  have B2 := hid (blk_new ((w.alloc (.cells #[.int .i64 a] 3)).alloc (.cells #[.int .i64 (b : Int)] 3)) (.cells #[.int .i64 (c : Int)] 3) (w.heap.size + 1 + 1) (by simp))
  have L0 := hid ((((Below.refl w.heap.size w).alloc (Nat.le_refl _) (.cells #[.int .i64 a] 3)).alloc (by simp) (.cells #[.int .i64 (b : Int)] 3)).alloc (by simp; omega) (.cells #[.int .i64 (c : Int)] 3))
  clear hm hmb hbc
  by_cases hic : hi < c
  · have HD := hid (fun wx => div64_any hi lo c hlo2 hic hor (by omega) wx)
    rw [← hml] at HD
    obtain ⟨q, hq⟩ : ∃ q, q = m / c := ⟨_, rfl⟩
    rw [← hq] at HD ⊢
    have d1 : decide ((c : Int) ≤ (hi : Int)) = false := decide_eq_false (by omega)
    have d1' : decide (c ≤ hi) = false := decide_eq_false (by omega)
    obtain ⟨sg, hsg⟩ : ∃ sg : Int, sg = (if a < 0 then -(q : Int) else (q : Int)) := ⟨_, rfl⟩
    obtain ⟨res, hres⟩ : ∃ res : Int × Int, res = (if 1152921504606846976 < q then (0, 11) else (sg, 0)) := ⟨_, rfl⟩
    rw [← hsg, ← hres]
    have HSG := hid hsg; have HRES := hid hres
    clear hhi hlo hml hlo2 hor hq hic hna hsg hres
    unfold two
    go_enter Try.func50, Try.ntmps50
    go_wp2
    generalize ((w.alloc (.cells #[.int .i64 a] 3)).alloc (.cells #[.int .i64 (b : Int)] 3)).alloc (.cells #[.int .i64 (c : Int)] 3) = w1 at *
    obtain ⟨x0, x1, x2⟩ := blk1 B0.out
    obtain ⟨y0, y1, y2⟩ := blk1 B1.out
    obtain ⟨z0, z1, z2⟩ := blk1 B2.out
    go_quiet (first
      | (go_at_call 59; exact Calls.quiet_of_same (HM.out _))
      | (go_at_call 60; first | exact Calls.quiet_of_same (SA.out _) | exact Calls.quiet_of_same (SB.out _)))
    rename_i nq
    have L2 := hid (Below_drewN L0.out nq)
    have C0 := hid (show (w1.drewN nq).heap[w.heap.size]? = _ from B0.out)
    have C1 := hid (show (w1.drewN nq).heap[w.heap.size + 1]? = _ from B1.out)
    have C2 := hid (show (w1.drewN nq).heap[w.heap.size + 1 + 1]? = _ from B2.out)
    clear x0 x1 x2 y0 y1 y2 z0 z1 z2
    generalize w1.drewN nq = w2 at *
    obtain ⟨z0, z1, z2⟩ := blk1 C2.out
    go_wp2_with fail
    refine (SC.out w2).mono ?_
    rintro e wz ⟨rfl, hwz⟩
    subst wz
    go_wp2_with fail
    refine (SC.out w2).mono ?_
    rintro e wz ⟨rfl, hwz⟩
    subst wz
    go_wp2_with fail
    refine (HD.out w2).mono ?_
    rintro e w3 ⟨⟨r, rfl⟩, hb3⟩
    have L3 := hid (L2.out.trans (hb3.mono L2.out.size))
    have D0 := hid (blk_below C0.out hb3 (lt_of_blk C0.out))
    have D1 := hid (blk_below C1.out hb3 (lt_of_blk C1.out))
    have D2 := hid (blk_below C2.out hb3 (lt_of_blk C2.out))
    clear hb3 z0 z1 z2
    rcases Bool.eq_false_or_eq_true (decide (1152921504606846976 < q)) with d2 | d2
    · have d2' : decide (1152921504606846976 < (q : Int)) = true := decide_eq_true (by have := of_decide_eq_true d2; omega)
      have HQ := hid (of_decide_eq_true d2)
      go_wp2
      go_ret2
      exact ⟨by rw [HRES.out, if_pos HQ.out]; rfl, L3.out⟩
    · have d2' : decide (1152921504606846976 < (q : Int)) = false := decide_eq_false (by have := of_decide_eq_false d2; omega)
      have HQ := hid (of_decide_eq_false d2)
      have kq : IntKind.i64.wrap (q : Int) = (q : Int) := IntWalk.i64_in _ (by have := HQ.out; omega)
      go_wp2_with fail
      have hS := sign_any w.heap.size (w.heap.size + 1) (w.heap.size + 1 + 1) (q : Int) a (b : Int) (c : Int) (by omega) (by have := HQ.out; omega) (by omega) (by omega) w3 D0.out D1.out D2.out
      rw [← HSG.out] at hS
      refine hS.mono ?_
      rintro e wz ⟨rfl, hwz⟩
      subst wz
      clear hS
      go_wp2
      go_ret2
      exact ⟨by rw [HRES.out, if_neg HQ.out]; rfl, L3.out⟩
  · have hbig : 1152921504606846976 < m / c := by
      refine Nat.lt_of_lt_of_le (by decide : 1152921504606846976 < 18446744073709551616) ((Nat.le_div_iff_mul_le (by omega)).2 ?_)
      have : c * 18446744073709551616 ≤ hi * 18446744073709551616 := Nat.mul_le_mul_right _ (by omega)
      rw [Nat.mul_comm]; omega
    rw [if_pos hbig]
    have d1 : decide ((c : Int) ≤ (hi : Int)) = true := decide_eq_true (by omega)
    have d1' : decide (c ≤ hi) = true := decide_eq_true (by omega)
    clear hhi hlo hml hlo2 hor hic hna hbig
    unfold two
    go_enter Try.func50, Try.ntmps50
    go_wp2
    generalize ((w.alloc (.cells #[.int .i64 a] 3)).alloc (.cells #[.int .i64 (b : Int)] 3)).alloc (.cells #[.int .i64 (c : Int)] 3) = w1 at *
    obtain ⟨x0, x1, x2⟩ := blk1 B0.out
    obtain ⟨y0, y1, y2⟩ := blk1 B1.out
    obtain ⟨z0, z1, z2⟩ := blk1 B2.out
    go_quiet (first
      | (go_at_call 59; exact Calls.quiet_of_same (HM.out _))
      | (go_at_call 60; first | exact Calls.quiet_of_same (SA.out _) | exact Calls.quiet_of_same (SB.out _)))
    rename_i nq
    have L2 := hid (Below_drewN L0.out nq)
    have C2 := hid (show (w1.drewN nq).heap[w.heap.size + 1 + 1]? = _ from B2.out)
    clear x0 x1 x2 y0 y1 y2 z0 z1 z2
    generalize w1.drewN nq = w2 at *
    obtain ⟨z0, z1, z2⟩ := blk1 C2.out
    go_wp2_with fail
    refine (SC.out w2).mono ?_
    rintro e wz ⟨rfl, hwz⟩
    subst wz
    go_wp2
    go_ret2
    exact ⟨rfl, L2.out⟩

set_option maxRecDepth 100000 in
set_option maxHeartbeats 2000000 in
theorem scale_any (a : Int) (b c : Nat) (ha0 : -1152921504606846976 ≤ a) (ha1 : a ≤ 1152921504606846976) (hb : b ≤ 1152921504606846976) (hc0 : 1 ≤ c) (hc : c ≤ 1152921504606846976) (hbc : b ≤ 1 ∨ c < 4294967296) (w : World) :
    Calls Try.prog 36 #[.int .i64 a, .int .i64 (b : Int), .int .i64 (c : Int)] w fun e w' => e = two (scaV a b c) ∧ Below w.heap.size w w' := by
  have HA := hid (fits_any a w); have HB := hid (fits_any (b : Int) w)
  rw [fitB_iff.2 (⟨by omega, by omega⟩ : -1152921504606846976 ≤ a ∧ a ≤ 1152921504606846976)] at HA
  rw [fitB_iff.2 (⟨by omega, by omega⟩ : -1152921504606846976 ≤ (b : Int) ∧ (b : Int) ≤ 1152921504606846976)] at HB
  have HS := hid (scaled_any a b c ha0 ha1 hb hc0 hc hbc w)
  generalize scaV a b c = q at *
  have d1 : decide ((c : Int) < 1) = false := decide_eq_false (by omega)
  have d2 : decide (1152921504606846976 < (c : Int)) = false := decide_eq_false (by omega)
  have d1' : decide (c < 1) = false := decide_eq_false (by omega)
  clear hbc
  go_enter Try.func36, Try.ntmps36
  go_wp2_with fail
  refine HA.out.mono ?_
  rintro e wz ⟨rfl, hwz⟩
  subst wz
  go_wp2_with fail
  refine HB.out.mono ?_
  rintro e wz ⟨rfl, hwz⟩
  subst wz
  go_wp2_with fail
  refine HS.out.mono ?_
  rintro e w3 ⟨rfl, hb3⟩
  have L3 := hid hb3
  clear hb3
  unfold two
  go_wp2
  go_ret2
  exact ⟨rfl, L3.out⟩
end Go.Proofs.Ytebjdiiogihcdaa
