/- fixed.Scale, of small numbers from 0 on. -/
import Derived.Test.YtebjdiiogihcdaaWc
namespace Go.Proofs.Ytebjdiiogihcdaa
open Go.RowKit
set_option linter.unusedSimpArgs false

set_option maxRecDepth 100000 in
set_option maxHeartbeats 1000000 in
theorem sign_pos (p q r : Nat) (n a b c : Int) (ha : 0 ≤ a) (hb : 0 ≤ b) (hc : 0 ≤ c) (w : World) (hp : w.heap[p]? = some (.cells #[.int .i64 a] 3 (0, 0))) (hq : w.heap[q]? = some (.cells #[.int .i64 b] 3 (0, 0))) (hr : w.heap[r]? = some (.cells #[.int .i64 c] 3 (0, 0))) :
    Calls Try.prog 58 #[.int .i64 n, .pointer (some ⟨p, 0, none⟩), .pointer (some ⟨q, 0, none⟩), .pointer (some ⟨r, 0, none⟩)] w fun e w' => e = .returned (.int .i64 n) ∧ w' = w := by
  obtain ⟨p0, _, _⟩ := blk1 hp
  obtain ⟨q0, _, _⟩ := blk1 hq
  obtain ⟨r0, _, _⟩ := blk1 hr
  have d1 : decide (a < 0) = false := decide_eq_false (by omega)
  have d2 : decide (b < 0) = false := decide_eq_false (by omega)
  have d3 : decide (c < 0) = false := decide_eq_false (by omega)
  clear hp hq hr
  go_enter Try.func58, Try.ntmps58
  go_wp2
  go_ret
  exact ⟨rfl, rfl⟩

set_option maxRecDepth 100000 in
set_option maxHeartbeats 2000000 in
theorem scaled_pos (a b c : Nat) (ha : a ≤ 1152921504606846976) (hb : b ≤ 1152921504606846976) (hc0 : 1 ≤ c) (hc : c ≤ 1152921504606846976) (hab : a * b < 18446744073709551616) (hq : a * b / c ≤ 1152921504606846976) (w : World) :
    Calls Try.prog 50 #[.int .i64 (a : Int), .int .i64 (b : Int), .int .i64 (c : Int)] w fun e w' => e = two (((a * b / c : Nat) : Int), 0) ∧ Below w.heap.size w w' := by
  have hmf : ∀ (fn : Fn) (first cap : Array Value) (w : World), (Instr.makeFunc fn first cap).run Try.prog w = .ok (.func fn first cap) w := fun _ _ _ _ => rfl
  have SA := hid (fun wx => size_any (a : Int) (by omega) (by omega) wx)
  have SB := hid (fun wx => size_any (b : Int) (by omega) (by omega) wx)
  have SC := hid (fun wx => size_any (c : Int) (by omega) (by omega) wx)
  simp only [Int.natAbs_natCast] at SA SB SC
  have HM := hid (fun wx => mul64_any a b (by omega) (by omega) wx)
  rw [Nat.div_eq_of_lt hab, Nat.mod_eq_of_lt hab] at HM
  have HD := hid (fun wx => div64_low (a * b) c hab hc0 (by omega) wx)
  generalize a * b / c = q at *
  generalize a * b % c = rm at *
  generalize a * b = m at *
  have B0 := hid (blk_alloc (blk_alloc (blk_new w (.cells #[.int .i64 (a : Int)] 3) _ rfl) (.cells #[.int .i64 (b : Int)] 3)) (.cells #[.int .i64 (c : Int)] 3))
  have B1 := hid (blk_alloc (blk_new (w.alloc (.cells #[.int .i64 (a : Int)] 3)) (.cells #[.int .i64 (b : Int)] 3) (w.heap.size + 1) (by simp)) (.cells #[.int .i64 (c : Int)] 3))
  have B2 := hid (blk_new ((w.alloc (.cells #[.int .i64 (a : Int)] 3)).alloc (.cells #[.int .i64 (b : Int)] 3)) (.cells #[.int .i64 (c : Int)] 3) (w.heap.size + 1 + 1) (by simp))
  have L0 := hid ((((Below.refl w.heap.size w).alloc (Nat.le_refl _) (.cells #[.int .i64 (a : Int)] 3)).alloc (by simp) (.cells #[.int .i64 (b : Int)] 3)).alloc (by simp; omega) (.cells #[.int .i64 (c : Int)] 3))
  have d1 : decide ((c : Int) ≤ 0) = false := decide_eq_false (by omega)
  have d2 : decide (1152921504606846976 < (q : Int)) = false := decide_eq_false (by omega)
  have kq : IntKind.i64.wrap (q : Int) = (q : Int) := IntWalk.i64_in _ (by omega)
  have c0 : ¬ c = 0 := by omega
  go_enter Try.func50, Try.ntmps50
  go_wp2
  generalize ((w.alloc (.cells #[.int .i64 (a : Int)] 3)).alloc (.cells #[.int .i64 (b : Int)] 3)).alloc (.cells #[.int .i64 (c : Int)] 3) = w1 at *
  obtain ⟨x0, x1, x2⟩ := blk1 B0.out
  obtain ⟨y0, y1, y2⟩ := blk1 B1.out
  obtain ⟨z0, z1, z2⟩ := blk1 B2.out
  go_quiet (first
    | (go_at_call 59; exact Calls.quiet_of_same (HM.out _))
    | (go_at_call 60; first | exact Calls.quiet_of_same (SA.out _) | exact Calls.quiet_of_same (SB.out _)))
  rename_i nq
  have L2 := hid (Below_drewN L0.out nq)
  have C0 := hid (show (w1.drewN nq).heap[w.heap.size]? = _ from B0.out)
  have C1 := hid (show (w1.drewN nq).heap[w.heap.size + 1]? = _ from B1.out)
  have C2 := hid (show (w1.drewN nq).heap[w.heap.size + 1 + 1]? = _ from B2.out)
  clear x0 x1 x2 y0 y1 y2 z0 z1 z2
  generalize w1.drewN nq = w2 at *
  obtain ⟨z0, z1, z2⟩ := blk1 C2.out
  go_wp2_with fail
  refine (SC.out w2).mono ?_
  rintro e wz ⟨rfl, hwz⟩
  subst wz
  go_wp2_with fail
  refine (SC.out w2).mono ?_
  rintro e wz ⟨rfl, hwz⟩
  subst wz
  go_wp2_with fail
  refine (HD.out w2).mono ?_
  rintro e w3 ⟨rfl, hb3⟩
  have L3 := hid (L2.out.trans (hb3.mono L2.out.size))
  have D0 := hid (blk_below C0.out hb3 (lt_of_blk C0.out))
  have D1 := hid (blk_below C1.out hb3 (lt_of_blk C1.out))
  have D2 := hid (blk_below C2.out hb3 (lt_of_blk C2.out))
  clear hb3 z0 z1 z2
  go_wp2_with fail
  refine (sign_pos w.heap.size (w.heap.size + 1) (w.heap.size + 1 + 1) (q : Int) (a : Int) (b : Int) (c : Int) (by omega) (by omega) (by omega) w3 D0.out D1.out D2.out).mono ?_
  rintro e wz ⟨rfl, hwz⟩
  subst wz
  go_wp2
  go_ret2
  exact ⟨rfl, L3.out⟩

set_option maxRecDepth 100000 in
set_option maxHeartbeats 2000000 in
theorem scale_pos (a b c : Nat) (ha : a ≤ 1152921504606846976) (hb : b ≤ 1152921504606846976) (hc0 : 1 ≤ c) (hc : c ≤ 1152921504606846976) (hab : a * b < 18446744073709551616) (hq : a * b / c ≤ 1152921504606846976) (w : World) :
    Calls Try.prog 36 #[.int .i64 (a : Int), .int .i64 (b : Int), .int .i64 (c : Int)] w fun e w' => e = two (((a * b / c : Nat) : Int), 0) ∧ Below w.heap.size w w' := by
  have HA := hid (fits_any (a : Int) w); have HB := hid (fits_any (b : Int) w)
  rw [fitB_iff.2 (⟨by omega, by omega⟩ : -1152921504606846976 ≤ (a : Int) ∧ (a : Int) ≤ 1152921504606846976)] at HA
  rw [fitB_iff.2 (⟨by omega, by omega⟩ : -1152921504606846976 ≤ (b : Int) ∧ (b : Int) ≤ 1152921504606846976)] at HB
  have HS := hid (scaled_pos a b c ha hb hc0 hc hab hq w)
  generalize a * b / c = q at *
  clear hab
  have d1 : decide ((c : Int) < 1) = false := decide_eq_false (by omega)
  have d2 : decide (1152921504606846976 < (c : Int)) = false := decide_eq_false (by omega)
  have d1' : decide (c < 1) = false := decide_eq_false (by omega)
  go_enter Try.func36, Try.ntmps36
  go_wp2_with fail
  refine HA.out.mono ?_
  rintro e wz ⟨rfl, hwz⟩
  subst wz
  go_wp2_with fail
  refine HB.out.mono ?_
  rintro e wz ⟨rfl, hwz⟩
  subst wz
  go_wp2_with fail
  refine HS.out.mono ?_
  rintro e w3 ⟨rfl, hb3⟩
  have L3 := hid hb3
  clear hb3
  unfold two
  go_wp2
  go_ret2
  exact ⟨rfl, L3.out⟩
end Go.Proofs.Ytebjdiiogihcdaa
