/- The walk of ChunkSmall. -/
import Derived.Test.YtcnfhabljogniaaCk
import Derived.Lib.BitFns
namespace Go.Proofs.Ytcnfhabljogniaa
open Go.RowKit
set_option linter.unusedSimpArgs false

/-- samples at one distance, of one value -/
def evenly (t d v : Int) (n : Nat) : List (Int × Int) := (List.range n).map fun i : Nat => (t + (i : Int) * d, v)
@[simp] theorem evenly_length (t d v : Int) (n : Nat) : (evenly t d v n).length = n := by simp [evenly]
theorem evenly_succ (t d v : Int) (n : Nat) : evenly t d v (n + 1) = evenly t d v n ++ [(t + (n : Int) * d, v)] := by simp [evenly, List.range_succ]
theorem evenly_get (t d v : Int) (n i : Nat) (h : i < n) : (evenly t d v n).getD i (0, 0) = (t + (i : Int) * d, v) := by simp [evenly, List.getD, h]

theorem chkA_evenly (t d v : Int) (hv : -1152921504606846976 ≤ v ∧ v ≤ 1152921504606846976) (hd : 1 ≤ d) (ht : 0 ≤ t) : ∀ (l : List (Int × Int)) (p : Option Int), (∀ k, k < l.length → mayB (l.getD k (0, 0)).1 (l.getD k (0, 0)).2 = true) →
    (∀ k, k + 1 < l.length → (l.getD k (0, 0)).1 < (l.getD (k + 1) (0, 0)).1) → (∀ q, p = some q → 0 < l.length → q < (l.getD 0 (0, 0)).1) → chkA p l = 0
  | [], _, _, _, _ => rfl
  | s :: r, p, h1, h2, h3 => by
    have hm := h1 0 (by simp)
    simp only [List.getD_cons_zero] at hm
    rw [chkA, if_neg (by rw [hm]; simp), if_neg (by
      rintro ⟨q, hq, hle⟩
      have := h3 q hq (by simp)
      simp only [List.getD_cons_zero] at this
      omega)]
    refine chkA_evenly t d v hv hd ht r _ (fun k hk => ?_) (fun k hk => ?_) (fun q hq hk => ?_)
    · have := h1 (k + 1) (by simp; omega); simpa using this
    · have := h2 (k + 1) (by simp; omega); simpa using this
    · have := h2 0 (by simp; omega)
      simp only [Option.some.injEq] at hq
      subst hq
      simpa using this

theorem chkL_evenly (t d v : Int) (n : Nat) (ht : 0 ≤ t) (ht1 : t ≤ 549755813888) (hd : 1 ≤ d) (hd1 : d ≤ 2147483648) (hv : -1152921504606846976 ≤ v ∧ v ≤ 1152921504606846976) (hn : 2 ≤ n) (hn1 : n ≤ 120) : chkL (evenly t d v n) = 0 := by
  unfold chkL
  rw [if_neg (by simp; omega)]
  refine chkA_evenly t d v hv hd ht _ _ (fun k hk => ?_) (fun k hk => ?_) (fun q hq => by cases hq)
  · simp only [evenly_length] at hk
    rw [evenly_get _ _ _ _ _ hk]
    have h0 : (0 : Int) ≤ (k : Int) * d := Int.mul_nonneg (by omega) (by omega)
    have h1 : (k : Int) * d ≤ 120 * 2147483648 := Int.mul_le_mul (by omega) hd1 (by omega) (by omega)
    exact mayB_iff.2 ⟨by simp only; omega, by simp only; omega, hv.1, hv.2⟩
  · simp only [evenly_length] at hk
    rw [evenly_get _ _ _ _ _ (by omega), evenly_get _ _ _ _ _ hk]
    have : ((k + 1 : Nat) : Int) * d = (k : Int) * d + d := by rw [Int.natCast_add, Int.add_mul]; simp
    simp only
    omega

theorem bitLen_of_lt {u k : Nat} (hk : k ≤ 64) (h : u < 2 ^ k) : Lib.bitLen u ≤ k := Lib.bitLen_le u k hk h
theorem pushAll_Rt (ns : List Nat) : ∀ x : List UInt8 × Nat, Rt x.1 x.2 → Rt (pushAll x ns).1 (pushAll x ns).2 := by
  induction ns with
  | nil => intro x h; exact h
  | cons a t ih => intro x h; exact ih _ (Rt_push h a)
theorem zigN_zero : zigN 0 = 0 := by decide
theorem far_evenly (t d v : Int) (n i : Nat) (h : i + 1 < n) : farAt (evenly t d v n) (i + 1) = d := by
  unfold farAt
  rw [Nat.add_sub_cancel, evenly_get _ _ _ _ _ h, evenly_get _ _ _ _ _ (by omega)]
  have : ((i + 1 : Nat) : Int) * d = (i : Int) * d + d := by rw [Int.natCast_add, Int.add_mul]; simp
  simp only
  omega
theorem bits_evenly (t d v : Int) (n : Nat) (ht : 0 ≤ t) (ht1 : t ≤ 549755813888) (hd : 1 ≤ d) (hd1 : d ≤ 2147483648) (hv : -1152921504606846976 ≤ v ∧ v ≤ 1152921504606846976) (hn : 2 ≤ n) (hn1 : n ≤ 120) :
    ∀ j, j + 1 < n → (encB (evenly t d v n) (j + 1)).2 ≤ 176 + 14 * j := by
  intro j
  induction j with
  | zero =>
    intro hj
    have h0 := evenly_get t d v n 0 (by omega)
    have h1 := evenly_get t d v n 1 (by omega)
    have e0 : (encB (evenly t d v n) 0).2 = 0 + 7 + Lib.bitLen n + 7 + Lib.bitLen t.toNat + 7 + Lib.bitLen (zigN v) := by
      unfold encB nums pushAll
      rw [h0, evenly_length]
      simp [pushNum]
    rw [encB_next, if_pos rfl, h1, h0]
    simp only [pushNum]
    rw [e0, Int.sub_self, zigN_zero, far_evenly t d v n 0 (by omega)]
    have b1 : Lib.bitLen n ≤ 7 := bitLen_of_lt (by decide) (by omega)
    have b2 : Lib.bitLen t.toNat ≤ 40 := bitLen_of_lt (by decide) (by omega)
    have b3 : Lib.bitLen (zigN v) ≤ 62 := bitLen_of_lt (by decide) (by unfold zigN zig; split <;> omega)
    have b4 : Lib.bitLen d.toNat ≤ 32 := bitLen_of_lt (by decide) (by omega)
    have b5 : Lib.bitLen 0 ≤ 0 := bitLen_of_lt (by decide) (by decide)
    omega
  | succ j ih =>
    intro hj
    have h := ih (by omega)
    rw [encB_next, if_neg (by omega), far_evenly t d v n (j + 1) (by omega), far_evenly t d v n j (by omega), evenly_get _ _ _ _ _ hj, evenly_get _ _ _ _ _ (by omega)]
    simp only [pushNum]
    rw [Int.sub_self, Int.sub_self, zigN_zero]
    have b5 : Lib.bitLen 0 ≤ 0 := bitLen_of_lt (by decide) (by decide)
    omega

set_option maxRecDepth 100000 in
set_option maxHeartbeats 2000000 in
theorem walk_ChunkSmall (w : World) (t : Int) (t0 : -9223372036854775808 ≤ t) (t1 : t ≤ 9223372036854775807) (d : Int) (d0 : -9223372036854775808 ≤ d) (d1 : d ≤ 9223372036854775807) (v : Int) (v0 : -9223372036854775808 ≤ v) (v1 : v ≤ 9223372036854775807) (n : Int) (_n0 : -9223372036854775808 ≤ n) (_n1 : n ≤ 9223372036854775807) :
    Calls Try.prog 6 #[.int .i64 t, .int .i64 d, .int .i64 v, .int .i64 n] w fun e w' => e = .returned (.bool true) ∧ Below w.heap.size w w' := by
  have HL := hid lives_any
  obtain ⟨x, hx⟩ : ∃ x, x = IntKind.u64.wrap n := ⟨_, rfl⟩
  have hx0 : 0 ≤ x ∧ x < 18446744073709551616 := by rw [hx, IntKind.wrap_u64]; omega
  have kx : IntKind.u64.wrap n = x := hx.symm
  clear hx
  rcases Bool.eq_false_or_eq_true (decide (t < 0)) with c1 | c1
  · go_enter Try.func6, Try.ntmps6
    go_wp2_with fail
    refine (HL.out _).mono ?_
    rintro e w1 ⟨rfl, hb1⟩
    have L := hid hb1; clear hb1
    go_wp2
    go_ret
    exact ⟨rfl, L.out⟩
  rcases Bool.eq_false_or_eq_true (decide (549755813888 < t)) with c2 | c2
  · go_enter Try.func6, Try.ntmps6
    go_wp2_with fail
    refine (HL.out _).mono ?_
    rintro e w1 ⟨rfl, hb1⟩
    have L := hid hb1; clear hb1
    go_wp2
    go_ret
    exact ⟨rfl, L.out⟩
  rcases Bool.eq_false_or_eq_true (decide (d < 1)) with c3 | c3
  · go_enter Try.func6, Try.ntmps6
    go_wp2_with fail
    refine (HL.out _).mono ?_
    rintro e w1 ⟨rfl, hb1⟩
    have L := hid hb1; clear hb1
    go_wp2
    go_ret
    exact ⟨rfl, L.out⟩
  rcases Bool.eq_false_or_eq_true (decide (2147483648 < d)) with c4 | c4
  · go_enter Try.func6, Try.ntmps6
    go_wp2_with fail
    refine (HL.out _).mono ?_
    rintro e w1 ⟨rfl, hb1⟩
    have L := hid hb1; clear hb1
    go_wp2
    go_ret
    exact ⟨rfl, L.out⟩
  rcases Bool.eq_false_or_eq_true (decide (v < -1152921504606846976)) with c5 | c5
  · go_enter Try.func6, Try.ntmps6
    go_wp2_with fail
    refine (HL.out _).mono ?_
    rintro e w1 ⟨rfl, hb1⟩
    have L := hid hb1; clear hb1
    go_wp2
    go_ret
    exact ⟨rfl, L.out⟩
  rcases Bool.eq_false_or_eq_true (decide (1152921504606846976 < v)) with c6 | c6
  · go_enter Try.func6, Try.ntmps6
    go_wp2_with fail
    refine (HL.out _).mono ?_
    rintro e w1 ⟨rfl, hb1⟩
    have L := hid hb1; clear hb1
    go_wp2
    go_ret
    exact ⟨rfl, L.out⟩
  have e1 := of_decide_eq_false c1; have e2 := of_decide_eq_false c2; have e3 := of_decide_eq_false c3
  have e4 := of_decide_eq_false c4; have e5 := of_decide_eq_false c5; have e6 := of_decide_eq_false c6
  obtain ⟨m, km0⟩ : ∃ m : Nat, 2 + x % 119 = (m : Int) := ⟨(2 + x % 119).toNat, by omega⟩
  have km : wrap64 (2 + wrap64 (x.tmod 119)) = (m : Int) := by
    rw [Int.tmod_eq_emod_of_nonneg hx0.1, IntWalk.wrap64_in (x % 119) ⟨by omega, by omega⟩, IntWalk.wrap64_in _ ⟨by omega, by omega⟩]; exact km0
  have hm : 2 ≤ m ∧ m ≤ 120 := by omega
  have HV := hid (chkL_evenly t d v m (by omega) (by omega) (by omega) (by omega) ⟨by omega, by omega⟩ hm.1 hm.2)
  have HB := hid (bits_evenly t d v m (by omega) (by omega) (by omega) (by omega) ⟨by omega, by omega⟩ hm.1 hm.2 (m - 2) (by omega))
  clear hx0 km0
  go_enter Try.func6, Try.ntmps6
  go_wp2
  go_loopw [9, 10] (fun lv i wr => ∃ k ao c, k ≤ m ∧ i = .int .i64 ((k : Nat) : Int) ∧ lv = .slice ao k c ∧ Below w.heap.size w wr ∧ wr.ownsRow w.heap.size 40 2 (.slice ao k c) k (sc (evenly t d v k)))
    (fun _ i _ => m - (intOf i).toNat)
  case atStart => exact ⟨0, none, 0, Nat.zero_le _, rfl, rfl, Below.refl _ _, World.ownsRow_nil _ _ _ _⟩
  case round =>
    obtain ⟨k, ao, c, hk, rfl, rfl, hbel, hown⟩ := hrel
    have L := hid hbel; have O := hid hown
    have sz := hbel.size
    clear hbel hown
    by_cases hlt : k < m
    · have i1 : (k : Int) < (m : Int) := by omega
      obtain ⟨y, hy⟩ : ∃ y, y = (k : Int) * d := ⟨_, rfl⟩
      have hy0 : (0 : Int) ≤ y := by rw [hy]; exact Int.mul_nonneg (by omega) (by omega)
      have hy1 : y ≤ 120 * 2147483648 := by rw [hy]; exact Int.mul_le_mul (by omega) (by omega) (by omega) (by omega)
      have kw1 : IntKind.i64.wrap ((k : Int) * d) = y := by rw [← hy]; exact IntWalk.i64_in _ (by omega)
      have kw2 : IntKind.i64.wrap (t + y) = t + y := IntWalk.i64_in _ (by omega)
      have HY := hid hy
      clear hy hy0 hy1
      go_wp2_with (at_builtin; refine wpList_appM rfl _ _ rfl w.heap.size (.slice ao k c) k (evenly t d v k) rfl O.out (t + y, v) _ rfl rfl (by omega) sz ?_; intro g5 c5 w5 hown5 hgrow5 hbel5 sz5; have L5 := hid (hbel5 w L.out); have O5 := hid hown5; clear hown5 hgrow5 hbel5)
      go_roundw
      case rel =>
        have o5 := O5.out
        rw [HY.out, ← evenly_succ] at o5
        exact ⟨k + 1, some ⟨g5, 0, none⟩, c5, hlt, by go_num, rfl, L5.out, o5⟩
      case measure => simp [intOf]; omega
    · obtain rfl : k = m := by omega
      have HE := encode_any (.slice ao k c) (evenly t d v k) wr (by simp; omega) (by have := Sl.own O.out; simpa using this)
      rw [show encV (evenly t d v k) = ((encB (evenly t d v k) (k - 2 + 1)).1, 0) by unfold encV; rw [if_pos HV.out, evenly_length, show k - 1 = k - 2 + 1 by omega]] at HE
      have hR : Rt (encB (evenly t d v k) (k - 2 + 1)).1 (encB (evenly t d v k) (k - 2 + 1)).2 := pushAll_Rt _ _ (by simp [Rt])
      have hB8 : 8 * (encB (evenly t d v k) (k - 2 + 1)).1.length ≤ 176 + 14 * (k - 2) + 7 := by have h1 := hR.1; have h2 := HB.out; omega
      generalize (encB (evenly t d v k) (k - 2 + 1)).1 = bs at *
      have HE' := hid HE
      clear HE hR HB HV
      have f1 : IntKind.i64.wrap (8 * (bs.length : Int)) = 8 * (bs.length : Int) := IntWalk.i64_in _ (by omega)
      have f2 : IntKind.i64.wrap ((k : Int) - 2) = (k : Int) - 2 := IntWalk.i64_in _ (by omega)
      have f3 : IntKind.i64.wrap (14 * ((k : Int) - 2)) = 14 * ((k : Int) - 2) := IntWalk.i64_in _ (by omega)
      have f4 : IntKind.i64.wrap (240 + 14 * ((k : Int) - 2)) = 240 + 14 * ((k : Int) - 2) := IntWalk.i64_in _ (by omega)
      have f5 : IntKind.i64.wrap (240 + 14 * ((k : Int) - 2) + 7) = 240 + 14 * ((k : Int) - 2) + 7 := IntWalk.i64_in _ (by omega)
      have f6 : decide (8 * (bs.length : Int) ≤ 240 + 14 * ((k : Int) - 2) + 7) = true := decide_eq_true (by omega)
      go_wp2_with fail
      refine HE'.out.mono ?_
      rintro e w1 ⟨ao1, c1', rfl, hb1, hown1⟩
      have L1 := hid (L.out.trans (hb1.mono sz))
      clear hb1 hown1
      go_wp2_with fail
      refine (HL.out w1).mono ?_
      rintro e w2 ⟨rfl, hb2⟩
      have L2 := hid (L1.out.trans (hb2.mono L1.out.size))
      clear hb2
      go_wp2
      go_ret
      exact ⟨rfl, L2.out⟩
end Go.Proofs.Ytcnfhabljogniaa
