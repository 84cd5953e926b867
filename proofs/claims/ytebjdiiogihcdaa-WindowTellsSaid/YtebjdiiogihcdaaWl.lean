/- window.Range, Instant. -/
import Derived.Test.YtebjdiiogihcdaaWk
namespace Go.Proofs.Ytebjdiiogihcdaa
open Go.RowKit
set_option linter.unusedSimpArgs false

theorem Sl.zero2 {w : World} {a : Addr} : Sl w 2 (.slice (some a) 0 0) 0 [] :=
  ⟨rfl, some a, 0, rfl, Nat.le_refl _, by simp [maxLen], (fun h => by cases h), fun _ _ j u hu => by simp at hu⟩

theorem rise_at {l : List (Int × Int)} (h : chkA none l = 0) (k : Nat) (hk : k < l.length) : 0 ≤ (l.getD k (0, 0)).1 ∧ (l.getD k (0, 0)).1 ≤ 1099511627776 ∧ -1152921504606846976 ≤ (l.getD k (0, 0)).2 ∧ (l.getD k (0, 0)).2 ≤ 1152921504606846976 :=
  mayB_iff.1 (chkA_zero h k hk).1
theorem rise_lt {l : List (Int × Int)} (h : chkA none l = 0) : ∀ x y, x < y → y < l.length → (l.getD x (0, 0)).1 < (l.getD y (0, 0)).1 := by
  intro x y hxy hy
  induction y with
  | zero => omega
  | succ y ih =>
    have h2 := (chkA_zero h (y + 1) hy).2 (by omega)
    rw [show y + 1 - 1 = y by omega] at h2
    by_cases hx : x = y
    · subst hx; exact h2
    · have h1 := ih (by omega) (by omega); omega
theorem rise_le {l : List (Int × Int)} (h : chkA none l = 0) (x y : Nat) (hxy : x ≤ y) (hy : y < l.length) : (l.getD x (0, 0)).1 ≤ (l.getD y (0, 0)).1 := by
  by_cases hx : x = y
  · subst hx; exact Int.le_refl _
  · have := rise_lt h x y (by omega) hy; omega

set_option maxRecDepth 100000 in
set_option maxHeartbeats 2000000 in
theorem range_any (v : Value) (l : List (Int × Int)) (en r : Int) (w : World) (hch : chkA none l = 0) (hl : l.length ≤ 10000000000000) (he0 : -9223372036854775808 ≤ en) (he : en ≤ 9223372036854775807) (hr1 : r ≤ 9223372036854775807) (hb : Sl w 2 v l.length (sc l)) :
    Calls Try.prog 16 #[v, .int .i64 en, .int .i64 r] w fun e w' => ∃ ao cap, e = .returned (.slice ao (rangeL l en r).length cap) ∧ Below w.heap.size w w' ∧
      w'.ownsRow w.heap.size 37 2 (.slice ao (rangeL l en r).length cap) (rangeL l en r).length (sc (rangeL l en r)) := by
  have hmf : ∀ (fn : Fn) (first cap : Array Value) (w : World), (Instr.makeFunc fn first cap).run Try.prog w = .ok (.func fn first cap) w := fun _ _ _ _ => rfl
  obtain ⟨ao, c, rfl, hlc, hcm, hao⟩ := hb.shape
  have Hb := hid hb
  have HAO := hid hao
  have HCH := hid hch
  clear hb hch hao
  have B0 := hid (blk_alloc (blk_alloc (blk_new w (.cells #[.slice ao l.length c] 22) _ rfl) (.cells #[.int .i64 en] 3)) (.cells #[.int .i64 r] 3))
  have B1 := hid (blk_alloc (blk_new (w.alloc (.cells #[.slice ao l.length c] 22)) (.cells #[.int .i64 en] 3) (w.heap.size + 1) (by simp)) (.cells #[.int .i64 r] 3))
  have B2 := hid (blk_new ((w.alloc (.cells #[.slice ao l.length c] 22)).alloc (.cells #[.int .i64 en] 3)) (.cells #[.int .i64 r] 3) (w.heap.size + 1 + 1) (by simp))
  have L0 := hid ((((Below.refl w.heap.size w).alloc (Nat.le_refl _) (.cells #[.slice ao l.length c] 22)).alloc (by simp) (.cells #[.int .i64 en] 3)).alloc (by simp; omega) (.cells #[.int .i64 r] 3))
  have RW0 := hid (show RgW w.heap.size (w.heap.size + 1) (w.heap.size + 1 + 1) ao c l en r _ from ⟨B0.out, B1.out, B2.out, ((Hb.out.alloc _).alloc _).alloc _⟩)
  by_cases hr : r ≤ 0
  · have d1 : decide (r ≤ 0) = true := decide_eq_true hr
    rw [rangeL_none l en r hr]
    clear hr
    go_enter Try.func16, Try.ntmps16
    go_wp2
    go_ret
    exact ⟨none, 0, rfl, L0.out, World.ownsRow_nil _ _ _ _⟩
  · have d1 : decide (r ≤ 0) = false := decide_eq_false hr
    have HR := hid hr
    clear hr
    obtain ⟨y, hy⟩ : ∃ y, y = rangeL l en r := ⟨_, rfl⟩
    rw [← hy]
    have HY := hid hy
    clear hy
    go_enter Try.func16, Try.ntmps16
    go_wp2_with fail
    generalize ((w.alloc (.cells #[.slice ao l.length c] 22)).alloc (.cells #[.int .i64 en] 3)).alloc (.cells #[.int .i64 r] 3) = w1 at *
    refine (search2_any 29 (fun _ _ => rfl) (.pointer (some ⟨w.heap.size, 0, none⟩)) (.pointer (some ⟨w.heap.size + 1, 0, none⟩)) (fun k => decide (en < (l.getD k (0, 0)).1)) l.length (RgW w.heap.size (w.heap.size + 1) (w.heap.size + 1 + 1) ao c l en r) (fun _ _ h hb => h.below hb) (fun k wx hk hx => range1_any _ _ _ ao c l en r wx hx k hk) (fun x y hxy hy h => decide_eq_true (by have := of_decide_eq_true h; have := rise_le HCH.out x y hxy hy; omega)) w1 RW0.out (by omega)).mono ?_
    rintro e w2 ⟨hi, rfl, hb2, hin, hlo1, hhi1⟩
    have L2 := hid (L0.out.trans (hb2.mono L0.out.size))
    have RW2 := hid (RW0.out.below hb2)
    have LO1 := hid hlo1; have HI1 := hid hhi1
    clear hb2 hlo1 hhi1
    go_wp2_with fail
    refine (search3_any 30 (fun _ _ => rfl) (.pointer (some ⟨w.heap.size + 1, 0, none⟩)) (.pointer (some ⟨w.heap.size, 0, none⟩)) (.pointer (some ⟨w.heap.size + 1 + 1, 0, none⟩)) (fun k => decide (en - (l.getD k (0, 0)).1 < r)) hi (RgW w.heap.size (w.heap.size + 1) (w.heap.size + 1 + 1) ao c l en r) (fun _ _ h hb => h.below hb) (fun k wx hk hx => range2_any _ _ _ ao c l en r wx hx k (by omega) (rise_at HCH.out k (by omega)).1 (by have := of_decide_eq_false (LO1.out k hk); omega) he (by have := HR.out; omega) hr1) (fun x y hxy hy h => decide_eq_true (by have := of_decide_eq_true h; have := rise_le HCH.out x y hxy (by omega); omega)) w2 RW2.out (by omega)).mono ?_
    rintro e w3 ⟨lo, rfl, hb3, hlo, hlo2, hhi2⟩
    have L3 := hid (L2.out.trans (hb3.mono L2.out.size))
    have RW3 := hid (RW2.out.below hb3)
    have EQ := hid (show rangeL l en r = (l.take hi).drop lo from filter_piece (inR en r) l lo hi hlo hin (fun k hk => by
      have h1 := of_decide_eq_false (hlo2 k hk)
      unfold inR
      rw [decide_eq_false h1]; simp) (fun k h1 h2 => by
      have h3 := of_decide_eq_true (hhi2 k h1 h2)
      have h4 := of_decide_eq_false (LO1.out k h2)
      unfold inR
      have h5 := HR.out
      rw [decide_eq_true h3, decide_eq_true (by omega : (l.getD k (0, 0)).1 ≤ en), decide_eq_true (by omega : 0 < r)]; rfl) (fun k h1 h2 => by
      have h3 := of_decide_eq_true (HI1.out k h1 h2)
      unfold inR
      rw [decide_eq_false (by omega : ¬ (l.getD k (0, 0)).1 ≤ en)]; simp))
    clear hb3 hlo2 hhi2
    have HY2 := hid (HY.out.trans EQ.out)
    obtain ⟨p0, p1, p2⟩ := blk1 RW3.out.1
    have i1 : (lo : Int) ≤ (hi : Int) := by omega
    have i2 : (hi : Int) ≤ (c : Int) := by omega
    have i0 : (0 : Int) ≤ (lo : Int) := by omega
    have i3 : hi ≤ c := by omega
    have S3 := hid RW3.out.2.2.2
    have LL := hid (show y.length = hi - lo by rw [HY2.out]; simp; omega)
    have SC := hid (show sc y = ((sc l).take (hi * 2)).drop (lo * 2) by rw [HY2.out, sc_drop, sc_take])
    have HLL := hid (show y.length ≤ 10000000000000 by rw [LL.out]; omega)
    cases ao with
    | none =>
      obtain ⟨h0, rfl⟩ := S3.out.none_zero
      obtain rfl : hi = 0 := by omega
      obtain rfl : lo = 0 := by omega
      have SY := hid (show Sl w3 2 (.slice none 0 0) y.length (sc y) by
        have : y = [] := List.eq_nil_of_length_eq_zero (by rw [LL.out])
        subst this; exact Sl.nil _ _)
      go_wp2_with fail
      refine (clone_any _ y w3 HLL.out SY.out).mono ?_
      rintro e w4 ⟨ao4, c4, rfl, hb4, hown4⟩
      have L4 := hid (L3.out.trans (hb4.mono L3.out.size)); have O4 := hid (own_base hown4 L3.out.size)
      clear hb4 hown4
      go_wp2
      go_ret
      exact ⟨ao4, c4, rfl, L4.out, O4.out⟩
    | some a =>
      by_cases h0 : l.length = 0
      · obtain rfl : hi = 0 := by omega
        obtain rfl : lo = 0 := by omega
        have SY := hid (show Sl w3 2 (.slice (some a) 0 c) y.length (sc y) by
          have : y = [] := List.eq_nil_of_length_eq_zero (by rw [LL.out])
          subst this; exact S3.out.cut2 0 (by omega) rfl)
        go_wp2_with fail
        refine (clone_any _ y w3 HLL.out SY.out).mono ?_
        rintro e w4 ⟨ao4, c4, rfl, hb4, hown4⟩
        have L4 := hid (L3.out.trans (hb4.mono L3.out.size)); have O4 := hid (own_base hown4 L3.out.size)
        clear hb4 hown4
        go_wp2
        go_ret
        exact ⟨ao4, c4, rfl, L4.out, O4.out⟩
      · obtain ⟨g, off, ha, hbl, _⟩ := sc_cells S3.out (by omega)
        cases ha
        by_cases hc : c = lo
        · obtain rfl : lo = hi := by omega
          have SY := hid (show Sl w3 2 (.slice (some ⟨g, off, none⟩) 0 0) y.length (sc y) by
            have : y = [] := List.eq_nil_of_length_eq_zero (by rw [LL.out]; omega)
            subst this; exact Sl.zero2)
          go_wp2_with fail
          refine (clone_any _ y w3 HLL.out SY.out).mono ?_
          rintro e w4 ⟨ao4, c4, rfl, hb4, hown4⟩
          have L4 := hid (L3.out.trans (hb4.mono L3.out.size)); have O4 := hid (own_base hown4 L3.out.size)
          clear hb4 hown4
          go_wp2
          go_ret
          exact ⟨ao4, c4, rfl, L4.out, O4.out⟩
        · have SY := hid (show Sl w3 2 (.slice (some ⟨g, off + lo * 2, none⟩) (hi - lo) (c - lo)) y.length (sc y) by
            rw [LL.out]; exact (S3.out.cut2 hi hin rfl).drop2 lo hlo SC.out)
          have i5 : ¬ c = lo := hc
          go_wp2_with fail
          refine (clone_any _ y w3 HLL.out SY.out).mono ?_
          rintro e w4 ⟨ao4, c4, rfl, hb4, hown4⟩
          have L4 := hid (L3.out.trans (hb4.mono L3.out.size)); have O4 := hid (own_base hown4 L3.out.size)
          clear hb4 hown4
          go_wp2
          go_ret
          exact ⟨ao4, c4, rfl, L4.out, O4.out⟩
end Go.Proofs.Ytebjdiiogihcdaa
