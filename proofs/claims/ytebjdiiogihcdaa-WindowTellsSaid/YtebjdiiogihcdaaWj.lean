/- gaugelaw18.three, lives. -/
import Derived.Test.YtebjdiiogihcdaaWi
namespace Go.Proofs.Ytebjdiiogihcdaa
open Go.RowKit
set_option linter.unusedSimpArgs false

def threeL : List (Int × Int) := [(1, 2000000), (2, 5000000), (3, 1000000)]
def threeW (w : World) : World := w.alloc (.cells #[.int .i64 1, .int .i64 2000000, .int .i64 2, .int .i64 5000000, .int .i64 3, .int .i64 1000000] 37)

set_option maxRecDepth 100000 in
set_option maxHeartbeats 1000000 in
theorem three_any (w : World) : Calls Try.prog 26 #[] w fun e w' => e = .returned (.slice (some ⟨w.heap.size, 0, none⟩) 3 3) ∧ w' = threeW w := by
  go_enter Try.func26, Try.ntmps26
  go_wp2
  go_ret
  exact ⟨rfl, rfl⟩

theorem three_sl (w : World) : Sl (threeW w) 2 (.slice (some ⟨w.heap.size, 0, none⟩) 3 3) 3 (sc threeL) :=
  Sl.own (World.ownsRow_lit (base := w.heap.size) (size := 2) (e := 37) w #[.int .i64 1, .int .i64 2000000, .int .i64 2, .int .i64 5000000, .int .i64 3, .int .i64 1000000] 3 (Nat.le_refl _) (by decide) rfl)
theorem three_below (w : World) : Below w.heap.size w (threeW w) := (Below.refl w.heap.size w).alloc (Nat.le_refl _) _

theorem apply_avg3 (v : Value) (w : World) (hb : Sl w 2 v 3 (sc threeL)) : Calls Try.prog 9 #[opS2, v, .int .i64 2000] w fun e w' => e = retA (2666666, true, 0) ∧ Below w.heap.size w w' := by
  have e : retA (apV 1 threeL 2000 (2666666, 0)) = retA (2666666, true, 0) := congrArg retA (by decide +kernel)
  rw [← e]
  refine apply_any _ v threeL 1 2000 w (by decide) hb known_2 (2666666, 0) ?_
  intro _ _ _ _ _ wx hx
  have ht := tell_2 v threeL 2000 wx (by decide) hx (2666666, 0) (fun _ w2 => scale_pos 8000000 1 3 (by decide) (by decide) (by decide) (by decide) (by decide) (by decide) w2)
  rw [if_neg (by decide +kernel)] at ht
  exact ht
theorem apply_rate3 (v : Value) (w : World) (hb : Sl w 2 v 3 (sc threeL)) : Calls Try.prog 9 #[opS8, v, .int .i64 2000] w fun e w' => e = retA (2000000, true, 0) ∧ Below w.heap.size w w' := by
  have e : retA (apV 2 threeL 2000 (2000000, 0)) = retA (2000000, true, 0) := congrArg retA (by decide +kernel)
  rw [← e]
  refine apply_any _ v threeL 2 2000 w (by decide) hb known_8 (2000000, 0) ?_
  intro _ _ _ _ _ wx hx
  have ht := tell_8 v threeL 2000 wx (by decide) hx (2000000, 0) (fun _ w2 => scale_pos 4000000 1000 2000 (by decide) (by decide) (by decide) (by decide) (by decide) (by decide) w2)
  rw [if_neg (by decide +kernel)] at ht
  exact ht
theorem apply_rate1 (v : Value) (w : World) (hb : Sl w 2 v 1 (sc [(1, 2000000)])) : Calls Try.prog 9 #[opS8, v, .int .i64 2000] w fun e w' => e = retA (0, false, 0) ∧ Below w.heap.size w w' := by
  have e : retA (apV 2 [(1, 2000000)] 2000 (0, 0)) = retA (0, false, 0) := congrArg retA (by decide +kernel)
  rw [← e]
  refine apply_any _ v [(1, 2000000)] 2 2000 w (by decide) hb known_8 (0, 0) ?_
  intro _ _ _ _ h
  exact absurd h (by decide)
theorem apply_sum (v : Value) (w : World) : Calls Try.prog 9 #[.string { data := #[115, 117, 109] }, v, .int .i64 1] w fun e w' => e = retA (0, false, 9) ∧ Below w.heap.size w w' :=
  apply_none _ v 1 w (known_no _ (by decide +kernel) w)

set_option maxRecDepth 100000 in
set_option maxHeartbeats 2000000 in
theorem lives_any (w : World) : Calls Try.prog 12 #[] w fun e w' => e = .returned (.bool true) ∧ Below w.heap.size w w' := by
  have H1 := hid apply_avg3; have H2 := hid apply_rate3; have H3 := hid apply_rate1; have H4 := hid apply_sum
  have HT := hid three_any
  unfold retA opS2 opS8 at *
  go_enter Try.func12, Try.ntmps12
  go_wp2_with fail
  refine (HT.out _).mono ?_
  rintro e wz ⟨rfl, hwz⟩
  subst wz
  go_wp2_with fail
  refine (H1.out _ _ (three_sl w)).mono ?_
  rintro e w1 ⟨rfl, hb1⟩
  have L1 := hid ((three_below w).trans (hb1.mono (three_below w).size))
  clear hb1
  go_wp2_with fail
  refine (HT.out w1).mono ?_
  rintro e wz ⟨rfl, hwz⟩
  subst wz
  go_wp2_with fail
  refine (H2.out _ _ (three_sl w1)).mono ?_
  rintro e w2 ⟨rfl, hb2⟩
  have L2 := hid (L1.out.trans (((three_below w1).trans (hb2.mono (three_below w1).size)).mono L1.out.size))
  clear hb2
  go_wp2_with fail
  refine (HT.out w2).mono ?_
  rintro e wz ⟨rfl, hwz⟩
  subst wz
  go_wp2_with fail
  refine (H3.out _ _ ((three_sl w2).cut2 1 (by decide) rfl)).mono ?_
  rintro e w3 ⟨rfl, hb3⟩
  have L3 := hid (L2.out.trans (((three_below w2).trans (hb3.mono (three_below w2).size)).mono L2.out.size))
  clear hb3
  go_wp2_with fail
  refine (H4.out _ w3).mono ?_
  rintro e w4 ⟨rfl, hb4⟩
  have L4 := hid (L3.out.trans (hb4.mono L3.out.size))
  clear hb4
  go_wp2
  go_ret
  exact ⟨rfl, L4.out⟩
end Go.Proofs.Ytebjdiiogihcdaa
