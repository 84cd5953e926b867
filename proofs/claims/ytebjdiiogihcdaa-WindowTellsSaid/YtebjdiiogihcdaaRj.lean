/- The walk of WindowTells. -/
import Derived.Test.YtebjdiiogihcdaaRi
namespace Go.Proofs.Ytebjdiiogihcdaa
open Go.RowKit
set_option linter.unusedSimpArgs false

set_option maxRecDepth 100000 in
set_option maxHeartbeats 4000000 in
theorem walk_WindowTells (w : World) (s : ByteArray) (_hs : s.data.toList.length ≤ 140737488351232) (v : Value) (l : List (Int × Int)) (hb : Sl w 2 v l.length (sc l)) (_h64 : S64 l) (hl : l.length ≤ 8796093022208) (r : Int) (_hr0 : -9223372036854775808 ≤ r) (_hr1 : r ≤ 9223372036854775807) :
    Calls Try.prog 3 #[.string s, v, .int .i64 r] w fun e w' => e = .returned (.bool true) ∧ Below w.heap.size w w' := by
  have HL := hid lives_any
  obtain ⟨⟨x1, x2, x3⟩, hX⟩ := both_any l r (by omega) s
  have HA := hid hX.1; have HB := hid hX.2
  clear hX _hs
  obtain ⟨ao, c, rfl, _, _, _⟩ := hb.shape
  have Hb := hid hb
  clear hb
  unfold retA at HA HB
  simp only at HA HB
  have e2 : (x2 == x2) = true := by simp
  go_enter Try.func3, Try.ntmps3
  go_wp2_with (at_builtin; refine wpList_appMS rfl (.tmp 14) (.tmp 15) rfl w.heap.size (.slice (some ⟨w.heap.size, 0, none⟩) 0 0) 0 [] rfl (own_made _ _ 0 w.heap.size rfl (Nat.le_refl _) (by unfold maxLen; omega) (by simp)) (.slice ao l.length c) l.length l rfl (Hb.out.alloc _) (by omega) (by simp) ?_; intro ao2 c2 w2 hown2 hgrow2 hat2 hlt2; simp only [Nat.zero_add, List.nil_append] at hown2 ⊢; have O2 := hid hown2; have L2 := hid (hat2 w ((Below.refl w.heap.size w).alloc (Nat.le_refl _) _)); clear hown2 hgrow2 hat2)
  refine (HA.out _ w2 (Sl.own O2.out)).mono ?_
  rintro e w3 ⟨rfl, hb3⟩
  have L3 := hid (L2.out.trans (hb3.mono L2.out.size))
  have O3 := hid (own_below O2.out hb3 (Nat.le_refl _))
  clear hb3
  go_wp2_with fail
  refine (HB.out _ w3 (Hb.out.below L3.out (fun _ _ h => h))).mono ?_
  rintro e w4 ⟨rfl, hb4⟩
  have L4 := hid (L3.out.trans (hb4.mono L3.out.size))
  have O4 := hid (own_below O3.out hb4 (Nat.le_refl _))
  clear hb4
  go_wp2_with fail
  refine (same_any _ _ l l w4 (Sl.own O4.out) (Hb.out.below L4.out (fun _ _ h => h))).mono ?_
  rintro e w5 ⟨rfl, hb5⟩
  rw [decide_eq_true (rfl : l = l)]
  have L5 := hid (L4.out.trans (hb5.mono L4.out.size))
  clear hb5
  go_wp2_with fail
  refine (HL.out w5).mono ?_
  rintro e w6 ⟨rfl, hb6⟩
  have L6 := hid (L5.out.trans (hb6.mono L5.out.size))
  clear hb6
  go_wp2
  go_ret
  exact ⟨rfl, L6.out⟩
end Go.Proofs.Ytebjdiiogihcdaa
