/- window.tell, name by name. -/
import Derived.Test.YtebjdiiogihcdaaWg
namespace Go.Proofs.Ytebjdiiogihcdaa
open Go.RowKit
set_option linter.unusedSimpArgs false

def firstV (l : List (Int × Int)) : Int := (l.getD 0 (0, 0)).2
def sumV (l : List (Int × Int)) : Int × Int := foldTo (fun s v _ => addV s v) l (firstV l) (l.length - 1)
def incV (l : List (Int × Int)) : Int × Int := foldTo riseV l 0 (l.length - 1)
def minV (l : List (Int × Int)) : Int × Int := foldTo (fun s v _ => (min s v, 0)) l (firstV l) (l.length - 1)
def maxV (l : List (Int × Int)) : Int × Int := foldTo (fun s v _ => (max s v, 0)) l (firstV l) (l.length - 1)
def lastV (l : List (Int × Int)) : Int × Int := foldTo (fun _ v _ => (v, 0)) l (firstV l) (l.length - 1)

/-- what the walks of tell begin with: a block, an offset, the first value -/
theorem tell_front {w : World} {v : Value} {l : List (Int × Int)} (hl : 0 < l.length) (hb : Sl w 2 v l.length (sc l)) :
    ∃ b off cc, v = .slice (some ⟨b, off, none⟩) l.length cc ∧ l.length ≤ cc ∧ cc ≤ maxLen ∧ b < w.heap.size ∧ w.cell? ⟨b, off + 1, none⟩ = some (.int .i64 (firstV l)) ∧
      w.cell? ⟨b, off + (l.length - 1) * 2 + 1, none⟩ = some (.int .i64 (l.getD (l.length - 1) (0, 0)).2) := by
  obtain ⟨ao, cc, rfl, hlc, hcm, _⟩ := hb.shape
  obtain ⟨b, off, rfl, hbl, hcell⟩ := sc_cells hb hl
  exact ⟨b, off, cc, rfl, hlc, hcm, hbl, by simpa [firstV] using (hcell 0 hl).2, by simpa using (hcell (l.length - 1) (by omega)).2⟩

set_option maxRecDepth 100000 in
set_option maxHeartbeats 2000000 in
theorem tell_0 (v : Value) (l : List (Int × Int)) (r : Int) (w : World) (hl : 0 < l.length) (hb : Sl w 2 v l.length (sc l)) (hn : l.length ≤ 1099511627777) :
    Calls Try.prog 22 #[opS0, v, .int .i64 r] w fun e w' => e = two ((l.length : Int) * 1000000, 0) ∧ Below w.heap.size w w' := by
  have Hb := hid hb
  obtain ⟨b, off, cc, rfl, hlc, hcm, hbl, h0, hz⟩ := tell_front hl hb
  have i0 : (0 : Int) < (l.length : Int) := by omega
  unfold maxLen at hcm
  have kw : IntKind.i64.wrap ((l.length : Int) * 1000000) = (l.length : Int) * 1000000 := IntWalk.i64_in _ (by omega)
  unfold two
  clear hb
  unfold opS0
  generalize firstV l = fv at *
  go_enter Try.func22, Try.ntmps22
  go_wp2
  go_ret2
  exact ⟨rfl, Below.refl _ _⟩

set_option maxRecDepth 100000 in
set_option maxHeartbeats 2000000 in
theorem tell_1 (v : Value) (l : List (Int × Int)) (r : Int) (w : World) (hl : 0 < l.length) (hb : Sl w 2 v l.length (sc l)) :
    Calls Try.prog 22 #[opS1, v, .int .i64 r] w fun e w' => e = two (sumV l) ∧ Below w.heap.size w w' := by
  have Hb := hid hb
  obtain ⟨b, off, cc, rfl, hlc, hcm, hbl, h0, hz⟩ := tell_front hl hb
  have i0 : (0 : Int) < (l.length : Int) := by omega
  unfold maxLen at hcm
  have HT := hid (folded_total (fun s v _ => addV s v) total_any _ l (firstV l) w hl Hb.out)
  rw [show foldTo (fun s v _ => addV s v) l (firstV l) (l.length - 1) = sumV l from rfl] at HT
  generalize sumV l = q at *
  unfold two at *
  clear hb
  unfold opS1
  generalize firstV l = fv at *
  go_enter Try.func22, Try.ntmps22
  go_wp2_with fail
  refine HT.out.mono ?_
  rintro e w1 ⟨rfl, hb1⟩
  have L1 := hid hb1
  clear hb1
  go_wp2
  go_ret2
  exact ⟨rfl, L1.out⟩

set_option maxRecDepth 100000 in
set_option maxHeartbeats 2000000 in
theorem tell_2 (v : Value) (l : List (Int × Int)) (r : Int) (w : World) (hl : 0 < l.length) (hb : Sl w 2 v l.length (sc l)) (q : Int × Int) (hs : (sumV l).2 = 0 → ∀ wx : World, Calls Try.prog 36 #[.int .i64 (sumV l).1, .int .i64 1, .int .i64 l.length] wx fun e w' => e = two q ∧ Below wx.heap.size wx w') :
    Calls Try.prog 22 #[opS2, v, .int .i64 r] w fun e w' => e = two (if (sumV l).2 ≠ 0 then (0, (sumV l).2) else q) ∧ Below w.heap.size w w' := by
  have Hb := hid hb
  obtain ⟨b, off, cc, rfl, hlc, hcm, hbl, h0, hz⟩ := tell_front hl hb
  have i0 : (0 : Int) < (l.length : Int) := by omega
  unfold maxLen at hcm
  have HT := hid (folded_total (fun s v _ => addV s v) total_any _ l (firstV l) w hl Hb.out)
  rw [show foldTo (fun s v _ => addV s v) l (firstV l) (l.length - 1) = sumV l from rfl] at HT
  have HS := hid hs
  clear hs
  generalize sumV l = s at *
  unfold two at *
  clear hb
  unfold opS2
  generalize firstV l = fv at *
  go_enter Try.func22, Try.ntmps22
  rcases Bool.eq_false_or_eq_true (s.2 != 0) with h2 | h2
  · have hne : s.2 ≠ 0 := by simpa using h2
    rw [if_pos hne]
    clear hne
    go_wp2_with fail
    refine HT.out.mono ?_
    rintro e w1 ⟨rfl, hb1⟩
    have L1 := hid hb1
    clear hb1
    go_wp2
    go_ret2
    exact ⟨rfl, L1.out⟩
  · have hne : s.2 = 0 := by simpa using h2
    rw [if_neg (by rw [hne]; simp)]
    have HC := hid (HS.out hne)
    clear hne
    go_wp2_with fail
    refine HT.out.mono ?_
    rintro e w1 ⟨rfl, hb1⟩
    have L1 := hid hb1
    clear hb1
    go_wp2_with fail
    refine (HC.out w1).mono ?_
    rintro e w2 ⟨rfl, hb2⟩
    have L2 := hid (L1.out.trans (hb2.mono L1.out.size))
    clear hb2
    go_wp2
    go_ret2
    exact ⟨rfl, L2.out⟩

set_option maxRecDepth 100000 in
set_option maxHeartbeats 2000000 in
theorem tell_3 (v : Value) (l : List (Int × Int)) (r : Int) (w : World) (hl : 0 < l.length) (hb : Sl w 2 v l.length (sc l)) :
    Calls Try.prog 22 #[opS3, v, .int .i64 r] w fun e w' => e = two (minV l) ∧ Below w.heap.size w w' := by
  have Hb := hid hb
  obtain ⟨b, off, cc, rfl, hlc, hcm, hbl, h0, hz⟩ := tell_front hl hb
  have i0 : (0 : Int) < (l.length : Int) := by omega
  unfold maxLen at hcm
  have HP := hid (picked_any 38 w)
  have B1 := hid (blk_new w (.cells #[fnV 38] 63) _ rfl)
  have L0 := hid ((Below.refl w.heap.size w).alloc (Nat.le_refl _) (.cells #[fnV 38] 63))
  have HT := hid (folded_picked (fun s v _ => (min s v, 0)) w.heap.size (fnV 38) (fun s v a wx hp => picked1_any 38 (fun _ _ => rfl) (fun s v => min s v) least_any w.heap.size s v a wx hp) _ l (firstV l) (w.alloc (.cells #[fnV 38] 63)) hl (Sl.alloc Hb.out _) B1.out)
  rw [show foldTo (fun s v _ => (min s v, 0)) l (firstV l) (l.length - 1) = minV l from rfl] at HT
  generalize minV l = q at *
  unfold two fnV at *
  clear hb
  unfold opS3
  generalize firstV l = fv at *
  go_enter Try.func22, Try.ntmps22
  go_wp2_with fail
  refine HP.out.mono ?_
  rintro e wz ⟨rfl, hwz⟩
  subst wz
  go_wp2_with fail
  refine HT.out.mono ?_
  rintro e w1 ⟨rfl, hb1⟩
  have L1 := hid (L0.out.trans (hb1.mono L0.out.size))
  clear hb1
  go_wp2
  go_ret2
  exact ⟨rfl, L1.out⟩

set_option maxRecDepth 100000 in
set_option maxHeartbeats 2000000 in
theorem tell_4 (v : Value) (l : List (Int × Int)) (r : Int) (w : World) (hl : 0 < l.length) (hb : Sl w 2 v l.length (sc l)) :
    Calls Try.prog 22 #[opS4, v, .int .i64 r] w fun e w' => e = two (maxV l) ∧ Below w.heap.size w w' := by
  have Hb := hid hb
  obtain ⟨b, off, cc, rfl, hlc, hcm, hbl, h0, hz⟩ := tell_front hl hb
  have i0 : (0 : Int) < (l.length : Int) := by omega
  unfold maxLen at hcm
  have HP := hid (picked_any 39 w)
  have B1 := hid (blk_new w (.cells #[fnV 39] 63) _ rfl)
  have L0 := hid ((Below.refl w.heap.size w).alloc (Nat.le_refl _) (.cells #[fnV 39] 63))
  have HT := hid (folded_picked (fun s v _ => (max s v, 0)) w.heap.size (fnV 39) (fun s v a wx hp => picked1_any 39 (fun _ _ => rfl) (fun s v => max s v) greatest_any w.heap.size s v a wx hp) _ l (firstV l) (w.alloc (.cells #[fnV 39] 63)) hl (Sl.alloc Hb.out _) B1.out)
  rw [show foldTo (fun s v _ => (max s v, 0)) l (firstV l) (l.length - 1) = maxV l from rfl] at HT
  generalize maxV l = q at *
  unfold two fnV at *
  clear hb
  unfold opS4
  generalize firstV l = fv at *
  go_enter Try.func22, Try.ntmps22
  go_wp2_with fail
  refine HP.out.mono ?_
  rintro e wz ⟨rfl, hwz⟩
  subst wz
  go_wp2_with fail
  refine HT.out.mono ?_
  rintro e w1 ⟨rfl, hb1⟩
  have L1 := hid (L0.out.trans (hb1.mono L0.out.size))
  clear hb1
  go_wp2
  go_ret2
  exact ⟨rfl, L1.out⟩

set_option maxRecDepth 100000 in
set_option maxHeartbeats 2000000 in
theorem tell_5 (v : Value) (l : List (Int × Int)) (r : Int) (w : World) (hl : 0 < l.length) (hb : Sl w 2 v l.length (sc l)) :
    Calls Try.prog 22 #[opS5, v, .int .i64 r] w fun e w' => e = two (lastV l) ∧ Below w.heap.size w w' := by
  have Hb := hid hb
  obtain ⟨b, off, cc, rfl, hlc, hcm, hbl, h0, hz⟩ := tell_front hl hb
  have i0 : (0 : Int) < (l.length : Int) := by omega
  unfold maxLen at hcm
  have HP := hid (picked_any 40 w)
  have B1 := hid (blk_new w (.cells #[fnV 40] 63) _ rfl)
  have L0 := hid ((Below.refl w.heap.size w).alloc (Nat.le_refl _) (.cells #[fnV 40] 63))
  have HT := hid (folded_picked (fun _ v _ => (v, 0)) w.heap.size (fnV 40) (fun s v a wx hp => picked1_any 40 (fun _ _ => rfl) (fun _ v => v) second_any w.heap.size s v a wx hp) _ l (firstV l) (w.alloc (.cells #[fnV 40] 63)) hl (Sl.alloc Hb.out _) B1.out)
  rw [show foldTo (fun _ v _ => (v, 0)) l (firstV l) (l.length - 1) = lastV l from rfl] at HT
  generalize lastV l = q at *
  unfold two fnV at *
  clear hb
  unfold opS5
  generalize firstV l = fv at *
  go_enter Try.func22, Try.ntmps22
  go_wp2_with fail
  refine HP.out.mono ?_
  rintro e wz ⟨rfl, hwz⟩
  subst wz
  go_wp2_with fail
  refine HT.out.mono ?_
  rintro e w1 ⟨rfl, hb1⟩
  have L1 := hid (L0.out.trans (hb1.mono L0.out.size))
  clear hb1
  go_wp2
  go_ret2
  exact ⟨rfl, L1.out⟩

set_option maxRecDepth 100000 in
set_option maxHeartbeats 2000000 in
theorem tell_6 (v : Value) (l : List (Int × Int)) (r : Int) (w : World) (hl : 0 < l.length) (hb : Sl w 2 v l.length (sc l)) :
    Calls Try.prog 22 #[opS6, v, .int .i64 r] w fun e w' => e = two (subV (l.getD (l.length - 1) (0, 0)).2 (firstV l)) ∧ Below w.heap.size w w' := by
  have Hb := hid hb
  obtain ⟨b, off, cc, rfl, hlc, hcm, hbl, h0, hz⟩ := tell_front hl hb
  have i0 : (0 : Int) < (l.length : Int) := by omega
  unfold maxLen at hcm
  have HS := hid (sub_any (l.getD (l.length - 1) (0, 0)).2 (firstV l) w)
  generalize (l.getD (l.length - 1) (0, 0)).2 = lv at *
  generalize subV lv (firstV l) = q at *
  have kw : IntKind.i64.wrap ((l.length : Int) - 1) = (l.length : Int) - 1 := IntWalk.i64_in _ (by omega)
  have i1 : (0 : Int) ≤ (l.length : Int) - 1 := by omega
  have i2 : (l.length : Int) - 1 < (l.length : Int) := by omega
  have n1 : ((l.length : Int) - 1).toNat = l.length - 1 := by omega
  unfold two at *
  clear hb
  unfold opS6
  generalize firstV l = fv at *
  go_enter Try.func22, Try.ntmps22
  go_wp2_with fail
  refine HS.out.mono ?_
  rintro e wz ⟨rfl, hwz⟩
  subst wz
  go_wp2
  go_ret2
  exact ⟨rfl, Below.refl _ _⟩

set_option maxRecDepth 100000 in
set_option maxHeartbeats 2000000 in
theorem tell_7 (v : Value) (l : List (Int × Int)) (r : Int) (w : World) (hl : 0 < l.length) (hb : Sl w 2 v l.length (sc l)) :
    Calls Try.prog 22 #[opS7, v, .int .i64 r] w fun e w' => e = two (incV l) ∧ Below w.heap.size w w' := by
  have Hb := hid hb
  obtain ⟨b, off, cc, rfl, hlc, hcm, hbl, h0, hz⟩ := tell_front hl hb
  have i0 : (0 : Int) < (l.length : Int) := by omega
  unfold maxLen at hcm
  have HT := hid (folded_risen riseV risen_any _ l 0 w hl Hb.out)
  rw [show foldTo riseV l 0 (l.length - 1) = incV l from rfl] at HT
  generalize incV l = q at *
  unfold two at *
  clear hb
  unfold opS7
  generalize firstV l = fv at *
  go_enter Try.func22, Try.ntmps22
  rcases Bool.eq_false_or_eq_true (q.2 != 0) with h2 | h2
  · go_wp2_with fail
    refine HT.out.mono ?_
    rintro e w1 ⟨rfl, hb1⟩
    have L1 := hid hb1
    clear hb1
    go_wp2
    go_ret2
    exact ⟨rfl, L1.out⟩
  · go_wp2_with fail
    refine HT.out.mono ?_
    rintro e w1 ⟨rfl, hb1⟩
    have L1 := hid hb1
    clear hb1
    go_wp2
    go_ret2
    exact ⟨rfl, L1.out⟩

set_option maxRecDepth 100000 in
set_option maxHeartbeats 2000000 in
theorem tell_8 (v : Value) (l : List (Int × Int)) (r : Int) (w : World) (hl : 0 < l.length) (hb : Sl w 2 v l.length (sc l)) (q : Int × Int) (hs : (incV l).2 = 0 → ∀ wx : World, Calls Try.prog 36 #[.int .i64 (incV l).1, .int .i64 1000, .int .i64 r] wx fun e w' => e = two q ∧ Below wx.heap.size wx w') :
    Calls Try.prog 22 #[opS8, v, .int .i64 r] w fun e w' => e = two (if (incV l).2 ≠ 0 then incV l else q) ∧ Below w.heap.size w w' := by
  have Hb := hid hb
  obtain ⟨b, off, cc, rfl, hlc, hcm, hbl, h0, hz⟩ := tell_front hl hb
  have i0 : (0 : Int) < (l.length : Int) := by omega
  unfold maxLen at hcm
  have HT := hid (folded_risen riseV risen_any _ l 0 w hl Hb.out)
  rw [show foldTo riseV l 0 (l.length - 1) = incV l from rfl] at HT
  have HS := hid hs
  clear hs
  generalize incV l = s at *
  unfold two at *
  clear hb
  unfold opS8
  generalize firstV l = fv at *
  go_enter Try.func22, Try.ntmps22
  rcases Bool.eq_false_or_eq_true (s.2 != 0) with h2 | h2
  · have hne : s.2 ≠ 0 := by simpa using h2
    rw [if_pos hne]
    clear hne
    go_wp2_with fail
    refine HT.out.mono ?_
    rintro e w1 ⟨rfl, hb1⟩
    have L1 := hid hb1
    clear hb1
    go_wp2
    go_ret2
    exact ⟨rfl, L1.out⟩
  · have hne : s.2 = 0 := by simpa using h2
    rw [if_neg (by rw [hne]; simp)]
    have HC := hid (HS.out hne)
    clear hne
    go_wp2_with fail
    refine HT.out.mono ?_
    rintro e w1 ⟨rfl, hb1⟩
    have L1 := hid hb1
    clear hb1
    go_wp2_with fail
    refine (HC.out w1).mono ?_
    rintro e w2 ⟨rfl, hb2⟩
    have L2 := hid (L1.out.trans (hb2.mono L1.out.size))
    clear hb2
    go_wp2
    go_ret2
    exact ⟨rfl, L2.out⟩
end Go.Proofs.Ytebjdiiogihcdaa
