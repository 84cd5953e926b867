/- frame.Get. -/
import Derived.Test.YtecnjgiodnphcaaGb
import Derived.Deep.RegionHeld3
import Derived.Deep.RegionWith
namespace Go.Proofs.Ytecnjgiodnphcaa
open Go.RowKit

/-- the length that stands at a place -/
def frN (l : List UInt8) (k : Nat) : Nat := (l.getD k 0).toNat * 256 + (l.getD (k + 1) 0).toNat
/-- frame.Get in plain words -/
def getF (l : List UInt8) (a : Int) : List UInt8 × Int × Int :=
  if a < 0 ∨ (l.length : Int) < a then ([], 0, 2)
  else if l.length < a.toNat + 6 then ([], 0, 4)
  else if l.length < a.toNat + 6 + frN l a.toNat then ([], 0, 4)
  else if le4 (sumL ((l.drop a.toNat).take (2 + frN l a.toNat))) ≠ (l.drop (a.toNat + (2 + frN l a.toNat))).take 4 then ([], 0, 5)
  else ((l.drop (a.toNat + 2)).take (frN l a.toNat), (a.toNat : Int) + 6 + frN l a.toNat, 0)
def GetPostF (w : World) (r : List UInt8 × Int × Int) (e : Ending) (w' : World) : Prop :=
  ∃ ao c, e = .returned (.tuple #[.slice ao r.1.length c, .int .i64 r.2.1, .int .i64 r.2.2]) ∧ Below w.heap.size w w' ∧ w'.ownsRow w.heap.size 5 1 (.slice ao r.1.length c) r.1.length (bc r.1)
theorem frN_lt (l : List UInt8) (k : Nat) : frN l k < 65536 := by
  unfold frN
  have h1 := UInt8.toNat_lt (l.getD k 0)
  have h2 := UInt8.toNat_lt (l.getD (k + 1) 0)
  omega
theorem or_len (x y : Nat) (hx : x < 256) (hy : y < 256) : bits BinOp.or IntKind.i64 ((x : Int) * 256) (y : Int) = ((x * 256 + y : Nat) : Int) := by
  have e := nat_join 8 (x * 256) y (by omega) (by omega)
  have hx' : (x : Int) * 256 = ((x * 256 : Nat) : Int) := by omega
  have hof : ∀ z : Nat, z < 9223372036854775808 → (BitVec.ofInt 64 (z : Int)).toNat = z := fun z hz => by rw [BitVec.ofInt_natCast, BitVec.toNat_ofNat]; exact Nat.mod_eq_of_lt (by omega)
  rw [hx']
  show IntKind.i64.wrap ((BitVec.ofInt 64 ((x * 256 : Nat) : Int) ||| BitVec.ofInt 64 (y : Int)).toNat : Int) = _
  rw [BitVec.toNat_or, hof _ (by omega), hof _ (by omega), e, IntKind.wrap_i64]
  omega

theorem get_out (ao : Option Addr) (n c : Nat) (a : Int) (w : World) (hn : n ≤ 140737488355328) (ha0 : -9223372036854775808 ≤ a) (ha1 : a ≤ 9223372036854775807) (h : a < 0 ∨ (n : Int) < a) :
    Calls Try.prog 25 #[.slice ao n c, .int .i64 a] w (GetPostF w ([], 0, 2)) := by
  rcases h with h | h
  · have hd : decide (a < 0) = true := by simpa using h
    go_enter Try.func25, Try.ntmps25
    go_wp2
    go_ret3
    exact ⟨none, 0, rfl, Below.refl _ _, World.ownsRow_nil _ _ _ _⟩
  · have hd : decide (a < 0) = false := by simp; omega
    have hd2 : decide ((n : Int) < a) = true := by simpa using h
    go_enter Try.func25, Try.ntmps25
    go_wp2
    go_ret3
    exact ⟨none, 0, rfl, Below.refl _ _, World.ownsRow_nil _ _ _ _⟩

theorem get_short (ao : Option Addr) (n c a : Nat) (w : World) (hn : n ≤ 140737488355328) (hnc : n ≤ c) (ha : a ≤ n) (h : n < a + 6) :
    Calls Try.prog 25 #[.slice ao n c, .int .i64 a] w (GetPostF w ([], 0, 4)) := by
  have hd : decide ((a : Int) < 0) = false := by simp
  have hd2 : decide ((n : Int) < (a : Int)) = false := by simp; omega
  have i0 : (0 : Int) ≤ (a : Int) := by omega
  have i1 : (a : Int) ≤ (n : Int) := by omega
  have i2 : (n : Int) ≤ (c : Int) := by omega
  have i3 : (n : Int) - a < 6 := by omega
  go_enter Try.func25, Try.ntmps25
  go_wp2
  all_goals go_ret3
  all_goals exact ⟨none, 0, rfl, Below.refl _ _, World.ownsRow_nil _ _ _ _⟩

set_option maxRecDepth 100000 in
set_option maxHeartbeats 2000000 in
theorem get_long (v : Value) (l : List UInt8) (a : Nat) (w : World) (hl : l.length ≤ 140737488355328) (h6 : a + 6 ≤ l.length) (hs : l.length < a + 6 + frN l a) (hb : Sl w 1 v l.length (bc l)) :
    Calls Try.prog 25 #[v, .int .i64 a] w (GetPostF w ([], 0, 4)) := by
  obtain ⟨b, off, c, rfl, hlc, _, _, hcell⟩ := hb.form (by decide) (by omega)
  have hc0 := hcell a (by omega)
  have hc1 := hcell (a + 1) (by omega)
  rw [bc_get _ _ (by omega)] at hc0 hc1
  rw [← Nat.add_assoc] at hc1
  have hor := or_len (l.getD a 0).toNat (l.getD (a + 1) 0).toNat (UInt8.toNat_lt _) (UInt8.toNat_lt _)
  have hN : frN l a = (l.getD a 0).toNat * 256 + (l.getD (a + 1) 0).toNat := rfl
  rw [← hN] at hor
  have hN6 := frN_lt l a
  have hz0 := UInt8.toNat_lt (l.getD a 0)
  have hz1 := UInt8.toNat_lt (l.getD (a + 1) 0)
  generalize frN l a = n at *
  generalize (l.getD a 0).toNat = z0 at *
  generalize (l.getD (a + 1) 0).toNat = z1 at *
  have hd : decide ((a : Int) < 0) = false := by simp
  have hd2 : decide ((l.length : Int) < (a : Int)) = false := by simp; omega
  have i0 : (0 : Int) ≤ (a : Int) := by omega
  have i1 : (a : Int) ≤ (l.length : Int) := by omega
  have i2 : (a : Int) < (c : Int) := by omega
  have i3 : ¬ (l.length : Int) - a < 6 := by omega
  have i4 : (0 : Int) < (l.length : Int) - a := by omega
  have i5 : (1 : Int) < (l.length : Int) - a := by omega
  have i6 : (l.length : Int) - a - 6 < n := by omega
  clear hN hb hcell
  go_enter Try.func25, Try.ntmps25
  go_wp2
  go_quiet (fail)
  go_wp2
  go_ret3
  exact ⟨none, 0, rfl, Below_drewN (Below.refl _ _) _, World.ownsRow_nil _ _ _ _⟩

set_option maxRecDepth 100000 in
set_option maxHeartbeats 2000000 in
theorem get_full (v : Value) (l : List UInt8) (a : Nat) (w : World) (hl : l.length ≤ 140737488355328) (hs : a + 6 + frN l a ≤ l.length) (hb : Sl w 1 v l.length (bc l)) (D T : List UInt8) (hD : D = (l.drop a).take (2 + frN l a)) (hT : T = (l.drop (a + (2 + frN l a))).take 4) (r : List UInt8 × Int × Int) (hr1 : le4 (sumL D) ≠ T → r = ([], 0, 5)) (hr2 : le4 (sumL D) = T → r = ((l.drop (a + 2)).take (frN l a), (a : Int) + 6 + frN l a, 0)) :
    Calls Try.prog 25 #[v, .int .i64 a] w (GetPostF w r) := by
  obtain ⟨b, off, c, rfl, hlc, _, hbl, hcell⟩ := hb.form (by decide) (by omega)
  have hc0 := hcell a (by omega)
  have hc1 := hcell (a + 1) (by omega)
  rw [bc_get _ _ (by omega)] at hc0 hc1
  rw [← Nat.add_assoc] at hc1
  have hor := or_len (l.getD a 0).toNat (l.getD (a + 1) 0).toNat (UInt8.toNat_lt _) (UInt8.toNat_lt _)
  have hN : frN l a = (l.getD a 0).toNat * 256 + (l.getD (a + 1) 0).toNat := rfl
  rw [← hN] at hor
  have hN6 := frN_lt l a
  have hz0 := UInt8.toNat_lt (l.getD a 0)
  have hz1 := UInt8.toNat_lt (l.getD (a + 1) 0)
  generalize frN l a = n at *
  have hDl : D.length = 2 + n := by rw [hD]; simp; omega
  have hTl : T.length = 4 := by rw [hT]; simp; omega
  have hXl : ((l.drop (a + 2)).take n).length = n := by simp; omega
  have s1 := Sl.drop hb (ys := bc (l.drop a)) a (by omega) (by simp [bc])
  have s2 := Sl.cut s1 (ys := bc D) (2 + n) (by omega) (by simp [bc, hD])
  have s3 := Sl.cut (Sl.drop s1 (ys := bc (l.drop (a + (2 + n)))) (2 + n) (by omega) (by simp [bc])) (ys := bc T) 4 (by omega) (by simp [bc, hT])
  have s4 := Sl.cut (Sl.drop s1 (ys := bc (l.drop (a + 2))) 2 (by omega) (by simp [bc])) (ys := bc ((l.drop (a + 2)).take n)) n (by omega) (by simp [bc])
  generalize (l.drop (a + 2)).take n = X at *
  generalize (l.getD a 0).toNat = z0 at *
  generalize (l.getD (a + 1) 0).toNat = z1 at *
  have S2 := hid s2; have S3 := hid s3; have S4 := hid s4
  have hd : decide ((a : Int) < 0) = false := by simp
  have hd2 : decide ((l.length : Int) < (a : Int)) = false := by simp; omega
  have i0 : (0 : Int) ≤ (a : Int) := by omega
  have i1 : (a : Int) ≤ (l.length : Int) := by omega
  have i2 : (a : Int) < (c : Int) := by omega
  have i3 : ¬ (l.length : Int) - a < 6 := by omega
  have i4 : (0 : Int) < (l.length : Int) - a := by omega
  have i5 : (1 : Int) < (l.length : Int) - a := by omega
  have i6 : ¬ (l.length : Int) - a - 6 < n := by omega
  have HD := hid hDl; have HT := hid hTl; have HX := hid hXl; have R1 := hid hr1; have R2 := hid hr2
  clear hr1 hr2
  clear hN hb hcell s1 s2 s3 s4 hD hT hDl hTl hXl
  go_enter Try.func25, Try.ntmps25
  go_wp2
  go_quiet (fail)
  rename_i nq
  clear hor
  go_wp2
  have L0 : Below w.heap.size w (w.drewN nq) := Below_drewN (Below.refl _ _) _
  have L1 : Below w.heap.size w (w.drewN nq).drew := L0.drew
  have hsl : ∀ wx, Below w.heap.size w wx → Calls Try.prog 36 #[.slice none 0 0, .slice (some ⟨b, off + a, none⟩) (2 + n) (c - a)] wx fun e w' => ∃ ao cap, e = .returned (.slice ao 4 cap) ∧ Below w.heap.size w w' ∧ Sl w' 1 (.slice ao 4 cap) 4 (bc (le4 (sumL D))) := fun wx hx => by
    have h := sealed_any (.slice none 0 0) (.slice (some ⟨b, off + a, none⟩) (2 + n) (c - a)) [] D w.heap.size wx hx.size (by decide) (by have := HD.out; omega) (World.ownsRow_nil _ _ _ _) (by rw [HD.out]; exact S2.out.below hx (fun _ _ h => h))
    exact h.mono fun e w' ⟨ao, cap, he, h1, h2⟩ => ⟨ao, cap, he, hx.trans h1, Sl.own h2⟩
  have q2 : ∀ wx, Below w.heap.size w wx → (convert 22 9 (.slice (some ⟨b, off + a + (2 + n), none⟩) (6 + n - (2 + n)) (c - a - (2 + n)))).run Try.prog wx = .ok (.string ⟨T.toArray⟩) wx := fun wx hx => by
    rw [show 6 + n - (2 + n) = 4 by omega]
    exact run_convert_sl (P := Try.prog) wx 22 9 5 Try.underlying22 Try.underlying5 Try.underlying9 (S3.out.below hx (fun _ _ h => h))
  have q3 : ∀ wx, Below w.heap.size w wx → (convert 22 9 (.slice (some ⟨b, off + a + (2 + n), none⟩) 4 (c - a - (2 + n)))).run Try.prog wx = .ok (.string ⟨T.toArray⟩) wx := fun wx hx =>
    run_convert_sl (P := Try.prog) wx 22 9 5 Try.underlying22 Try.underlying5 Try.underlying9 (S3.out.below hx (fun _ _ h => h))
  have HSl := hid hsl
  clear hsl
  have HOw := hid (fun (wx : World) (hx : Below w.heap.size w wx) => (show Calls Try.prog 35 #[.slice (some ⟨b, off + a + 2, none⟩) n (c - a - 2), .int .i64 0] wx fun e w' => ∃ g cap, e = .returned (.slice (some ⟨g, 0, none⟩) n cap) ∧ Below wx.heap.size wx w' ∧
      w'.ownsRow wx.heap.size 5 1 (.slice (some ⟨g, 0, none⟩) n cap) n (bc X) from by
    have h := own_any (.slice (some ⟨b, off + a + 2, none⟩) n (c - a - 2)) X 0 wx (by have := HX.out; omega) (by rw [HX.out]; exact S4.out.below hx (fun _ _ h => h))
    rw [HX.out] at h
    exact h))
  generalize w.drewN nq = W0 at *
  have j0 : (0 : Int) ≤ 2 + (n : Int) := by omega
  have j1 : (2 : Int) + n ≤ ((c - a : Nat) : Int) := by omega
  have j2 : (2 : Int) + n ≤ 6 + (n : Int) := by omega
  have j3 : (6 : Int) + n ≤ ((c - a : Nat) : Int) := by omega
  have j4 : (2 : Int) + n < ((c - a : Nat) : Int) := by omega
  have j5 : (0 : Int) ≤ 6 + (n : Int) := by omega
  have t2 : ((2 : Int) + n).toNat = 2 + n := by omega
  have t6 : ((6 : Int) + n).toNat = 6 + n := by omega
  have k2 : IntKind.i64.wrap ((2 : Int) + n) = 2 + n := IntWalk.i64_in _ (by omega)
  have k6 : IntKind.i64.wrap ((6 : Int) + n) = 6 + n := IntWalk.i64_in _ (by omega)
  go_region_with (first
      | (go_at_call 36; refine (HSl.out _ (by first | exact L0 | exact L1)).mono ?_; rintro e w1 ⟨ao1, c1, rfl, hb1, hsl1⟩; have hS := hb1; have hS1 := hb1.drew; have Q1 := (fun (wx : World) (hx : Below w1.heap.size w1 wx) => run_convert_sl (P := Try.prog) wx 22 9 5 Try.underlying22 Try.underlying5 Try.underlying9 (hsl1.below hx (fun _ _ h => h))); have hT := Below.refl w1.heap.size w1; have hT1 := hT.drew))
  all_goals clear k2 k6 t2 t6 q2 q3
  all_goals (go_wp2_with fail)
  all_goals first
    | ((with_reducible refine (HOw.out w1 hS).mono ?_)
       have hr := hid (R2.out (by have h : (!le4 (sumL D) == T) = false := (by assumption); simpa using h))
       rintro e w5 ⟨g5, c5, rfl, hb5, hown5⟩
       have L5 := hid (hS.trans (hb5.mono hS.size)); have O5 := hid (own_base hown5 hS.size)
       clear hb5 hown5
       go_wp2
       go_ret3
       rw [hr.out]
       have o5 := O5.out
       rw [← HX.out] at o5
       refine ⟨some ⟨g5, 0, none⟩, c5, ?_, L5.out, o5⟩
       rw [HX.out]; rfl)
    | (have hr := R1.out (by have h : (!le4 (sumL D) == T) = true := (by assumption); simpa using h)
       go_ret3
       rw [hr]
       exact ⟨none, 0, rfl, hS, World.ownsRow_nil _ _ _ _⟩)

/-- frame.Get. -/
theorem get_any (v : Value) (l : List UInt8) (a : Int) (w : World) (hl : l.length ≤ 140737488355328) (ha0 : -9223372036854775808 ≤ a) (ha1 : a ≤ 9223372036854775807) (hb : Sl w 1 v l.length (bc l)) :
    Calls Try.prog 25 #[v, .int .i64 a] w (GetPostF w (getF l a)) := by
  by_cases ho : a < 0 ∨ (l.length : Int) < a
  · rw [show getF l a = ([], 0, 2) by unfold getF; rw [if_pos ho]]
    obtain ⟨ao, c, rfl, _, _, _⟩ := hb.shape
    exact get_out ao _ c a w hl ha0 ha1 ho
  obtain ⟨a, rfl⟩ := Int.eq_ofNat_of_zero_le (show 0 ≤ a by omega)
  by_cases h6 : l.length < a + 6
  · rw [show getF l a = ([], 0, 4) by unfold getF; rw [if_neg ho, Int.toNat_natCast, if_pos h6]]
    obtain ⟨ao, c, rfl, hlc, _, _⟩ := hb.shape
    exact get_short ao _ c a w hl hlc (by omega) h6
  by_cases hn : l.length < a + 6 + frN l a
  · rw [show getF l a = ([], 0, 4) by unfold getF; rw [if_neg ho, Int.toNat_natCast, if_neg h6, if_pos hn]]
    exact get_long v l a w hl (by omega) hn hb
  refine get_full v l a w hl (by omega) hb _ _ rfl rfl _ (fun h => ?_) (fun h => ?_)
  · unfold getF; rw [if_neg ho, Int.toNat_natCast, if_neg h6, if_neg hn, if_pos h]
  · unfold getF; rw [if_neg ho, Int.toNat_natCast, if_neg h6, if_neg hn, if_neg (by simpa using h)]
end Go.Proofs.Ytecnjgiodnphcaa
