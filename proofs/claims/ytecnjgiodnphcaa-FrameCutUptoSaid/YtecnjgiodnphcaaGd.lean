/- The reference's Get. -/
import Derived.Test.YtecnjgiodnphcaaGc
import Derived.Deep.RegionWith
namespace Go.Proofs.Ytecnjgiodnphcaa
open Go.RowKit

theorem refGet_out (ao : Option Addr) (n c : Nat) (a : Int) (w : World) (hn : n ≤ 140737488355328) (ha0 : -9223372036854775808 ≤ a) (ha1 : a ≤ 9223372036854775807) (h : a < 0 ∨ (n : Int) < a) :
    Calls Try.prog 30 #[.slice ao n c, .int .i64 a] w (GetPostF w ([], 0, 2)) := by
  rcases h with h | h
  · have hd : decide (a < 0) = true := by simpa using h
    go_enter Try.func30, Try.ntmps30
    go_wp2
    go_ret3
    exact ⟨none, 0, rfl, Below.refl _ _, World.ownsRow_nil _ _ _ _⟩
  · have hd : decide (a < 0) = false := by simp; omega
    have hd2 : decide ((n : Int) < a) = true := by simpa using h
    go_enter Try.func30, Try.ntmps30
    go_wp2
    go_ret3
    exact ⟨none, 0, rfl, Below.refl _ _, World.ownsRow_nil _ _ _ _⟩

theorem refGet_short (ao : Option Addr) (n c a : Nat) (w : World) (hn : n ≤ 140737488355328) (ha : a ≤ n) (h : n < a + 6) :
    Calls Try.prog 30 #[.slice ao n c, .int .i64 a] w (GetPostF w ([], 0, 4)) := by
  have hd : decide ((a : Int) < 0) = false := by simp
  have hd2 : decide ((n : Int) < (a : Int)) = false := by simp; omega
  have i3 : (n : Int) - a < 6 := by omega
  go_enter Try.func30, Try.ntmps30
  go_wp2
  go_ret3
  exact ⟨none, 0, rfl, Below.refl _ _, World.ownsRow_nil _ _ _ _⟩

theorem ref_len (x y : Nat) (hx : x < 256) (hy : y < 256) : wrap64 (wrap64 ((x : Int) * 256) + (y : Int)) = ((x * 256 + y : Nat) : Int) := by
  rw [IntWalk.wrap64_in ((x : Int) * 256) ⟨by omega, by omega⟩, IntWalk.wrap64_in _ ⟨by omega, by omega⟩]
  omega

set_option maxRecDepth 100000 in
set_option maxHeartbeats 2000000 in
theorem refGet_long (v : Value) (l : List UInt8) (a : Nat) (w : World) (hl : l.length ≤ 140737488355328) (h6 : a + 6 ≤ l.length) (hs : l.length < a + 6 + frN l a) (hb : Sl w 1 v l.length (bc l)) :
    Calls Try.prog 30 #[v, .int .i64 a] w (GetPostF w ([], 0, 4)) := by
  obtain ⟨b, off, c, rfl, hlc, _, _, hcell⟩ := hb.form (by decide) (by omega)
  have hc0 := hcell a (by omega)
  have hc1 := hcell (a + 1) (by omega)
  rw [bc_get _ _ (by omega)] at hc0 hc1
  have hN : frN l a = (l.getD a 0).toNat * 256 + (l.getD (a + 1) 0).toNat := rfl
  have hN6 := frN_lt l a
  have hz0 := UInt8.toNat_lt (l.getD a 0)
  have hz1 := UInt8.toNat_lt (l.getD (a + 1) 0)
  generalize frN l a = n at *
  generalize (l.getD a 0).toNat = z0 at *
  generalize (l.getD (a + 1) 0).toNat = z1 at *
  have hor : (z0 : Int) * 256 + z1 = (n : Int) := by omega
  have hd : decide ((a : Int) < 0) = false := by simp
  have hd2 : decide ((l.length : Int) < (a : Int)) = false := by simp; omega
  have i0 : (0 : Int) ≤ (a : Int) := by omega
  have i1 : (a : Int) < (l.length : Int) := by omega
  have i2 : (0 : Int) ≤ (a : Int) + 1 := by omega
  have i3 : ¬ (l.length : Int) - a < 6 := by omega
  have i5 : (a : Int) + 1 < (l.length : Int) := by omega
  have i6 : (l.length : Int) - a - 6 < n := by omega
  have t1 : ((a : Int) + 1).toNat = a + 1 := by omega
  have k1 : IntKind.i64.wrap ((a : Int) + 1) = a + 1 := IntWalk.i64_in _ (by omega)
  have k2 : IntKind.i64.wrap ((z0 : Int) * 256) = (z0 : Int) * 256 := IntWalk.i64_in _ (by omega)
  have k3 : IntKind.i64.wrap ((z0 : Int) * 256 + z1) = (n : Int) := by rw [hor]; exact IntWalk.i64_in _ (by omega)
  have k4 : IntKind.i64.wrap (n : Int) = (n : Int) := IntWalk.i64_in _ (by omega)
  clear hN hb hcell
  go_enter Try.func30, Try.ntmps30
  go_wp2
  go_quiet (fail)
  clear k1 k2 k3 k4 hor t1
  go_wp2
  go_ret3
  exact ⟨none, 0, rfl, Below_drewN (Below.refl _ _) _, World.ownsRow_nil _ _ _ _⟩

theorem drop_two (l : List UInt8) (a : Nat) (h : a + 2 ≤ l.length) : l.drop a = l.getD a 0 :: l.getD (a + 1) 0 :: l.drop (a + 2) := by
  rw [List.drop_eq_getElem_cons (show a < l.length by omega), List.drop_eq_getElem_cons (show a + 1 < l.length by omega)]
  simp [List.getD, show a < l.length by omega, show a + 1 < l.length by omega]
theorem hd2_drop (l : List UInt8) (a : Nat) (h : a + 2 ≤ l.length) : hd2 (frN l a) ++ (l.drop (a + 2)).take (frN l a) = (l.drop a).take (2 + frN l a) := by
  have h0 := UInt8.toNat_lt (l.getD a 0)
  have h1 := UInt8.toNat_lt (l.getD (a + 1) 0)
  have e1 : UInt8.ofNat (frN l a / 256) = l.getD a 0 := by
    rw [show frN l a / 256 = (l.getD a 0).toNat by unfold frN; omega, UInt8.ofNat_toNat]
  have e2 : UInt8.ofNat (frN l a % 256) = l.getD (a + 1) 0 := by
    rw [show frN l a % 256 = (l.getD (a + 1) 0).toNat by unfold frN; omega, UInt8.ofNat_toNat]
  rw [drop_two l a h, Nat.add_comm 2, List.take_succ_cons, List.take_succ_cons, hd2, e1, e2]
  rfl
theorem frame_iff (l : List UInt8) (a : Nat) (h : a + 6 + frN l a ≤ l.length) :
    frameL ((l.drop (a + 2)).take (frN l a)) = (l.drop a).take (6 + frN l a) ↔ le4 (sumL ((l.drop a).take (2 + frN l a))) = (l.drop (a + (2 + frN l a))).take 4 := by
  have hl : ((l.drop (a + 2)).take (frN l a)).length = frN l a := by simp; omega
  have e1 : (l.drop a).take (6 + frN l a) = (l.drop a).take (2 + frN l a) ++ (l.drop (a + (2 + frN l a))).take 4 := by
    rw [show 6 + frN l a = (2 + frN l a) + 4 by omega, List.take_add, List.drop_drop]
  unfold frameL
  rw [hl, hd2_drop l a (by omega), e1]
  exact List.append_cancel_left_eq _ _ _ |>.to_iff

set_option maxRecDepth 100000 in
set_option maxHeartbeats 2000000 in
theorem refGet_full (v : Value) (l : List UInt8) (a : Nat) (w : World) (hl : l.length ≤ 140737488355328) (hs : a + 6 + frN l a ≤ l.length) (hb : Sl w 1 v l.length (bc l)) (F T : List UInt8) (hF : F = frameL ((l.drop (a + 2)).take (frN l a))) (hT : T = (l.drop a).take (6 + frN l a)) (r : List UInt8 × Int × Int) (hr1 : F ≠ T → r = ([], 0, 5)) (hr2 : F = T → r = ((l.drop (a + 2)).take (frN l a), (a : Int) + 6 + frN l a, 0)) :
    Calls Try.prog 30 #[v, .int .i64 a] w (GetPostF w r) := by
  obtain ⟨b, off, c, rfl, hlc, _, hbl, hcell⟩ := hb.form (by decide) (by omega)
  have hc0 := hcell a (by omega)
  have hc1 := hcell (a + 1) (by omega)
  rw [bc_get _ _ (by omega)] at hc0 hc1
  have hN : frN l a = (l.getD a 0).toNat * 256 + (l.getD (a + 1) 0).toNat := rfl
  have hN6 := frN_lt l a
  have hz0 := UInt8.toNat_lt (l.getD a 0)
  have hz1 := UInt8.toNat_lt (l.getD (a + 1) 0)
  generalize frN l a = n at *
  have hTl : T.length = 6 + n := by rw [hT]; simp; omega
  have hXl : ((l.drop (a + 2)).take n).length = n := by simp; omega
  have s3 := Sl.cut (Sl.drop hb (ys := bc (l.drop a)) a (by omega) (by simp [bc])) (ys := bc T) (6 + n) (by omega) (by simp [bc, hT])
  have s4 := Sl.cut (Sl.drop hb (ys := bc (l.drop (a + 2))) (a + 2) (by omega) (by simp [bc])) (ys := bc ((l.drop (a + 2)).take n)) n (by omega) (by simp [bc])
  generalize (l.drop (a + 2)).take n = X at *
  generalize (l.getD a 0).toNat = z0 at *
  generalize (l.getD (a + 1) 0).toNat = z1 at *
  have hor : (z0 : Int) * 256 + z1 = (n : Int) := by omega
  have hd : decide ((a : Int) < 0) = false := by simp
  have hd2 : decide ((l.length : Int) < (a : Int)) = false := by simp; omega
  have i0 : (0 : Int) ≤ (a : Int) := by omega
  have i1 : (a : Int) < (l.length : Int) := by omega
  have i2 : (0 : Int) ≤ (a : Int) + 1 := by omega
  have i3 : ¬ (l.length : Int) - a < 6 := by omega
  have i5 : (a : Int) + 1 < (l.length : Int) := by omega
  have i6 : ¬ (l.length : Int) - a - 6 < n := by omega
  have t1 : ((a : Int) + 1).toNat = a + 1 := by omega
  have k1 : IntKind.i64.wrap ((a : Int) + 1) = a + 1 := IntWalk.i64_in _ (by omega)
  have k2 : IntKind.i64.wrap ((z0 : Int) * 256) = (z0 : Int) * 256 := IntWalk.i64_in _ (by omega)
  have k3 : IntKind.i64.wrap ((z0 : Int) * 256 + z1) = (n : Int) := by rw [hor]; exact IntWalk.i64_in _ (by omega)
  have k4 : IntKind.i64.wrap (n : Int) = (n : Int) := IntWalk.i64_in _ (by omega)
  have S3 := hid s3; have S4 := hid s4
  have HT := hid hTl; have HX := hid hXl; have R1 := hid hr1; have R2 := hid hr2; have HF := hid hF
  clear hN hb hcell s3 s4 hT hTl hXl hr1 hr2 hF
  go_enter Try.func30, Try.ntmps30
  go_wp2
  go_quiet (fail)
  rename_i nq
  clear k1 k2 k3 k4 hor t1
  have L0 : Below w.heap.size w (w.drewN nq) := Below_drewN (Below.refl _ _) _
  have z0' : w.heap.size ≤ (w.drewN nq).heap.size := L0.size
  generalize w.drewN nq = W0 at *
  have j0 : (0 : Int) ≤ (a : Int) + 2 := by omega
  have j1 : (a : Int) + 2 < (c : Int) := by omega
  have j2 : (a : Int) + 2 ≤ (a : Int) + 2 + n := by omega
  have j3 : (a : Int) + 2 + n ≤ (c : Int) := by omega
  have en : a + 2 + n - (a + 2) = n := by omega
  have S4' := hid (show Sl w 1 (.slice (some ⟨b, off + (a + 2), none⟩) (a + 2 + n - (a + 2)) (c - (a + 2))) (a + 2 + n - (a + 2)) (bc X) by rw [en]; exact S4.out)
  have EN := hid en; clear en
  go_wp2_with (at_builtin; refine wpList_appS rfl (.tmp 42) (.tmp 50) 22 rfl w.heap.size (.slice (some ⟨W0.heap.size, 0, none⟩) 0 0) 0 [] rfl (own_made _ _ 0 W0.heap.size rfl z0' (by unfold maxLen; omega) (by simp)) (.slice (some ⟨b, off + (a + 2), none⟩) (a + 2 + n - (a + 2)) (c - (a + 2))) (a + 2 + n - (a + 2)) X rfl (Src.ofSl Try.underlying22 ((S4'.out.below L0 (fun _ _ h => h)).alloc _) (bc_one X)) (.inl (by simp)) (by have := EN.out; omega) (by simp; omega) _ rfl ?_; intro g1 cap1 w1 hown1 hgrow1 hbel1 hsz1 hat1; rw [EN.out, Nat.zero_add, List.nil_append] at hown1; rw [EN.out, Nat.zero_add]; have O1 := hid hown1; have L1 := hid (hbel1 w (L0.alloc z0' _)); clear hown1 hgrow1 hbel1 hat1)
  clear L0 z0'
  have hfr : Calls Try.prog 37 #[.slice (some ⟨g1, 0, none⟩) n cap1] w1 fun e w' => ∃ g cap, e = .returned (.slice (some ⟨g, 0, none⟩) F.length cap) ∧ Below w1.heap.size w1 w' ∧ Sl w' 1 (.slice (some ⟨g, 0, none⟩) F.length cap) F.length (bc F) := by
    have h := refFrame_any (.slice (some ⟨g1, 0, none⟩) n cap1) X w1 (by have := HX.out; omega) (by rw [HX.out]; exact Sl.own O1.out)
    rw [← HF.out] at h
    exact h.mono fun e w' ⟨g, cap, he, h1, h2⟩ => ⟨g, cap, he, h1, Sl.own h2⟩
  have hfr2 : Calls Try.prog 37 #[.slice (some ⟨g1, 0, none⟩) n cap1] w1.drew fun e w' => ∃ g cap, e = .returned (.slice (some ⟨g, 0, none⟩) F.length cap) ∧ Below w1.heap.size w1 w' ∧ Sl w' 1 (.slice (some ⟨g, 0, none⟩) F.length cap) F.length (bc F) := by
    have h := refFrame_any (.slice (some ⟨g1, 0, none⟩) n cap1) X w1.drew (by have := HX.out; omega) (by rw [HX.out]; exact (Sl.own O1.out).drew)
    rw [← HF.out] at h
    exact h.mono fun e w' ⟨g, cap, he, h1, h2⟩ => ⟨g, cap, he, ((Below.refl _ _).drew).trans h1, Sl.own h2⟩
  have HFr := hid hfr; have HFr2 := hid hfr2
  clear hfr hfr2
  have q2 : ∀ wx, Below w.heap.size w wx → (convert 22 9 (.slice (some ⟨b, off + a, none⟩) (a + 6 + n - a) (c - a))).run Try.prog wx = .ok (.string ⟨T.toArray⟩) wx := fun wx hx => by
    rw [show a + 6 + n - a = 6 + n by omega]
    exact run_convert_sl (P := Try.prog) wx 22 9 5 Try.underlying22 Try.underlying5 Try.underlying9 (S3.out.below hx (fun _ _ h => h))
  have q3 : ∀ wx, Below w.heap.size w wx → (convert 22 9 (.slice (some ⟨b, off + a, none⟩) (6 + n) (c - a))).run Try.prog wx = .ok (.string ⟨T.toArray⟩) wx := fun wx hx =>
    run_convert_sl (P := Try.prog) wx 22 9 5 Try.underlying22 Try.underlying5 Try.underlying9 (S3.out.below hx (fun _ _ h => h))
  have M1 : Below w.heap.size w w1 := L1.out
  have M2 : Below w.heap.size w w1.drew := L1.out.drew
  have j4 : (0 : Int) ≤ (a : Int) + 6 + n := by omega
  have j5 : (a : Int) ≤ (a : Int) + 6 + n := by omega
  have j6 : (a : Int) + 6 + n ≤ (c : Int) := by omega
  have j7 : (a : Int) < (c : Int) := by omega
  have t6 : ((a : Int) + 6 + n).toNat = a + 6 + n := by omega
  have k1 : IntKind.i64.wrap ((a : Int) + 6) = a + 6 := IntWalk.i64_in _ (by omega)
  have k6 : IntKind.i64.wrap ((a : Int) + 6 + n) = a + 6 + n := IntWalk.i64_in _ (by omega)
  go_wp2_with fail
  go_region_with (first
      | (go_at_call 37; (first | (with_reducible refine HFr.out.mono ?_) | (with_reducible refine HFr2.out.mono ?_)); rintro e w2 ⟨g2, c2, rfl, hb2, hsl2⟩; have hS := L1.out.trans (hb2.mono M1.size); have hS1 := hS.drew; have hB2 := hid hb2; have Q1 := (fun (wx : World) (hx : Below w2.heap.size w2 wx) => run_convert_sl (P := Try.prog) wx 22 9 5 Try.underlying22 Try.underlying5 Try.underlying9 (hsl2.below hx (fun _ _ h => h))); have hT := Below.refl w2.heap.size w2; have hT1 := hT.drew; clear hb2))
  all_goals clear k1 k6 t6 q2 q3
  all_goals (go_wp2_with fail)
  all_goals first
    | (have hr := R1.out (by have h : (!F == T) = true := (by assumption); simpa using h)
       go_ret3
       rw [hr]
       exact ⟨none, 0, rfl, hS, World.ownsRow_nil _ _ _ _⟩)
    | (have hr := R2.out (by have h : (!F == T) = false := (by assumption); simpa using h)
       go_ret3
       rw [hr]
       have o5 := own_below O1.out hB2.out (Nat.le_refl _)
       rw [← HX.out] at o5
       refine ⟨some ⟨g1, 0, none⟩, cap1, ?_, hS, o5⟩
       rw [HX.out]; rfl)

/-- gaugeref02.Get. -/
theorem refGet_any (v : Value) (l : List UInt8) (a : Int) (w : World) (hl : l.length ≤ 140737488355328) (ha0 : -9223372036854775808 ≤ a) (ha1 : a ≤ 9223372036854775807) (hb : Sl w 1 v l.length (bc l)) :
    Calls Try.prog 30 #[v, .int .i64 a] w (GetPostF w (getF l a)) := by
  by_cases ho : a < 0 ∨ (l.length : Int) < a
  · rw [show getF l a = ([], 0, 2) by unfold getF; rw [if_pos ho]]
    obtain ⟨ao, c, rfl, _, _, _⟩ := hb.shape
    exact refGet_out ao _ c a w hl ha0 ha1 ho
  obtain ⟨a, rfl⟩ := Int.eq_ofNat_of_zero_le (show 0 ≤ a by omega)
  by_cases h6 : l.length < a + 6
  · rw [show getF l a = ([], 0, 4) by unfold getF; rw [if_neg ho, Int.toNat_natCast, if_pos h6]]
    obtain ⟨ao, c, rfl, hlc, _, _⟩ := hb.shape
    exact refGet_short ao _ c a w hl (by omega) h6
  by_cases hn : l.length < a + 6 + frN l a
  · rw [show getF l a = ([], 0, 4) by unfold getF; rw [if_neg ho, Int.toNat_natCast, if_neg h6, if_pos hn]]
    exact refGet_long v l a w hl (by omega) hn hb
  have hi := frame_iff l a (by omega)
  refine refGet_full v l a w hl (by omega) hb _ _ rfl rfl _ (fun h => ?_) (fun h => ?_)
  · unfold getF; rw [if_neg ho, Int.toNat_natCast, if_neg h6, if_neg hn, if_pos (fun h' => h (hi.2 h'))]
  · unfold getF; rw [if_neg ho, Int.toNat_natCast, if_neg h6, if_neg hn, if_neg (fun h' => h' (hi.1 h))]
end Go.Proofs.Ytecnjgiodnphcaa
