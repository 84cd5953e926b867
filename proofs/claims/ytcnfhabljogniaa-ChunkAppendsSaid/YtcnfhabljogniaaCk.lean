/- gaugelaw05.lives; the walk of ChunkEncodes. -/
import Derived.Test.YtcnfhabljogniaaCi
import Derived.Test.YtcnfhabljogniaaCf
namespace Go.Proofs.Ytcnfhabljogniaa
open Go.RowKit
set_option linter.unusedSimpArgs false

theorem enc1 : encV [(10, 5)] = ([3, 9, 65, 40], 0) := by decide +kernel
theorem dec0 : rdU [] 0 = none := by decide +kernel

set_option maxRecDepth 100000 in
set_option maxHeartbeats 1000000 in
theorem lives_any (w : World) : Calls Try.prog 18 #[] w fun e w' => e = .returned (.bool true) ∧ Below w.heap.size w w' := by
  have hE : EncPost (w.alloc (.cells #[.int .i64 10, .int .i64 5] 40)) (encV [(10, 5)]) = EncPost (w.alloc (.cells #[.int .i64 10, .int .i64 5] 40)) ([3, 9, 65, 40], 0) := by rw [enc1]
  have H1 := encode_any (.slice (some ⟨w.heap.size, 0, none⟩) 1 1) [(10, 5)] (w.alloc (.cells #[.int .i64 10, .int .i64 5] 40)) (by simp) (Sl.own (World.ownsRow_lit (base := w.heap.size) (size := 2) (e := 40) w #[.int .i64 10, .int .i64 5] 1 (Nat.le_refl _) (by decide) rfl))
  rw [hE] at H1
  have HE := hid H1; clear H1 hE
  have HD := hid (fun wx => decode_none (.slice none 0 0) [] wx (by simp) (Sl.nil wx 1) dec0)
  go_enter Try.func18, Try.ntmps18
  go_wp2_with fail
  refine HE.out.mono ?_
  rintro e w1 ⟨ao, c, rfl, hb1, hown1⟩
  have L1 := hid (((Below.refl w.heap.size w).alloc (Nat.le_refl _) (.cells #[.int .i64 10, .int .i64 5] 40)).trans (hb1.mono (by simp)))
  have O1 := hid hown1
  clear hb1 hown1
  go_wp2_with fail
  refine (HD.out w1).mono ?_
  rintro e w2 ⟨ao2, c2, rfl, hb2, hown2⟩
  have L2 := hid (L1.out.trans (hb2.mono L1.out.size))
  have q1 := run_convert_sl (P := Try.prog) w2 24 9 5 Try.underlying24 Try.underlying5 Try.underlying9 ((Sl.own O1.out).below hb2 (fun _ _ h => h))
  simp only [List.length_cons, List.length_nil, Nat.zero_add] at q1
  clear hb2 hown2
  go_wp2
  go_ret
  exact ⟨rfl, L2.out⟩

set_option maxRecDepth 100000 in
set_option maxHeartbeats 1000000 in
theorem walk_ChunkEncodes (w : World) (v : Value) (l : List (Int × Int)) (hb : Sl w 2 v l.length (sc l)) (_h64 : S64 l) (hl : l.length ≤ 8796093022208) :
    Calls Try.prog 3 #[v] w fun e w' => e = .returned (.bool true) ∧ Below w.heap.size w w' := by
  have Hb := hid hb
  obtain ⟨ao, c, rfl, _, _, _⟩ := hb.shape
  clear hb
  go_enter Try.func3, Try.ntmps3
  go_wp2_with fail
  refine (own_any _ l w (by omega) Hb.out).mono ?_
  rintro e w1 ⟨g1, c1, rfl, hb1, hown1⟩
  have L1 := hid hb1; have O1 := hid hown1
  clear hb1 hown1
  go_wp2_with fail
  refine (encode_any _ l w1 (by omega) (Sl.own O1.out)).mono ?_
  rintro e w2 ⟨ao2, c2, rfl, hb2, hown2⟩
  have S2 := hid ((Sl.own O1.out).below hb2 (fun _ _ h => h))
  have L2 := hid (L1.out.trans (hb2.mono L1.out.size)); have O2 := hid hown2
  clear hb2 hown2
  go_wp2_with fail
  refine (refEncode_any _ l w2 (by omega) (Hb.out.below L2.out (fun _ _ h => h))).mono ?_
  rintro e w3 ⟨ao3, c3, rfl, hb3, hown3⟩
  have S3 := hid (S2.out.below hb3 (fun _ _ h => h))
  have E3 := hid ((Sl.own O2.out).below hb3 (fun _ _ h => h))
  have L3 := hid (L2.out.trans (hb3.mono L2.out.size)); have O3 := hid hown3
  clear hb3 hown3 S2 O2
  generalize encV l = r at *
  go_wp2_with fail
  refine (check_any _ l w3 (by omega) S3.out).mono ?_
  rintro e w4 ⟨rfl, hb4⟩
  have S4 := hid (S3.out.below hb4 (fun _ _ h => h))
  have E4 := hid (E3.out.below hb4 (fun _ _ h => h))
  have F4 := hid ((Sl.own O3.out).below hb4 (fun _ _ h => h))
  have L4 := hid (L3.out.trans (hb4.mono L3.out.size))
  clear hb4 S3 E3 O3
  go_wp2_with fail
  refine (refCheck_any _ l w4 (by omega) (Hb.out.below L4.out (fun _ _ h => h))).mono ?_
  rintro e w5 ⟨rfl, hb5⟩
  have S5 := hid (S4.out.below hb5 (fun _ _ h => h))
  have L5 := hid (L4.out.trans (hb5.mono L4.out.size))
  have q1 := run_convert_sl (P := Try.prog) w5 24 9 5 Try.underlying24 Try.underlying5 Try.underlying9 (E4.out.below hb5 (fun _ _ h => h))
  have q2 := run_convert_sl (P := Try.prog) w5 24 9 5 Try.underlying24 Try.underlying5 Try.underlying9 (F4.out.below hb5 (fun _ _ h => h))
  clear hb5 E4 F4 S4
  go_wp2_with fail
  refine (same_any _ _ l l w5 S5.out (Hb.out.below L5.out (fun _ _ h => h))).mono ?_
  rintro e w6 ⟨rfl, hb6⟩
  have L6 := hid (L5.out.trans (hb6.mono L5.out.size))
  clear hb6 q1 q2
  rw [decide_eq_true (rfl : l = l)]
  go_wp2_with fail
  refine (lives_any w6).mono ?_
  rintro e w7 ⟨rfl, hb7⟩
  have L7 := hid (L6.out.trans (hb7.mono L6.out.size))
  clear hb7
  go_wp2
  go_ret
  exact ⟨rfl, L7.out⟩
end Go.Proofs.Ytcnfhabljogniaa
