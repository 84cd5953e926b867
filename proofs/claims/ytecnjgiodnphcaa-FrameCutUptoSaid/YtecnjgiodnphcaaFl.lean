/- gaugelaw02.lives; the walk of FrameSums. -/
import Derived.Test.YtecnjgiodnphcaaFu
import Derived.Test.YtecnjgiodnphcaaFk
import Derived.Lib.SlBytesConst
namespace Go.Proofs.Ytecnjgiodnphcaa
open Go.RowKit

theorem livesF1 : uintL 300 = [172, 2] := by decide +kernel
theorem livesF2 : sumL [49, 50, 51, 52, 53, 54, 55, 56, 57] = 3808858755 := by decide +kernel

set_option maxHeartbeats 1000000 in
theorem lives_any (w : World) : Calls Try.prog 17 #[] w fun e w' => e = .returned (.bool true) ∧ Below w.heap.size w w' := by
  have h1 := fun wx => putUint_pos (.slice none 0 0) [] 300 wx (by simp) (by omega) (Sl.nil wx 1)
  rw [livesF1] at h1
  have H1 := hid h1; clear h1
  go_enter Try.func17, Try.ntmps17
  go_wp2_with fail
  refine (H1.out _).mono ?_
  rintro e w1 ⟨g, cap, rfl, hb1, hown1⟩
  have q1 := run_convert_sl (P := Try.prog) w1 22 9 5 Try.underlying22 Try.underlying5 Try.underlying9 (Sl.own hown1)
  simp only [List.nil_append, List.length_cons, List.length_nil, Nat.zero_add] at q1 ⊢
  have hsum := sum_any (.slice (some ⟨w1.heap.size, 0, none⟩) 9 9) [49, 50, 51, 52, 53, 54, 55, 56, 57] (w1.alloc (.cells #[.int .u8 49, .int .u8 50, .int .u8 51, .int .u8 52, .int .u8 53, .int .u8 54, .int .u8 55, .int .u8 56, .int .u8 57] 5 (9, 10))) (by simp)
    (Sl.blk (blk_new w1 _ _ rfl) 9 _ rfl rfl (by simp [maxLen]))
  rw [livesF2] at hsum
  have kc := fun (w : World) (C : Array Value) (n c : Nat) => Lib.run_convert_bytes_const (P := Try.prog) w 22 5 C n c Try.underlying22 Try.underlying5
  have HS := hid hsum; have O1 := hid hown1; have B1 := hid hb1; clear hsum hown1 hb1
  go_wp2_with (go_at_call 14; refine HS.out.mono ?_; rintro e w2 ⟨rfl, hb2⟩)
  go_ret
  exact ⟨rfl, (B1.out.alloc B1.out.size _).trans (hb2.mono (by have := B1.out.size; simp; omega))⟩

set_option maxHeartbeats 1000000 in
theorem walk_FrameSums (w : World) (v : Value) (l : List UInt8) (hb : Sl w 1 v l.length (bc l)) (hl : l.length ≤ 140737488351232) :
    Calls Try.prog 3 #[v] w fun e w' => e = .returned (.bool true) ∧ Below w.heap.size w w' := by
  have Hb := hid hb; clear hb
  go_enter Try.func3, Try.ntmps3
  go_wp2_with fail
  refine (lent_any v l w (by omega) Hb.out).mono ?_
  rintro e w1 ⟨g, cap, rfl, hb1, hown1⟩
  have B1 := hid hb1; have O1 := hid hown1; clear hb1 hown1
  have hx : Sl w1 1 (.slice (some ⟨g, 0, none⟩) l.length cap) l.length (bc l) := Sl.cut (Sl.own O1.out) l.length (by omega) (by simp [bc])
  have hg := (O1.out.lt g rfl).2
  have Hx := hid hx; clear hx
  go_wp2_with fail
  refine (sum_any _ l w1 (by omega) Hx.out).mono ?_
  rintro e w2 ⟨rfl, hb2⟩
  have B2 := hid hb2; clear hb2
  have Hv1 := hid (Hb.out.below B1.out (fun k _ h => h))
  have Hv2 := hid (Hv1.out.below B2.out (fun k _ h => h))
  go_wp2_with fail
  refine (refSum_any v l w2 (by omega) Hv2.out).mono ?_
  rintro e wz ⟨rfl, hwz⟩
  subst wz
  go_wp2_with fail
  refine (kept_any g cap v l w2 (by omega) ((Sl.own O1.out).below B2.out (fun k _ h => h) |> fun h => by simpa using h) Hv2.out).mono ?_
  rintro e w3 ⟨rfl, hb3⟩
  have B3 := hid hb3; clear hb3
  go_wp2_with fail
  refine (lives_any w3).mono ?_
  rintro e w4 ⟨rfl, hb4⟩
  have B4 := hid hb4; clear hb4
  go_wp2
  go_ret
  have s1 := B1.out.size
  have s2 := B2.out.size
  have s3 := B3.out.size
  exact ⟨rfl, ((B1.out.trans (B2.out.mono s1)).trans (B3.out.mono (by omega))).trans (B4.out.mono (by omega))⟩
end Go.Proofs.Ytecnjgiodnphcaa
