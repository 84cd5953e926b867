/- The walk of FrameTexts. -/
import Derived.Test.YtecnjgiodnphcaaGa
namespace Go.Proofs.Ytecnjgiodnphcaa
open Go.RowKit

set_option maxRecDepth 100000 in
set_option maxHeartbeats 2000000 in
theorem walk_FrameTexts (w : World) (v : Value) (l : List UInt8) (hb : Sl w 1 v l.length (bc l)) (hl : l.length ≤ 140737488351232) (s : ByteArray) (hs : s.data.toList.length ≤ 140737488351232)
    (a : Int) (ha0 : -9223372036854775808 ≤ a) (ha : a ≤ 9223372036854775807) :
    Calls Try.prog 9 #[v, .string s, .int .i64 a] w fun e w' => e = .returned (.bool true) ∧ Below w.heap.size w w' := by
  have Hb := hid hb; clear hb
  have hs' : s.size ≤ 140737488351232 := by simpa using hs
  have hP := fun vx wx (hx : Sl wx 1 vx l.length (bc l)) => putText_any vx l s wx (by omega) (by omega) hx
  have hQ := fun vx wx (hx : Sl wx 1 vx l.length (bc l)) => refPutText_any vx l s wx (by omega) (by omega) hx
  have hG := fun vx wx (hx : Sl wx 1 vx l.length (bc l)) => getText_any vx l a wx (by omega) ha0 ha hx
  have hR := fun vx wx (hx : Sl wx 1 vx l.length (bc l)) => refGetText_any vx l a wx (by omega) ha0 ha hx
  have hrl := putT_len l s.data.toList
  obtain ⟨r, hr⟩ : ∃ r, r = putT l s.data.toList := ⟨_, rfl⟩
  obtain ⟨t, ht⟩ : ∃ t, t = getT l a := ⟨_, rfl⟩
  rw [← hr] at hP hQ hrl
  rw [← ht] at hG hR
  obtain ⟨r1, r2⟩ := r
  obtain ⟨t1, t2, t3⟩ := t
  simp only at hrl
  have HP := hid hP; have HQ := hid hQ; have HG := hid hG; have HR := hid hR
  clear hP hQ hG hR hr ht hs hs'
  go_enter Try.func9, Try.ntmps9
  go_wp2_with fail
  refine (lent_any v l w (by omega) Hb.out).mono ?_
  rintro e w1 ⟨g, cap, rfl, hb1, hown1⟩
  have L1 := hid hb1; have O1 := hid hown1; have s1' := hb1.size; clear hb1 hown1
  have I1 := hid (Sl.cut (Sl.own O1.out) (ys := bc l) l.length (by omega) (by simp [bc]))
  go_wp2_with fail
  refine (HP.out _ w1 I1.out).mono ?_
  rintro e w2 ⟨ao2, c2, rfl, hb2, hown2⟩
  have L2 := hid hb2; have O2 := hid hown2; have s2' := hb2.size; clear hb2 hown2
  have D2 := hid (L1.out.trans (L2.out.mono s1'))
  go_wp2_with fail
  refine (HQ.out v w2 (Hb.out.below D2.out (fun _ _ h => h))).mono ?_
  rintro e w3 ⟨ao3, c3, rfl, hb3, hown3⟩
  have L3 := hid hb3; have O3 := hid hown3; have s3' := hb3.size; clear hb3 hown3
  have o23 := own_below O2.out L3.out (Nat.le_refl _)
  have q1 := run_convert_sl (P := Try.prog) w3 22 9 5 Try.underlying22 Try.underlying5 Try.underlying9 (Sl.own o23)
  have q2 := run_convert_sl (P := Try.prog) w3 22 9 5 Try.underlying22 Try.underlying5 Try.underlying9 (Sl.own O3.out)
  have O23 := hid o23; clear o23
  go_wp2_with fail
  clear q1 q2
  refine (spoil_any _ r1 w1.heap.size w3 (by omega) O23.out).mono ?_
  rintro e w4 ⟨rfl, hg4, _, _, _⟩
  have L4 := hid ((Below.refl w1.heap.size w3).grown hg4 (by omega) (fun k hk => (O23.out.lt k hk).1))
  have s4' := hg4.size
  clear hg4
  have E4 := hid ((L2.out.trans (L3.out.mono s2')).trans L4.out)
  have D4 := hid ((D2.out.trans (L3.out.mono (by omega))).trans (L4.out.mono s1'))
  go_wp2_with fail
  refine (HG.out _ w4 (I1.out.below E4.out (fun _ _ h => h))).mono ?_
  unfold retT
  rintro e wz ⟨rfl, hwz⟩
  subst wz
  go_wp2_with fail
  refine (HR.out v w4 (Hb.out.below D4.out (fun _ _ h => h))).mono ?_
  unfold retT
  rintro e wz ⟨rfl, hwz⟩
  subst wz
  go_wp2_with fail
  refine (kept_any g cap v l w4 (by omega) (by have h := (Sl.own O1.out).below E4.out (fun _ _ h => h); exact h) (Hb.out.below D4.out (fun _ _ h => h))).mono ?_
  rintro e w5 ⟨rfl, hb5⟩
  have L5 := hid hb5; have s5' := hb5.size; clear hb5
  go_wp2_with fail
  refine (lives_any w5).mono ?_
  rintro e w6 ⟨rfl, hb6⟩
  have L6 := hid hb6; clear hb6
  go_wp2
  go_ret
  exact ⟨rfl, (D4.out.trans (L5.out.mono (by omega))).trans (L6.out.mono (by omega))⟩
end Go.Proofs.Ytecnjgiodnphcaa
