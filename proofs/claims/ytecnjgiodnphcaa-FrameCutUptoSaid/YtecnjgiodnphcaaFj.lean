/- The walk of FrameUints. -/
import Derived.Test.YtecnjgiodnphcaaFi
import Derived.Test.YtecnjgiodnphcaaFl
namespace Go.Proofs.Ytecnjgiodnphcaa
open Go.RowKit

theorem refGetUint_out (ao : Option Addr) (n c : Nat) (a : Int) (w : World) (hn : n ≤ 140737488355328) (ha0 : -9223372036854775808 ≤ a) (ha1 : a ≤ 9223372036854775807) (h : a < 0 ∨ (n : Int) < a) :
    Calls Try.prog 24 #[.slice ao n c, .int .i64 a] w fun e w' => e = retU (0, 0, 2) ∧ w' = w := by
  unfold retU
  rcases h with h | h
  · have hd : decide (a < 0) = true := by simpa using h
    go_enter Try.func24, Try.ntmps24
    go_wp2
    go_ret3
    exact ⟨rfl, rfl⟩
  · have hd : decide (a < 0) = false := by simp; omega
    have hd2 : decide ((n : Int) < a) = true := by simpa using h
    go_enter Try.func24, Try.ntmps24
    go_wp2
    go_ret3
    exact ⟨rfl, rfl⟩

/-- gaugeref02.GetUint. -/
theorem refGetUint_any (v : Value) (l : List UInt8) (a : Int) (w : World) (hl : l.length ≤ 140737488355328) (ha0 : -9223372036854775808 ≤ a) (ha1 : a ≤ 9223372036854775807) (hb : Sl w 1 v l.length (bc l)) :
    Calls Try.prog 24 #[v, .int .i64 a] w fun e w' => e = retU (getU l a) ∧ w' = w := by
  obtain ⟨ao, c, rfl, hlc, _, _⟩ := hb.shape
  by_cases ho : a < 0 ∨ (l.length : Int) < a
  · have e : getU l a = (0, 0, 2) := by unfold getU; rw [if_pos ho]
    rw [e]; exact refGetUint_out ao _ c a w hl ha0 ha1 ho
  · obtain ⟨m, rfl⟩ := Int.eq_ofNat_of_zero_le (show 0 ≤ a by omega)
    have e : getU l m = getG l m 9 0 0 := by unfold getU; rw [if_neg ho, Int.toNat_natCast]
    rw [e]
    exact refGetUint_in ao c l m w hl (by omega) hb

/-- PutUint in plain words. -/
def putU (l : List UInt8) (n : Int) : List UInt8 × Int := if n < 0 then ([], 2) else (l ++ uintL n.toNat, 0)
def PutUPost (w : World) (r : List UInt8 × Int) (e : Ending) (w' : World) : Prop :=
  ∃ ao c, e = .returned (.tuple #[.slice ao r.1.length c, .int .i64 r.2]) ∧ Below w.heap.size w w' ∧ w'.ownsRow w.heap.size 5 1 (.slice ao r.1.length c) r.1.length (bc r.1)
theorem putU_len (l : List UInt8) (n : Int) : (putU l n).1.length ≤ l.length + 9 := by
  unfold putU
  split
  · simp
  · have : (uintL n.toNat).length ≤ 9 := uintF_length 8 _
    simp; omega

theorem putUint_any (v : Value) (l : List UInt8) (n : Int) (w : World) (hl : l.length ≤ 140737488355000) (hn : n ≤ 9223372036854775807) (hb : Sl w 1 v l.length (bc l)) :
    Calls Try.prog 21 #[v, .int .i64 n] w (PutUPost w (putU l n)) := by
  by_cases h : n < 0
  · have e : putU l n = ([], 2) := by unfold putU; rw [if_pos h]
    rw [e]
    exact (putUint_neg v n w h).mono fun e w' ⟨he, hw⟩ => ⟨none, 0, he, by rw [hw]; exact Below.refl _ _, World.ownsRow_nil _ _ _ _⟩
  · obtain ⟨m, rfl⟩ := Int.eq_ofNat_of_zero_le (show 0 ≤ n by omega)
    have e : putU l m = (l ++ uintL m, 0) := by unfold putU; rw [if_neg h, Int.toNat_natCast]
    rw [e]
    exact (putUint_pos v l m w hl (by omega) hb).mono fun e w' ⟨g, cap, he, h1, h2⟩ => ⟨some ⟨g, 0, none⟩, cap, he, h1, h2⟩
theorem refPutUint_any (v : Value) (l : List UInt8) (n : Int) (w : World) (hl : l.length ≤ 140737488355000) (hn : n ≤ 9223372036854775807) (hb : Sl w 1 v l.length (bc l)) :
    Calls Try.prog 22 #[v, .int .i64 n] w (PutUPost w (putU l n)) := by
  by_cases h : n < 0
  · have e : putU l n = ([], 2) := by unfold putU; rw [if_pos h]
    rw [e]
    exact (refPutUint_neg v n w h).mono fun e w' ⟨he, hw⟩ => ⟨none, 0, he, by rw [hw]; exact Below.refl _ _, World.ownsRow_nil _ _ _ _⟩
  · obtain ⟨m, rfl⟩ := Int.eq_ofNat_of_zero_le (show 0 ≤ n by omega)
    have e : putU l m = (l ++ uintL m, 0) := by unfold putU; rw [if_neg h, Int.toNat_natCast]
    rw [e]
    exact (refPutUint_pos v l m w hl (by omega) hb).mono fun e w' ⟨g, cap, he, h1, h2⟩ => ⟨some ⟨g, 0, none⟩, cap, he, h1, h2⟩

set_option maxRecDepth 100000 in
set_option maxHeartbeats 2000000 in
theorem walk_FrameUints (w : World) (v : Value) (l : List UInt8) (hb : Sl w 1 v l.length (bc l)) (hl : l.length ≤ 140737488351232) (n : Int) (hn0 : -9223372036854775808 ≤ n) (hn : n ≤ 9223372036854775807)
    (a : Int) (ha0 : -9223372036854775808 ≤ a) (ha : a ≤ 9223372036854775807) :
    Calls Try.prog 6 #[v, .int .i64 n, .int .i64 a] w fun e w' => e = .returned (.bool true) ∧ Below w.heap.size w w' := by
  have Hb := hid hb; clear hb
  have hP := fun vx wx (hx : Sl wx 1 vx l.length (bc l)) => putUint_any vx l n wx (by omega) hn hx
  have hQ := fun vx wx (hx : Sl wx 1 vx l.length (bc l)) => refPutUint_any vx l n wx (by omega) hn hx
  have hG := fun vx wx (hx : Sl wx 1 vx l.length (bc l)) => getUint_any vx l a wx (by omega) ha0 ha hx
  have hR := fun vx wx (hx : Sl wx 1 vx l.length (bc l)) => refGetUint_any vx l a wx (by omega) ha0 ha hx
  have hrl := putU_len l n
  obtain ⟨r, hr⟩ : ∃ r, r = putU l n := ⟨_, rfl⟩
  obtain ⟨s, hs⟩ : ∃ s, s = getU l a := ⟨_, rfl⟩
  rw [← hr] at hP hQ hrl
  rw [← hs] at hG hR
  obtain ⟨r1, r2⟩ := r
  obtain ⟨s1, s2, s3⟩ := s
  simp only at hrl
  have HP := hid hP; have HQ := hid hQ; have HG := hid hG; have HR := hid hR
  clear hP hQ hG hR hr hs
  go_enter Try.func6, Try.ntmps6
  go_wp2_with fail
  refine (lent_any v l w (by omega) Hb.out).mono ?_
  rintro e w1 ⟨g, cap, rfl, hb1, hown1⟩
  have L1 := hid hb1; have O1 := hid hown1; have s1' := hb1.size; clear hb1 hown1
  have I1 := hid (Sl.cut (Sl.own O1.out) (ys := bc l) l.length (by omega) (by simp [bc]))
  go_wp2_with fail
  refine (HP.out _ w1 I1.out).mono ?_
  rintro e w2 ⟨ao2, c2, rfl, hb2, hown2⟩
  have L2 := hid hb2; have O2 := hid hown2; have s2' := hb2.size; clear hb2 hown2
  have D2 := hid (L1.out.trans (L2.out.mono s1'))
  go_wp2_with fail
  refine (HQ.out v w2 (Hb.out.below D2.out (fun _ _ h => h))).mono ?_
  rintro e w3 ⟨ao3, c3, rfl, hb3, hown3⟩
  have L3 := hid hb3; have O3 := hid hown3; have s3' := hb3.size; clear hb3 hown3
  have o23 := own_below O2.out L3.out (Nat.le_refl _)
  have q1 := run_convert_sl (P := Try.prog) w3 22 9 5 Try.underlying22 Try.underlying5 Try.underlying9 (Sl.own o23)
  have q2 := run_convert_sl (P := Try.prog) w3 22 9 5 Try.underlying22 Try.underlying5 Try.underlying9 (Sl.own O3.out)
  have O23 := hid o23; clear o23
  go_wp2_with fail
  clear q1 q2
  refine (spoil_any _ r1 w1.heap.size w3 (by omega) O23.out).mono ?_
  rintro e w4 ⟨rfl, hg4, _, _, _⟩
  have L4 := hid ((Below.refl w1.heap.size w3).grown hg4 (by omega) (fun k hk => (O23.out.lt k hk).1))
  have s4' := hg4.size
  clear hg4
  have E4 := hid ((L2.out.trans (L3.out.mono s2')).trans L4.out)
  have D4 := hid ((D2.out.trans (L3.out.mono (by omega))).trans (L4.out.mono s1'))
  go_wp2_with fail
  refine (HG.out _ w4 (I1.out.below E4.out (fun _ _ h => h))).mono ?_
  unfold retU
  rintro e wz ⟨rfl, hwz⟩
  subst wz
  go_wp2_with fail
  refine (HR.out v w4 (Hb.out.below D4.out (fun _ _ h => h))).mono ?_
  unfold retU
  rintro e wz ⟨rfl, hwz⟩
  subst wz
  go_wp2_with fail
  refine (kept_any g cap v l w4 (by omega) (by have h := (Sl.own O1.out).below E4.out (fun _ _ h => h); exact h) (Hb.out.below D4.out (fun _ _ h => h))).mono ?_
  rintro e w5 ⟨rfl, hb5⟩
  have L5 := hid hb5; have s5' := hb5.size; clear hb5
  go_wp2_with fail
  refine (lives_any w5).mono ?_
  rintro e w6 ⟨rfl, hb6⟩
  have L6 := hid hb6; clear hb6
  go_wp2
  go_ret
  exact ⟨rfl, (D4.out.trans (L5.out.mono (by omega))).trans (L6.out.mono (by omega))⟩
end Go.Proofs.Ytecnjgiodnphcaa
