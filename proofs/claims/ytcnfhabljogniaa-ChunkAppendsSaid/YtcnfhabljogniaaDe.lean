/- The walks of ChunkBack and ChunkOne. -/
import Derived.Test.YtcnfhabljogniaaDd
namespace Go.Proofs.Ytcnfhabljogniaa
open Go.RowKit
set_option linter.unusedSimpArgs false

theorem decV_err (F : List UInt8) : decV F = ([], 5) ∨ (decV F).2 = 0 := by
  unfold decV
  split
  · exact .inl rfl
  · split
    · exact .inl rfl
    · split
      · exact .inl rfl
      · split
        · exact .inl rfl
        · exact .inr rfl

set_option maxRecDepth 100000 in
set_option maxHeartbeats 1000000 in
theorem walk_ChunkOne (w : World) (v : Value) (l : List UInt8) (hb : Sl w 1 v l.length (bc l)) (hl : l.length ≤ 140737488351232) :
    Calls Try.prog 5 #[v] w fun e w' => e = .returned (.bool true) ∧ Below w.heap.size w w' := by
  have Hb := hid hb
  have HD := hid (decode_any v l w (by omega) hb)
  clear hb
  rcases decV_err l with h5 | h0
  · rw [h5] at HD
    go_enter Try.func5, Try.ntmps5
    go_wp2_with fail
    refine HD.out.mono ?_
    rintro e w1 ⟨ao1, c1, rfl, hb1, hown1⟩
    have L1 := hid hb1
    clear hb1 hown1
    go_wp2_with fail
    refine (lives_any w1).mono ?_
    rintro e w2 ⟨rfl, hb2⟩
    have L2 := hid (L1.out.trans (hb2.mono L1.out.size))
    clear hb2
    go_wp2
    go_ret
    exact ⟨rfl, L2.out⟩
  · obtain ⟨s, er, hs⟩ : ∃ s er, decV l = (s, er) := ⟨_, _, rfl⟩
    rw [hs] at h0
    simp only at h0
    subst h0
    have hE := dec_enc hs
    rw [hs] at HD
    have h120 : s.length ≤ 120 := by
      unfold encV at hE
      split at hE
      · rename_i hc; exact (chkL_zero hc).2.1
      · rename_i hc; simp only [Prod.mk.injEq] at hE; exact absurd hE.2 hc
    have HE := hid hE
    clear hE hs
    obtain ⟨ao, c, rfl, _, _, _⟩ := Hb.out.shape
    go_enter Try.func5, Try.ntmps5
    go_wp2_with fail
    refine HD.out.mono ?_
    rintro e w1 ⟨ao1, c1, rfl, hb1, hown1⟩
    have L1 := hid hb1; have O1 := hid hown1
    clear hb1 hown1
    go_wp2_with fail
    have h := encode_any _ s w1 (by omega) (Sl.own O1.out)
    rw [HE.out] at h
    refine h.mono ?_
    rintro e w2 ⟨ao2, c2, rfl, hb2, hown2⟩
    have L2 := hid (L1.out.trans (hb2.mono L1.out.size))
    have q1 := run_convert_sl (P := Try.prog) w2 24 9 5 Try.underlying24 Try.underlying5 Try.underlying9 (Sl.own hown2)
    have q2 := run_convert_sl (P := Try.prog) w2 24 9 5 Try.underlying24 Try.underlying5 Try.underlying9 (Hb.out.below L2.out (fun _ _ h => h))
    clear hb2 hown2
    go_wp2_with fail
    refine (lives_any w2).mono ?_
    rintro e w3 ⟨rfl, hb3⟩
    have L3 := hid (L2.out.trans (hb3.mono L2.out.size))
    clear hb3
    go_wp2
    go_ret
    exact ⟨rfl, L3.out⟩

set_option maxRecDepth 100000 in
set_option maxHeartbeats 1000000 in
theorem walk_ChunkBack (w : World) (v : Value) (l : List (Int × Int)) (hb : Sl w 2 v l.length (sc l)) (_h64 : S64 l) (hl : l.length ≤ 8796093022208) :
    Calls Try.prog 4 #[v] w fun e w' => e = .returned (.bool true) ∧ Below w.heap.size w w' := by
  have Hb := hid hb
  have HE := hid (encode_any v l w (by omega) hb)
  clear hb
  by_cases hc : chkL l = 0
  · have hE : encV l = ((encB l (l.length - 1)).1, 0) := by unfold encV; rw [if_pos hc]
    rw [hE] at HE
    have hbl : (encB l (l.length - 1)).1.length ≤ 100000 := by
      have h1 := encB_bits l (l.length - 1)
      have h2 := (pushAll_Rt' (nums l (l.length - 1)) ([], 0) Rt_nil).1
      have h3 := chkL_zero hc
      have h4 : (encB l (l.length - 1)).1.length = ((encB l (l.length - 1)).2 + 7) / 8 := h2
      omega
    have HD := hid (enc_dec hc rfl)
    clear hE hc
    generalize (encB l (l.length - 1)).1 = F at *
    obtain ⟨ao, c, rfl, _, _, _⟩ := Hb.out.shape
    go_enter Try.func4, Try.ntmps4
    go_wp2_with fail
    refine HE.out.mono ?_
    rintro e w1 ⟨ao1, c1, rfl, hb1, hown1⟩
    have L1 := hid hb1; have O1 := hid hown1
    clear hb1 hown1
    go_wp2_with fail
    have h := decode_any _ F w1 (by omega) (Sl.own O1.out)
    rw [HD.out] at h
    refine h.mono ?_
    rintro e w2 ⟨ao2, c2, rfl, hb2, hown2⟩
    have L2 := hid (L1.out.trans (hb2.mono L1.out.size)); have O2 := hid hown2
    clear hb2 hown2 h
    go_wp2_with fail
    refine (same_any _ _ l l w2 (Sl.own O2.out) (Hb.out.below L2.out (fun _ _ h => h))).mono ?_
    rintro e w3 ⟨rfl, hb3⟩
    have L3 := hid (L2.out.trans (hb3.mono L2.out.size))
    clear hb3
    rw [decide_eq_true (rfl : l = l)]
    go_wp2_with fail
    refine (lives_any w3).mono ?_
    rintro e w4 ⟨rfl, hb4⟩
    have L4 := hid (L3.out.trans (hb4.mono L3.out.size))
    clear hb4
    go_wp2
    go_ret
    exact ⟨rfl, L4.out⟩
  · have hE : encV l = ([], chkL l) := by unfold encV; rw [if_neg hc]
    rw [hE] at HE
    generalize chkL l = n at *
    have hne : (n != 0) = true := by simpa using hc
    clear hE hc
    go_enter Try.func4, Try.ntmps4
    go_wp2_with fail
    refine HE.out.mono ?_
    rintro e w1 ⟨ao1, c1, rfl, hb1, hown1⟩
    have L1 := hid hb1
    clear hb1 hown1
    go_wp2_with fail
    refine (lives_any w1).mono ?_
    rintro e w2 ⟨rfl, hb2⟩
    have L2 := hid (L1.out.trans (hb2.mono L1.out.size))
    clear hb2
    go_wp2
    go_ret
    exact ⟨rfl, L2.out⟩
end Go.Proofs.Ytcnfhabljogniaa
