/- The walk of FrameBack (for arguments that are together not too long). -/
import Derived.Test.YtecnjgiodnphcaaGf
namespace Go.Proofs.Ytecnjgiodnphcaa
open Go.RowKit

theorem back_skip (w : World) (v : Value) (n : Int) (s : ByteArray) (vx : Value) (x : List UInt8) (hbx : Sl w 1 vx x.length (bc x)) (vm : Value) (hs : s.size ≤ 1048576) (hx : x.length ≤ 1048576) (h : n < 0 ∨ 65535 < s.size ∨ 65535 < x.length) :
    Calls Try.prog 12 #[v, .int .i64 n, .string s, vx, vm] w fun e w' => e = .returned (.bool true) ∧ Below w.heap.size w w' := by
  obtain ⟨aox, cx, rfl, _, _, _⟩ := hbx.shape
  clear hbx
  have HL := hid (lives_any w)
  by_cases h0 : n < 0
  · have hd : decide (n < 0) = true := by simpa using h0
    clear h
    go_enter Try.func12, Try.ntmps12
    go_wp2_with fail
    refine HL.out.mono ?_
    rintro e w1 ⟨rfl, hb1⟩
    have L1 := hid hb1; clear hb1
    go_wp2
    go_ret
    exact ⟨rfl, L1.out⟩
  · have hd : decide (n < 0) = false := by simpa using h0
    by_cases h1 : 65535 < s.size
    · have hd1 : decide (65535 < (s.size : Int)) = true := by simp; omega
      clear h
      go_enter Try.func12, Try.ntmps12
      go_wp2_with fail
      refine HL.out.mono ?_
      rintro e w1 ⟨rfl, hb1⟩
      have L1 := hid hb1; clear hb1
      go_wp2
      go_ret
      exact ⟨rfl, L1.out⟩
    · have hd1 : decide (65535 < (s.size : Int)) = false := by simp; omega
      have hd2 : decide (65535 < (x.length : Int)) = true := by simp; omega
      clear h
      go_enter Try.func12, Try.ntmps12
      go_wp2_with fail
      refine HL.out.mono ?_
      rintro e w1 ⟨rfl, hb1⟩
      have L1 := hid hb1; clear hb1
      go_wp2
      go_ret
      exact ⟨rfl, L1.out⟩

set_option maxRecDepth 100000 in
set_option maxHeartbeats 4000000 in
theorem back_in (w : World) (v : Value) (l : List UInt8) (hb : Sl w 1 v l.length (bc l)) (n : Nat) (hn : n ≤ 9223372036854775807) (s : ByteArray) (hs : s.size ≤ 65535) (vx : Value) (x : List UInt8) (hbx : Sl w 1 vx x.length (bc x)) (hx : x.length ≤ 65535)
    (vm : Value) (m : List UInt8) (hbm : Sl w 1 vm m.length (bc m)) (tot : l.length + m.length ≤ 1048576) :
    Calls Try.prog 12 #[v, .int .i64 n, .string s, vx, vm] w fun e w' => e = .returned (.bool true) ∧ Below w.heap.size w w' := by
  have hsl : s.data.toList.length = s.size := by simp
  have hul : (uintL n).length ≤ 9 := uintF_length 8 _
  have hul2 : (uintL s.size).length ≤ 9 := uintF_length 8 _
  have hfl := frameL_length x
  have hP1 := hid (putUint_pos v l n w (by omega) hn hb)
  obtain ⟨P, hP⟩ : ∃ P, P = l ++ uintL n := ⟨_, rfl⟩
  obtain ⟨Q, hQ⟩ : ∃ Q, Q = P ++ uintL s.size ++ s.data.toList := ⟨_, rfl⟩
  obtain ⟨R, hR⟩ : ∃ R, R = Q ++ frameL x := ⟨_, rfl⟩
  obtain ⟨A, hA⟩ : ∃ A, A = R ++ m := ⟨_, rfl⟩
  have lP : P.length = l.length + (uintL n).length := by rw [hP, List.length_append]
  have lQ : Q.length = P.length + (uintL s.size).length + s.size := by rw [hQ, List.length_append, List.length_append, hsl]
  have lR : R.length = Q.length + (x.length + 6) := by rw [hR, List.length_append, hfl]
  have lA : A.length = R.length + m.length := by rw [hA, List.length_append]
  have g1 : getU A l.length = ((n : Int), (P.length : Int), 0) := by
    have h := getU_put l (uintL s.size ++ s.data.toList ++ frameL x ++ m) n hn
    rw [lP]
    rw [hA, hR, hQ, hP]
    simpa [List.append_assoc] using h
  have g2 : getT A P.length = (s.data.toList, (Q.length : Int), (0 : Int)) := by
    have h := getT_put P s.data.toList (frameL x ++ m) (by omega)
    rw [hsl] at h
    rw [hA, hR, hQ]
    simpa [List.append_assoc] using h
  have g3 : getF A Q.length = (x, (R.length : Int), (0 : Int)) := by
    have h := getF_put Q x m hx
    rw [← hR, ← hA] at h
    exact h
  have hP2 := fun va wx (h : Sl wx 1 va P.length (bc P)) => putText_in va P s wx (by omega) hs h
  have hP3 := fun va wx (h : Sl wx 1 va Q.length (bc Q)) (h' : Sl wx 1 vx x.length (bc x)) => put_in va vx Q x wx (by omega) hx h h'
  have hG1 := fun va wx (h : Sl wx 1 va A.length (bc A)) => getUint_any va A l.length wx (by omega) (by omega) (by omega) h
  have hG2 := fun va wx (h : Sl wx 1 va A.length (bc A)) => getText_any va A P.length wx (by omega) (by omega) (by omega) h
  have hG3 := fun va wx (h : Sl wx 1 va A.length (bc A)) => get_any va A Q.length wx (by omega) (by omega) (by omega) h
  rw [← hQ] at hP2
  rw [← hR] at hP3
  rw [← hP] at hP1
  rw [g1] at hG1
  rw [g2] at hG2
  rw [g3] at hG3
  have HP1 := hid hP1; have HP2 := hid hP2; have HP3 := hid hP3; have HG1 := hid hG1; have HG2 := hid hG2; have HG3 := hid hG3
  have Hb := hid hb; have Hx := hid hbx; have Hm := hid hbm; have HA := hid hA
  have bR : R.length ≤ 2000000 := by omega
  have bA : A.length ≤ 4000000 := by omega
  have bP : P.length ≤ 2000000 := by omega
  have bQ : Q.length ≤ 2000000 := by omega
  have HLA := hid lA
  have bm : m.length ≤ 1048576 := by omega
  have bl : l.length ≤ 1048576 := by omega
  obtain ⟨ao, c, rfl, _, _, _⟩ := hb.shape
  obtain ⟨aox, cx, rfl, _, _, _⟩ := hbx.shape
  obtain ⟨aom, cm, rfl, _, _, _⟩ := hbm.shape
  have hd : decide ((n : Int) < 0) = false := by simp
  have hd1 : decide (65535 < (s.size : Int)) = false := by simp; omega
  have hd2 : decide (65535 < (x.length : Int)) = false := by simp; omega
  clear hb hbx hbm hP1 hP2 hP3 hG1 hG2 hG3 g1 g2 g3 lP lQ lR lA hP hQ hR hA hfl hul hul2 hsl
  go_enter Try.func12, Try.ntmps12
  go_wp2_with fail
  refine HP1.out.mono ?_
  rintro e w1 ⟨g1, c1, rfl, hb1, hown1⟩
  have L1 := hid hb1; have O1 := hid hown1; have s1 := hb1.size; clear hb1 hown1
  go_wp2_with fail
  refine (HP2.out _ w1 (Sl.own O1.out)).mono ?_
  rintro e w2 ⟨ao2, c2, rfl, hb2, hown2⟩
  have L2 := hid hb2; have O2 := hid hown2; have s2 := hb2.size; clear hb2 hown2
  have D2 := hid (L1.out.trans (L2.out.mono s1))
  go_wp2_with fail
  refine (HP3.out _ w2 (Sl.own O2.out) (Hx.out.below D2.out (fun _ _ h => h))).mono ?_
  rintro e w3 ⟨ao3, c3, rfl, hb3, hown3⟩
  have L3 := hid hb3; have O3 := hid hown3; have s3 := hb3.size; clear hb3 hown3
  have D3 := hid (D2.out.trans (L3.out.mono (by omega)))
  go_wp2_with (first
    | (at_builtin; refine wpList_appS rfl (.tmp 65) (.tmp 66) 22 rfl w3.heap.size (.slice (some ⟨w3.heap.size, 0, none⟩) 0 0) 0 [] rfl (own_made _ _ 0 w3.heap.size rfl (Nat.le_refl _) (by unfold maxLen; omega) (by simp)) (.slice ao3 R.length c3) R.length R rfl (Src.ofSl Try.underlying22 ((Sl.own O3.out).alloc _) (bc_one R)) (.inl (by simp)) (by omega) (by simp) _ rfl ?_; intro g4 cap4 w4 hown4 hgrow4 hbel4 hsz4 hat4; simp only [Nat.zero_add, List.nil_append] at hown4; have O4 := hid hown4; have L4 := hid (hbel4 w3 ((Below.refl _ _).alloc (Nat.le_refl _) _)); clear hown4 hgrow4 hbel4 hat4)
    | (at_builtin; refine wpList_appS rfl (.tmp 67) (.tmp 68) 22 rfl w3.heap.size (.slice (some ⟨g4, 0, none⟩) R.length cap4) R.length R rfl O4.out (.slice aom m.length cm) m.length m rfl (Src.ofSl Try.underlying22 (Hm.out.below (D3.out.trans (L4.out.mono (by omega))) (fun _ _ h => h)) (bc_one m)) (.inl (by simp)) (by omega) hsz4 _ rfl ?_; intro g5 cap5 w5 hown5 hgrow5 hbel5 hsz5 hat5; rw [← HA.out, ← HLA.out] at hown5; have O5 := hid hown5; have L5 := hid (hbel5 w3 L4.out); clear hown5 hgrow5 hbel5 hat5))
  rw [← HLA.out]
  have D5 := hid (D3.out.trans (L5.out.mono (by omega)))
  go_wp2_with fail
  refine (HG1.out _ w5 (Sl.own O5.out)).mono ?_
  unfold retU
  rintro e wz ⟨rfl, hwz⟩
  subst wz
  go_wp2_with fail
  refine (HG2.out _ w5 (Sl.own O5.out)).mono ?_
  unfold retT
  rintro e wz ⟨rfl, hwz⟩
  subst wz
  go_wp2_with fail
  refine (HG3.out _ w5 (Sl.own O5.out)).mono ?_
  rintro e w6 ⟨ao6, c6, rfl, hb6, hown6⟩
  have L6 := hid hb6; have O6 := hid hown6; have s6 := hb6.size; clear hb6 hown6
  have D6 := hid (D5.out.trans (L6.out.mono (by omega)))
  have q1 := run_convert_sl (P := Try.prog) w6 22 9 5 Try.underlying22 Try.underlying5 Try.underlying9 (Sl.own O6.out)
  have q2 := run_convert_sl (P := Try.prog) w6 22 9 5 Try.underlying22 Try.underlying5 Try.underlying9 (Hx.out.below D6.out (fun _ _ h => h))
  go_wp2_with fail
  clear q1 q2
  refine (lives_any w6).mono ?_
  rintro e w7 ⟨rfl, hb7⟩
  have L7 := hid hb7; clear hb7
  go_wp2
  go_ret
  exact ⟨rfl, D6.out.trans (L7.out.mono (by omega))⟩

theorem walk_FrameBack (w : World) (v : Value) (l : List UInt8) (hb : Sl w 1 v l.length (bc l)) (_hl : l.length ≤ 140737488351232) (n : Int) (_hn0 : -9223372036854775808 ≤ n) (hn : n ≤ 9223372036854775807) (s : ByteArray) (_hs : s.data.toList.length ≤ 140737488351232)
    (vx : Value) (x : List UInt8) (hbx : Sl w 1 vx x.length (bc x)) (_hx : x.length ≤ 140737488351232) (vm : Value) (m : List UInt8) (hbm : Sl w 1 vm m.length (bc m)) (_hm : m.length ≤ 140737488351232)
    (tot : l.length + s.data.toList.length + x.length + m.length ≤ 1048576) :
    Calls Try.prog 12 #[v, .int .i64 n, .string s, vx, vm] w fun e w' => e = .returned (.bool true) ∧ Below w.heap.size w w' := by
  have hsl : s.data.toList.length = s.size := by simp
  by_cases h : n < 0 ∨ 65535 < s.size ∨ 65535 < x.length
  · exact back_skip w v n s vx x hbx vm (by omega) (by omega) h
  · obtain ⟨n, rfl⟩ := Int.eq_ofNat_of_zero_le (show 0 ≤ n by omega)
    exact back_in w v l hb n (by omega) s (by omega) vx x hbx (by omega) vm m hbm (by omega)
end Go.Proofs.Ytecnjgiodnphcaa
