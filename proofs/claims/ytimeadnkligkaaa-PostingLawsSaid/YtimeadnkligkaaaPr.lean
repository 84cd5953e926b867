/- The walk of PostingLaws. -/
import Derived.Test.YtimeadnkligkaaaPq
import Derived.Test.YtimeadnkligkaaaPi
namespace Go.Proofs.Ytimeadnkligkaaa
open Go.RowKit

set_option linter.unusedSimpArgs false in
set_option maxRecDepth 100000 in
set_option maxHeartbeats 8000000 in
theorem laws_in (va vb : Value) (a b P R T : List Int) (n t : Int) (ia ib : Bool) (w : World) (ha : Sl w 1 va a.length (ic a)) (hb : Sl w 1 vb b.length (ic b)) (hca : chkL a = 0) (hcb : chkL b = 0)
    (e1 : bothV a b = (P, 0)) (e2 : bothV b a = (P, 0)) (e3 : withoutV a b = (R, 0)) (e4 : eitherV P R = (a, 0)) (e5 : eitherV a b = (T, t)) (e6 : eitherV b a = (T, t))
    (hia : decide (n ∈ a) = ia) (hib : decide (n ∈ b) = ib) (hP : decide (n ∈ P) = (ia && ib)) (hR : decide (n ∈ R) = (ia && !ib)) (hT : t = 3 ∨ (t = 0 ∧ decide (n ∈ T) = (ia || ib))) (cP : chkL P = 0) (cR : chkL R = 0) (hTl : T.length ≤ 1024) :
    Calls Try.prog 5 #[va, vb, .int .i64 n] w fun e w' => e = .returned (.bool true) ∧ Below w.heap.size w w' := by
  have la := (chkL_ok hca).1
  have lb := (chkL_ok hcb).1
  have lP := (chkL_ok cP).1
  have lR := (chkL_ok cR).1
  have HC1 := hid (check_any va a w (by omega) ha (chkL_i64 hca))
  have HC2 := hid (check_any vb b w (by omega) hb (chkL_i64 hcb))
  rw [hca] at HC1
  rw [hcb] at HC2
  have Ha := hid ha; have Hb := hid hb
  have H1 := hid (e1 ▸ both_any va vb a b w (by omega) (by omega) ha hb (chkL_i64 hca) (chkL_i64 hcb))
  have H2 := hid fun wx (hx : Below w.heap.size w wx) => e2 ▸ both_any vb va b a wx (by omega) (by omega) (hb.below hx (fun _ _ h => h)) (ha.below hx (fun _ _ h => h)) (chkL_i64 hcb) (chkL_i64 hca)
  have H3 := hid fun wx (hx : Below w.heap.size w wx) => e3 ▸ without_any va vb a b wx (by omega) (by omega) (ha.below hx (fun _ _ h => h)) (hb.below hx (fun _ _ h => h)) (chkL_i64 hca) (chkL_i64 hcb)
  have H4 := hid fun vp vr wx hp hr => e4 ▸ either_any vp vr P R wx (by omega) (by omega) hp hr (chkL_i64 cP) (chkL_i64 cR)
  have H5 := hid fun wx (hx : Below w.heap.size w wx) => e5 ▸ either_any va vb a b wx (by omega) (by omega) (ha.below hx (fun _ _ h => h)) (hb.below hx (fun _ _ h => h)) (chkL_i64 hca) (chkL_i64 hcb)
  have H6 := hid fun wx (hx : Below w.heap.size w wx) => e6 ▸ either_any vb va b a wx (by omega) (by omega) (hb.below hx (fun _ _ h => h)) (ha.below hx (fun _ _ h => h)) (chkL_i64 hcb) (chkL_i64 hca)
  have Ka := hid fun wx (hx : Below w.heap.size w wx) => hia ▸ has_any va a n wx (by omega) (ha.below hx (fun _ _ h => h))
  have Kb := hid fun wx (hx : Below w.heap.size w wx) => hib ▸ has_any vb b n wx (by omega) (hb.below hx (fun _ _ h => h))
  have KP := hid fun vp wx hx => hP ▸ has_any vp P n wx (by omega) hx
  have KR := hid fun vp wx hx => hR ▸ has_any vp R n wx (by omega) hx
  have KT0 := fun vp wx hx => has_any vp T n wx (by omega) hx
  have KT := hid KT0; have HT := hid hT
  clear ha hb hca hcb e1 e2 e3 e4 e5 e6 hia hib hP hR hT cP cR KT0
  go_enter Try.func5, Try.ntmps5
  go_wp2_with fail
  refine HC1.out.mono ?_
  rintro e wz ⟨rfl, hwz⟩
  subst wz
  go_wp2_with fail
  refine HC2.out.mono ?_
  rintro e wz ⟨rfl, hwz⟩
  subst wz
  go_wp2_with fail
  refine H1.out.mono ?_
  rintro e w1 ⟨ao1, c1, rfl, hb1, ho1⟩
  have L1 := hid hb1; have s1 := hb1.size; have X1 := hid (Sl.own ho1); clear hb1 ho1
  go_wp2_with fail
  refine (H2.out w1 L1.out).mono ?_
  rintro e w2 ⟨ao2, c2, rfl, hb2, ho2⟩
  have L2 := hid (L1.out.trans (hb2.mono s1)); have s2 := Nat.le_trans s1 hb2.size; have X2 := hid (Sl.own ho2); have X1a := hid (X1.out.below hb2 (fun _ _ h => h)); clear hb2 ho2
  go_wp2_with fail
  refine (H3.out w2 L2.out).mono ?_
  rintro e w3 ⟨ao3, c3, rfl, hb3, ho3⟩
  have L3 := hid (L2.out.trans (hb3.mono s2)); have s3 := Nat.le_trans s2 hb3.size; have X3 := hid (Sl.own ho3); have X1b := hid (X1a.out.below hb3 (fun _ _ h => h)); have X2b := hid (X2.out.below hb3 (fun _ _ h => h)); clear hb3 ho3
  go_wp2_with fail
  refine (same_any _ _ P P w3 X1b.out X2b.out).mono ?_
  rintro e w4 ⟨rfl, hb4⟩
  have L4 := hid (L3.out.trans (hb4.mono s3)); have s4 := Nat.le_trans s3 hb4.size; have X1c := hid (X1b.out.below hb4 (fun _ _ h => h)); have X3c := hid (X3.out.below hb4 (fun _ _ h => h)); clear hb4
  rw [show decide (P = P) = true from decide_eq_true rfl]
  go_wp2_with fail
  refine (Ka.out w4 L4.out).mono ?_
  rintro e wz ⟨rfl, hwz⟩
  subst wz
  go_wp2_with fail
  refine (Kb.out w4 L4.out).mono ?_
  rintro e wz ⟨rfl, hwz⟩
  subst wz
  go_wp2_with fail
  refine (KP.out _ w4 X1c.out).mono ?_
  rintro e wz ⟨rfl, hwz⟩
  subst wz
  cases ia <;> cases ib
  all_goals (
    simp only [Bool.and_true, Bool.and_false, Bool.true_and, Bool.false_and, Bool.not_true, Bool.not_false, Bool.or_true, Bool.or_false] at HT KR ⊢
    go_wp2_with fail
    refine (KR.out _ w4 X3c.out).mono ?_
    rintro e wz ⟨rfl, hwz⟩
    subst wz
    go_wp2_with fail
    refine (H4.out _ _ w4 X1c.out X3c.out).mono ?_
    rintro e w5 ⟨ao5, c5, rfl, hb5, ho5⟩
    have L5 := hid (L4.out.trans (hb5.mono s4)); have s5 := Nat.le_trans s4 hb5.size; have X5 := hid (Sl.own ho5); clear hb5 ho5
    go_wp2_with fail
    refine (same_any _ _ a a w5 X5.out (Ha.out.below L5.out (fun _ _ h => h))).mono ?_
    rintro e w6 ⟨rfl, hb6⟩
    have L6 := hid (L5.out.trans (hb6.mono s5)); have s6 := Nat.le_trans s5 hb6.size; clear hb6
    rw [show decide (a = a) = true from decide_eq_true rfl]
    go_wp2_with fail
    refine (H5.out w6 L6.out).mono ?_
    rintro e w7 ⟨ao7, c7, rfl, hb7, ho7⟩
    have L7 := hid (L6.out.trans (hb7.mono s6)); have s7 := Nat.le_trans s6 hb7.size; have X7 := hid (Sl.own ho7); clear hb7 ho7
    go_wp2_with fail
    refine (H6.out w7 L7.out).mono ?_
    rintro e w8 ⟨ao8, c8, rfl, hb8, ho8⟩
    have L8 := hid (L7.out.trans (hb8.mono s7)); have s8 := Nat.le_trans s7 hb8.size; have X8 := hid (Sl.own ho8); have X7a := hid (X7.out.below hb8 (fun _ _ h => h)); clear hb8 ho8
    go_wp2_with fail
    refine (same_any _ _ T T w8 X7a.out X8.out).mono ?_
    rintro e w9 ⟨rfl, hb9⟩
    have L9 := hid (L8.out.trans (hb9.mono s8)); have s9 := Nat.le_trans s8 hb9.size; have X7b := hid (X7a.out.below hb9 (fun _ _ h => h)); clear hb9
    rw [show decide (T = T) = true from decide_eq_true rfl]
    rcases HT.out with rfl | ⟨rfl, hTT⟩
    · go_wp2_with fail
      refine (lives_any w9).mono ?_
      rintro e w10 ⟨rfl, hb10⟩
      have L10 := hid (L9.out.trans (hb10.mono s9)); clear hb10
      go_wp2
      go_ret
      exact ⟨rfl, L10.out⟩
    · have KTT := hid (hTT ▸ KT.out _ w9 X7b.out)
      clear hTT HT
      go_wp2_with fail
      refine KTT.out.mono ?_
      rintro e wz ⟨rfl, hwz⟩
      subst wz
      go_wp2_with fail
      refine (lives_any w9).mono ?_
      rintro e w10 ⟨rfl, hb10⟩
      have L10 := hid (L9.out.trans (hb10.mono s9)); clear hb10
      go_wp2
      go_ret
      exact ⟨rfl, L10.out⟩)

set_option maxHeartbeats 1000000 in
theorem walk_PostingLaws (w : World) (va : Value) (a : List Int) (ha : Sl w 1 va a.length (ic a)) (hfa : ∀ n ∈ a, (Lit.int .i64 n).wf = true) (hla : a.length * 8 ≤ 140737488351232)
    (vb : Value) (b : List Int) (hb : Sl w 1 vb b.length (ic b)) (hfb : ∀ n ∈ b, (Lit.int .i64 n).wf = true) (hlb : b.length * 8 ≤ 140737488351232) (n : Int) (_hn0 : -9223372036854775808 ≤ n) (_hn1 : n ≤ 9223372036854775807) :
    Calls Try.prog 5 #[va, vb, .int .i64 n] w fun e w' => e = .returned (.bool true) ∧ Below w.heap.size w w' := by
  have ha64 : I64 a := fun n hn => bounds_i64 (hfa n hn)
  have hb64 : I64 b := fun n hn => bounds_i64 (hfb n hn)
  by_cases hca : chkL a = 0
  · by_cases hcb : chkL b = 0
    · obtain ⟨P, R, T, t, e1, e2, e3, e4, e5, e6, e7, e8, e9, cP, cR, hT⟩ := laws_plain a b hca hcb
      exact laws_in va vb a b P R T n t _ _ w ha hb hca hcb e1 e2 e3 e4 e5 e6 rfl rfl (e7 n) (e8 n) (e9.imp id fun h => ⟨h.1, h.2 n⟩) cP cR hT
    · have HC1 := hid (check_any va a w (by omega) ha ha64)
      have HC2 := hid (check_any vb b w (by omega) hb hb64)
      rw [hca] at HC1
      generalize chkL b = m at *
      have hne : (m == 0) = false := by simpa using hcb
      clear ha hb hfa hfb ha64 hb64
      go_enter Try.func5, Try.ntmps5
      go_wp2_with fail
      refine HC1.out.mono ?_
      rintro e wz ⟨rfl, hwz⟩
      subst wz
      go_wp2_with fail
      refine HC2.out.mono ?_
      rintro e wz ⟨rfl, hwz⟩
      subst wz
      go_wp2_with fail
      refine (lives_any w).mono ?_
      rintro e w1 ⟨rfl, hb1⟩
      have L1 := hid hb1; clear hb1
      go_wp2
      go_ret
      exact ⟨rfl, L1.out⟩
  · have HC1 := hid (check_any va a w (by omega) ha ha64)
    generalize chkL a = m at *
    have hne : (m == 0) = false := by simpa using hca
    clear ha hb hfa hfb ha64 hb64
    go_enter Try.func5, Try.ntmps5
    go_wp2_with fail
    refine HC1.out.mono ?_
    rintro e wz ⟨rfl, hwz⟩
    subst wz
    go_wp2_with fail
    refine (lives_any w).mono ?_
    rintro e w1 ⟨rfl, hb1⟩
    have L1 := hid hb1; clear hb1
    go_wp2
    go_ret
    exact ⟨rfl, L1.out⟩
end Go.Proofs.Ytimeadnkligkaaa
