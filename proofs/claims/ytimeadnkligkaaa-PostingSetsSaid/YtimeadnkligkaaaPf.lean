/- The reference's Same; the laws' own; posting.along whole; Both, Either, Without. -/
import Derived.Test.YtimeadnkligkaaaPd
namespace Go.Proofs.Ytimeadnkligkaaa
open Go.RowKit

theorem take_next (l : List Int) (k : Nat) (h : k < l.length) : l.take (k + 1) = l.take k ++ [l.getD k 0] := by
  rw [List.take_add_one]; simp [h]

set_option maxRecDepth 100000 in
set_option maxHeartbeats 1000000 in
theorem same_any (va vb : Value) (a b : List Int) (w : World) (ha : Sl w 1 va a.length (ic a)) (hb : Sl w 1 vb b.length (ic b)) :
    Calls Try.prog 19 #[va, vb] w fun e w' => e = .returned (.bool (decide (a = b))) ∧ Below w.heap.size w w' := by
  obtain ⟨ao, ca, rfl, _, hma, _⟩ := ha.shape
  obtain ⟨bo, cb, rfl, _, hmb, _⟩ := hb.shape
  unfold maxLen at hma hmb
  have Ha := hid ha; have Hb := hid hb
  clear ha hb
  by_cases hn : a.length = b.length
  · have HC := hid (fun k (hk : k < a.length) => (show ∃ b1 off1 b2 off2, ao = some ⟨b1, off1, none⟩ ∧ bo = some ⟨b2, off2, none⟩ ∧ w.cell? ⟨b1, off1 + k, none⟩ = some (.int .i64 (a.getD k 0)) ∧ w.cell? ⟨b2, off2 + k, none⟩ = some (.int .i64 (b.getD k 0)) from by
      obtain ⟨b1, off1, c1, hv1, _, _, _, hcell1⟩ := Ha.out.form (by decide) (by omega)
      obtain ⟨b2, off2, c2, hv2, _, _, _, hcell2⟩ := Hb.out.form (by decide) (by omega)
      simp only [Value.slice.injEq] at hv1 hv2
      exact ⟨b1, off1, b2, off2, hv1.1, hv2.1, by rw [hcell1 k (by omega), ic_get a k hk], by rw [hcell2 k (by omega), ic_get b k (by omega)]⟩))
    have HN := hid hn
    rw [← hn]
    obtain ⟨r, hr⟩ : ∃ r, r = decide (a = b) := ⟨_, rfl⟩
    have HR := hid hr
    rw [← hr]
    clear hn hr
    go_enter Try.func19, Try.ntmps19
    go_wp2
    go_loopw [5] (fun i wr => ∃ k q, k ≤ a.length ∧ i = .int .i64 ((k : Nat) : Int) ∧ a.take k = b.take k ∧ wr = w.drewN q)
      (fun i _ => a.length - (intOf i).toNat)
    case atStart => exact ⟨0, 0, Nat.zero_le _, rfl, rfl, rfl⟩
    case round =>
      obtain ⟨k, q0, hk, rfl, hch, rfl⟩ := hrel
      have HCh := hid hch; clear hch
      by_cases hlt : k < a.length
      · obtain ⟨b1, off1, b2, off2, rfl, rfl, hc1, hc2⟩ := HC.out k hlt
        have i1 : (k : Int) < (a.length : Int) := by omega
        by_cases hq : a.getD k 0 = b.getD k 0
        · have HK := hid (show a.take (k + 1) = b.take (k + 1) by rw [take_next a k hlt, take_next b k (by have := HN.out; omega), HCh.out, hq])
          rw [← hq] at hc2
          generalize a.getD k 0 = n at *
          clear hq
          go_wp2
          go_quiet (fail)
          go_wp2
          go_roundw
          case rel => exact ⟨k + 1, _, by omega, by go_num, HK.out, rfl⟩
          case measure => simp [intOf]; omega
        · have hR := hid (show r = false by rw [HR.out]; refine decide_eq_false ?_; rintro rfl; exact hq rfl)
          generalize a.getD k 0 = n at *
          generalize b.getD k 0 = m at *
          have hne : (n == m) = false := by simpa using hq
          clear hq
          go_wp2
          go_quiet (fail)
          go_wp2
          go_ret
          exact ⟨by rw [hR.out]; rfl, by first | exact Below_drewN (Below.refl _ _) _ | exact Below_drewN (Below_drewN (Below.refl _ _) _) _⟩
      · obtain rfl : k = a.length := by omega
        have hR := hid (show r = true by rw [HR.out]; refine decide_eq_true ?_; have h := HCh.out; rw [List.take_length, HN.out, List.take_length] at h; exact h)
        go_wp2
        go_ret
        exact ⟨by rw [hR.out]; rfl, by first | exact Below_drewN (Below.refl _ _) _ | exact Below_drewN (Below_drewN (Below.refl _ _) _) _⟩
  · have hR := hid (show decide (a = b) = false from decide_eq_false (by rintro rfl; exact hn rfl))
    have hne : ((a.length : Int) == (b.length : Int)) = false := by simp; omega
    rw [hR.out]
    clear hn
    go_enter Try.func19, Try.ntmps19
    go_wp2
    go_ret
    exact ⟨rfl, Below.refl _ _⟩

set_option maxHeartbeats 1000000 in
theorem own77_any (v : Value) (l : List Int) (w : World) (hl : l.length ≤ 19000000000000) (hb : Sl w 1 v l.length (ic l)) :
    Calls Try.prog 10 #[v] w fun e w' => ∃ g cap, e = .returned (.slice (some ⟨g, 0, none⟩) l.length cap) ∧ Below w.heap.size w w' ∧
      w'.ownsRow w.heap.size 3 1 (.slice (some ⟨g, 0, none⟩) (l.length + 1) cap) (l.length + 1) (ic (l ++ [77])) := by
  obtain ⟨i0, hi, hz0, hz1, hz2⟩ := info_parts infoInt
  obtain ⟨ao, c, rfl, _, _, _⟩ := hb.shape
  have Hb := hid hb; clear hb
  go_enter Try.func10, Try.ntmps10
  go_wp2_with (first
    | (at_builtin; refine wpList_append_put rfl (.tmp 3) (.tmp 4) 22 22 rfl w.heap.size 3 i0 (.int .i64 0) 1 8 Try.underlying22 hi hz0 hz1 hz2 rfl (.slice (some ⟨w.heap.size, 0, none⟩) 0 0) 0 [] rfl (own_made _ _ 0 w.heap.size rfl (Nat.le_refl _) (by unfold maxLen; omega) (by simp)) (.slice ao l.length c) l.length (ic l) rfl (Src.ofSl Try.underlying22 (Hb.out.alloc _) (ic_one l)) (.inl (by simp)) (by unfold maxLen; omega) (by omega) (by simp) _ rfl ?_; intro g1 cap1 w1 hown1 hgrow1 hat1 hlt1 hcap1; simp only [Nat.zero_add, List.nil_append] at hown1 hcap1; have O1 := hid hown1; have L1 := hid (((Below.refl w.heap.size w).alloc (Nat.le_refl _) _).grown hgrow1 (by simp) (by intro k hk; simp [Value.ownBlock] at hk; omega)); clear hown1 hgrow1 hat1)
    | (at_builtin; refine wpList_appI rfl (.tmp 5) (.tmp 6) rfl w.heap.size (.slice (some ⟨g1, 0, none⟩) l.length cap1) l.length l rfl O1.out 77 _ rfl rfl (by omega) L1.out.size ?_; intro g cap w2 hown hgrow hbel hsz; have O2 := hid hown; have L2 := hid (hbel w L1.out); have hcap : l.length ≤ cap := (by (obtain ⟨_, c', hv, hc', _⟩ := (Sl.own hown).shape; simp only [Value.slice.injEq] at hv; omega)); clear hown hgrow hbel))
  go_wp2
  go_ret
  exact ⟨g, cap, rfl, L2.out, O2.out⟩

theorem along_any (F : FuncId) (kp : Bool → Bool → Bool) (hin : ∀ args w, (callFunc F args).run Try.prog w = .ok (.enter F args) w) (hF : ∀ x y w, Calls Try.prog F #[.bool x, .bool y] w fun e w' => e = .returned (.bool (kp x y)) ∧ w' = w) (va vb : Value) (a b : List Int) (w : World)
    (hla : a.length ≤ 20000000000000) (hlb : b.length ≤ 20000000000000) (ha : Sl w 1 va a.length (ic a)) (hb : Sl w 1 vb b.length (ic b)) (ha64 : I64 a) (hb64 : I64 b) :
    Calls Try.prog 26 #[va, vb, .func (Fn.func F) #[] #[]] w (PutPostI w (alongV kp a b)) := by
  by_cases hca : chkL a = 0
  · by_cases hcb : chkL b = 0
    · exact along_in F kp hin hF va vb a b w ha hb ha64 hb64 hca hcb
    · have hV : alongV kp a b = ([], chkL b) := by unfold alongV; rw [if_neg (by simp [hca]), if_pos hcb]
      rw [hV]
      have HC1 := hid (check_any va a w hla ha ha64)
      have HC2 := hid (check_any vb b w hlb hb hb64)
      rw [hca] at HC1
      generalize chkL b = n at *
      have hne : (n == 0) = false := by simpa using hcb
      clear hV ha64 hb64 ha hb hF
      go_enter Try.func26, Try.ntmps26
      go_wp2_with fail
      refine HC1.out.mono ?_
      rintro e wz ⟨rfl, hwz⟩
      subst wz
      go_wp2_with fail
      refine HC2.out.mono ?_
      rintro e wz ⟨rfl, hwz⟩
      subst wz
      go_wp2
      go_ret2
      exact ⟨none, 0, rfl, Below.refl _ _, World.ownsRow_nil _ _ _ _⟩
  · have hV : alongV kp a b = ([], chkL a) := by unfold alongV; rw [if_pos hca]
    rw [hV]
    have HC1 := hid (check_any va a w hla ha ha64)
    generalize chkL a = n at *
    have hne : (n == 0) = false := by simpa using hca
    clear hV ha64 hb64 ha hb hF
    go_enter Try.func26, Try.ntmps26
    go_wp2_with fail
    refine HC1.out.mono ?_
    rintro e wz ⟨rfl, hwz⟩
    subst wz
    go_wp2
    go_ret2
    exact ⟨none, 0, rfl, Below.refl _ _, World.ownsRow_nil _ _ _ _⟩

def bothV (a b : List Int) : List Int × Int := alongV (fun p q => p && q) a b
def eitherV (a b : List Int) : List Int × Int := alongV (fun p q => p || q) a b
def withoutV (a b : List Int) : List Int × Int := alongV (fun p q => p && !q) a b
theorem both_any (va vb : Value) (a b : List Int) (w : World) (hla : a.length ≤ 20000000000000) (hlb : b.length ≤ 20000000000000) (ha : Sl w 1 va a.length (ic a)) (hb : Sl w 1 vb b.length (ic b)) (ha64 : I64 a) (hb64 : I64 b) :
    Calls Try.prog 13 #[va, vb] w (PutPostI w (bothV a b)) := by
  have HA := hid (along_any 27 (fun p q => p && q) (fun _ _ => rfl) both1_any va vb a b w hla hlb ha hb ha64 hb64)
  clear ha hb
  unfold bothV
  go_enter Try.func13, Try.ntmps13
  go_wp2_with fail
  refine HA.out.mono ?_
  rintro e w1 ⟨ao, c, rfl, hb1, hown1⟩
  have L1 := hid hb1; have O1 := hid hown1; clear hb1 hown1
  go_wp2
  go_ret2
  exact ⟨ao, c, rfl, L1.out, O1.out⟩
theorem either_any (va vb : Value) (a b : List Int) (w : World) (hla : a.length ≤ 20000000000000) (hlb : b.length ≤ 20000000000000) (ha : Sl w 1 va a.length (ic a)) (hb : Sl w 1 vb b.length (ic b)) (ha64 : I64 a) (hb64 : I64 b) :
    Calls Try.prog 14 #[va, vb] w (PutPostI w (eitherV a b)) := by
  have HA := hid (along_any 28 (fun p q => p || q) (fun _ _ => rfl) either1_any va vb a b w hla hlb ha hb ha64 hb64)
  clear ha hb
  unfold eitherV
  go_enter Try.func14, Try.ntmps14
  go_wp2_with fail
  refine HA.out.mono ?_
  rintro e w1 ⟨ao, c, rfl, hb1, hown1⟩
  have L1 := hid hb1; have O1 := hid hown1; clear hb1 hown1
  go_wp2
  go_ret2
  exact ⟨ao, c, rfl, L1.out, O1.out⟩
theorem without_any (va vb : Value) (a b : List Int) (w : World) (hla : a.length ≤ 20000000000000) (hlb : b.length ≤ 20000000000000) (ha : Sl w 1 va a.length (ic a)) (hb : Sl w 1 vb b.length (ic b)) (ha64 : I64 a) (hb64 : I64 b) :
    Calls Try.prog 15 #[va, vb] w (PutPostI w (withoutV a b)) := by
  have HA := hid (along_any 29 (fun p q => p && !q) (fun _ _ => rfl) without1_any va vb a b w hla hlb ha hb ha64 hb64)
  clear ha hb
  unfold withoutV
  go_enter Try.func15, Try.ntmps15
  go_wp2_with fail
  refine HA.out.mono ?_
  rintro e w1 ⟨ao, c, rfl, hb1, hown1⟩
  have L1 := hid hb1; have O1 := hid hown1; clear hb1 hown1
  go_wp2
  go_ret2
  exact ⟨ao, c, rfl, L1.out, O1.out⟩
end Go.Proofs.Ytimeadnkligkaaa
