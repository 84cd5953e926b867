/- The reference's Either. -/
import Derived.Test.YtimeadnkligkaaaPs
namespace Go.Proofs.Ytimeadnkligkaaa
open Go.RowKit

theorem eithL_stop (x : Int) (a S : List Int) (h : ∀ y r, S = y :: r → ¬ y < x) : eithL (x :: a) S = x :: eithL a S := by
  cases S with
  | nil => rfl
  | cons y r =>
    have := h y r rfl
    rw [eithL, List.takeWhile_cons, List.dropWhile_cons, if_neg (by simpa using this), if_neg (by simpa using this)]
    rfl
theorem eithL_end (S : List Int) : eithL [] S = S := rfl
theorem eithL_length (a : List Int) : ∀ S : List Int, (eithL a S).length = a.length + S.length := by
  induction a with
  | nil => intro S; simp [eithL]
  | cons x a ih =>
    intro S
    have h := congrArg List.length (List.takeWhile_append_dropWhile (p := fun y => decide (y < x)) (l := S))
    rw [List.length_append] at h
    simp [eithL, ih]; omega
def EiRel (w : World) (a E : List Int) (k : Nat) (out rest : Value) (wr : World) : Prop :=
  ∃ (S L : List Int) (ao : Option Addr) (c : Nat), Sl w 1 rest S.length (ic S) ∧ out = .slice ao L.length c ∧ L ++ eithL (a.drop k) S = E ∧ w.heap.size ≤ wr.heap.size ∧ Below w.heap.size w wr ∧ wr.ownsRow w.heap.size 3 1 (.slice ao L.length c) L.length (ic L)
def refEV (a b : List Int) : List Int × Int := if refV a b ≠ 0 then ([], refV a b) else if 1024 < (eithL a (pickV b a false)).length then ([], 3) else (eithL a (pickV b a false), 0)

set_option linter.unusedSimpArgs false in
set_option maxRecDepth 100000 in
set_option maxHeartbeats 4000000 in
theorem refEither_in (va vb : Value) (a b : List Int) (w : World) (hla : a.length ≤ 1024) (hlb : b.length ≤ 1024) (ha : Sl w 1 va a.length (ic a)) (hb : Sl w 1 vb b.length (ic b)) (ha64 : I64 a) (hb64 : I64 b) (hc : refV a b = 0) :
    Calls Try.prog 17 #[va, vb] w (PutPostI w (refEV a b)) := by
  have H1 := hid (refused_any va vb a b w (by omega) (by omega) ha hb ha64 hb64)
  have H2 := hid fun wx (hx : Below w.heap.size w wx) => pick_any vb va b a false wx (by omega) (by omega) (hb.below hx (fun _ _ h => h)) (ha.below hx (fun _ _ h => h))
  rw [hc] at H1
  have hS0 : (pickV b a false).length ≤ 1024 := Nat.le_trans (List.length_filter_le _ _) hlb
  have hEl := eithL_length a (pickV b a false)
  have hV : refEV a b = if 1024 < (eithL a (pickV b a false)).length then ([], 3) else (eithL a (pickV b a false), 0) := by unfold refEV; rw [if_neg (by simp [hc])]
  obtain ⟨E, hE⟩ : ∃ E, E = eithL a (pickV b a false) := ⟨_, rfl⟩
  obtain ⟨r, hr⟩ : ∃ r, r = refEV a b := ⟨_, rfl⟩
  rw [← hE] at hV hEl
  generalize pickV b a false = S0 at *
  rw [← hr] at hV ⊢
  have hEl2 : E.length ≤ 2048 := by omega
  have HE := hid hE; have HV := hid hV; have Ha := hid ha
  have HC := hid (fun k (hk : k < a.length) => (show ∃ b off c, va = .slice (some ⟨b, off, none⟩) a.length c ∧ b < w.heap.size ∧ w.cell? ⟨b, off + k, none⟩ = some (.int .i64 (a.getD k 0)) from by
    obtain ⟨b, off, c', hv, _, _, hbl, hcell⟩ := ha.form (by decide) (by omega)
    exact ⟨b, off, c', hv, hbl, by rw [hcell k (by omega), ic_get a k hk]⟩))
  obtain ⟨aoa, ca, rfl, _⟩ := ha.shape
  clear ha hb ha64 hb64 hc hE hV hr hEl
  go_enter Try.func17, Try.ntmps17
  go_wp2_with fail
  refine H1.out.mono ?_
  rintro e w1 ⟨rfl, hb1⟩
  have L1 := hid hb1; have s1 := hb1.size; clear hb1
  go_wp2_with fail
  refine (H2.out w1 L1.out).mono ?_
  rintro e w2 ⟨aor, cr, rfl, hb2, ho2⟩
  have L2 := hid (L1.out.trans (hb2.mono s1)); have s2 := Nat.le_trans s1 hb2.size; have R2 := hid (Sl.own ho2); clear hb2 ho2
  have HS := hid (show EiRel w2 a E 0 (.slice none 0 0) (.slice aor S0.length cr) w2 from ⟨S0, [], none, 0, R2.out, rfl, by rw [HE.out]; rfl, Nat.le_refl _, Below.refl _ _, World.ownsRow_nil _ _ _ _⟩)
  go_wp2
  go_loopw [7, 8, 9] (fun out rest i wr => ∃ k, k ≤ a.length ∧ i = .int .i64 ((k : Nat) : Int) ∧ EiRel w2 a E k out rest wr)
    (fun _ _ i _ => a.length - (intOf i).toNat)
  case atStart => exact ⟨0, Nat.zero_le _, rfl, HS.out⟩
  case round =>
    obtain ⟨k, hk, rfl, hrel'⟩ := hrel
    have HR := hid hrel'
    obtain ⟨S1, LL1, ao1, c1, hSl1, rfl, _, _, _, _⟩ := hrel'
    obtain ⟨aor1, cr1, rfl, _⟩ := hSl1.shape
    clear hSl1
    by_cases hlt : k < a.length
    · obtain ⟨wo, rfl⟩ : ∃ wo : World, wo = wr := ⟨_, rfl⟩
      have i1 : (k : Int) < (a.length : Int) := by omega
      obtain ⟨bx, offx, cx, hvx, hbx, hcx⟩ := HC.out k hlt
      simp only [Value.slice.injEq] at hvx
      obtain ⟨rfl, _, rfl⟩ := hvx
      have hbx2 : bx < w2.heap.size := Nat.lt_of_lt_of_le hbx s2
      have hcx2 : w2.cell? ⟨bx, offx + k, none⟩ = some (.int .i64 (a.getD k 0)) := (L2.out.cell (p := ⟨bx, offx + k, none⟩) hbx).trans hcx
      have hdr := hid (drop_getD a k hlt)
      generalize a.getD k 0 = x at *
      go_wp2_with fail
      go_loopw [7, 8] (fun out rest wr => EiRel w2 a E k out rest wr) (fun _ rest _ => slenR rest)
      case atStart => exact HR.out
      case round =>
        obtain ⟨S, L, ao, c, hSl, rfl, hE2, hsz, hbel, hown⟩ := hrel
        have LW := hid hbel; have O := hid hown
        have hLl : L.length ≤ 2048 := by have h := congrArg List.length hE2; rw [List.length_append] at h; omega
        rw [hdr.out] at hE2
        have HE2 := hid hE2
        have hcw : wr.cell? ⟨bx, offx + k, none⟩ = some (.int .i64 x) := (LW.out.cell (p := ⟨bx, offx + k, none⟩) hbx2).trans hcx2
        clear hbel hown hE2
        cases S with
        | nil =>
          obtain ⟨aov, cv, rfl, _⟩ := hSl.shape
          have HSX := hid hSl
          have HE4 := hid (show (L ++ [x]) ++ eithL (a.drop (k + 1)) [] = E by have h := HE2.out; rw [eithL_stop x _ [] (by intro y r h; cases h)] at h; simpa using h)
          clear hSl
          simp only [List.length_nil]
          go_wp2
          go_quiet (fail)
          go_wp2_with (at_builtin; refine wpList_appI rfl (.tmp 46) (.tmp 51) rfl w2.heap.size (.slice ao L.length c) L.length L rfl (own_below O.out (Below_drewN (Below.refl _ _) _) (Nat.le_refl _)) x _ rfl rfl (by omega) (by have := hsz; exact this) ?_; intro g3 cap3 w3 hown3 hgrow3 hbel3 hsz3; have O3 := hid hown3; have L3 := hid (hbel3 w2 (Below_drewN LW.out _)); have hcx3 : w3.cell? ⟨bx, offx + k, none⟩ = some (.int .i64 x) := ((L3.out.cell (p := ⟨bx, offx + k, none⟩) hbx2).trans hcx2); clear hown3 hgrow3 hbel3)
          go_roundw
          case rel => exact ⟨k + 1, by omega, by go_num, [], L ++ [x], some ⟨g3, 0, none⟩, cap3, HSX.out, by simp, HE4.out, hsz3, L3.out, by simpa using O3.out⟩
          case measure => simp [intOf]; omega
        | cons y t =>
          obtain ⟨b1, off1, c1, rfl, hc1, hbl1, hcell1, ht1, hte1⟩ := Sl.tail hSl
          have hcw1 : wr.cell? ⟨b1, off1, none⟩ = some (.int .i64 y) := (LW.out.cell (p := ⟨b1, off1, none⟩) hbl1).trans hcell1
          have HT1 := hid ht1; have HTE1 := hid hte1; have HSX := hid hSl
          have i2 : (0 : Int) < (t.length : Int) + 1 := by omega
          clear ht1 hte1 hcell1 hSl
          by_cases hq : y < x
          · have hd : decide (y < x) = true := decide_eq_true hq
            have HE4 := hid (show (L ++ [y]) ++ eithL (a.drop k) t = E by have h := HE2.out; rw [eithL_lt x y _ _ hq] at h; rw [hdr.out]; simpa using h)
            rcases Nat.lt_or_ge 1 c1 with hcp1 | hcp1
            · have hci1 : (1 : Int) < (c1 : Int) := by omega
              go_wp2
              go_quiet (fail)
              go_wp2_with (at_builtin; refine wpList_appI rfl (.tmp 38) (.tmp 42) rfl w2.heap.size (.slice ao L.length c) L.length L rfl (own_below O.out (Below_drewN (Below.refl _ _) _) (Nat.le_refl _)) y _ rfl rfl (by omega) (by have := hsz; exact this) ?_; intro g3 cap3 w3 hown3 hgrow3 hbel3 hsz3; have O3 := hid hown3; have L3 := hid (hbel3 w2 (Below_drewN LW.out _)); have hcx3 : w3.cell? ⟨bx, offx + k, none⟩ = some (.int .i64 x) := ((L3.out.cell (p := ⟨bx, offx + k, none⟩) hbx2).trans hcx2); clear hown3 hgrow3 hbel3)
              go_roundw
              case rel => exact ⟨t, L ++ [y], some ⟨g3, 0, none⟩, cap3, HT1.out, by simp, HE4.out, hsz3, L3.out, by simpa using O3.out⟩
              case measure => simp [slenR] <;> omega
            · obtain rfl : c1 = 1 := by omega
              go_wp2
              go_quiet (fail)
              go_wp2_with (at_builtin; refine wpList_appI rfl (.tmp 38) (.tmp 42) rfl w2.heap.size (.slice ao L.length c) L.length L rfl (own_below O.out (Below_drewN (Below.refl _ _) _) (Nat.le_refl _)) y _ rfl rfl (by omega) (by have := hsz; exact this) ?_; intro g3 cap3 w3 hown3 hgrow3 hbel3 hsz3; have O3 := hid hown3; have L3 := hid (hbel3 w2 (Below_drewN LW.out _)); have hcx3 : w3.cell? ⟨bx, offx + k, none⟩ = some (.int .i64 x) := ((L3.out.cell (p := ⟨bx, offx + k, none⟩) hbx2).trans hcx2); clear hown3 hgrow3 hbel3)
              go_roundw
              case rel => exact ⟨t, L ++ [y], some ⟨g3, 0, none⟩, cap3, (by have h0 : t = [] := List.eq_nil_of_length_eq_zero (by omega); subst h0; exact HTE1.out rfl _), by simp, HE4.out, hsz3, L3.out, by simpa using O3.out⟩
              case measure => simp [slenR] <;> omega
          · have hd : decide (y < x) = false := decide_eq_false hq
            have HE4 := hid (show (L ++ [x]) ++ eithL (a.drop (k + 1)) (y :: t) = E by have h := HE2.out; rw [eithL_stop x _ (y :: t) (by intro y' r h; cases h; exact hq)] at h; simpa using h)
            go_wp2
            go_quiet (fail)
            go_wp2_with (at_builtin; refine wpList_appI rfl (.tmp 46) (.tmp 51) rfl w2.heap.size (.slice ao L.length c) L.length L rfl (own_below O.out (Below_drewN (Below.refl _ _) _) (Nat.le_refl _)) x _ rfl rfl (by omega) (by have := hsz; exact this) ?_; intro g3 cap3 w3 hown3 hgrow3 hbel3 hsz3; have O3 := hid hown3; have L3 := hid (hbel3 w2 (Below_drewN LW.out _)); have hcx3 : w3.cell? ⟨bx, offx + k, none⟩ = some (.int .i64 x) := ((L3.out.cell (p := ⟨bx, offx + k, none⟩) hbx2).trans hcx2); clear hown3 hgrow3 hbel3)
            go_roundw
            case rel => exact ⟨k + 1, by omega, by go_num, y :: t, L ++ [x], some ⟨g3, 0, none⟩, cap3, HSX.out, by simp, HE4.out, hsz3, L3.out, by simpa using O3.out⟩
            case measure => simp [intOf]; omega
    · obtain rfl : k = a.length := by omega
      obtain ⟨S, L, ao, c, hSl, hv, hE2, hsz, hbel, hown⟩ := HR.out
      simp only [Value.slice.injEq] at hv
      obtain ⟨rfl, hLL, rfl⟩ := hv
      rw [hLL]
      rw [List.drop_length, eithL_end] at hE2
      have hLS : L.length + S.length = E.length := by rw [← hE2, List.length_append]
      obtain ⟨_, _, hvS, _⟩ := hSl.shape
      simp only [Value.slice.injEq] at hvS
      obtain ⟨rfl, hSS, rfl⟩ := hvS
      rw [hSS] at hSl ⊢
      have LW := hid hbel; have O := hid hown; have HE2 := hid hE2; have HSl := hid (hSl.below hbel (fun _ _ h => h))
      clear hbel hown hE2 hSl hLL hSS HR
      by_cases hbig : 1024 < E.length
      · have hd : decide (1024 < (L.length : Int) + (S.length : Int)) = true := decide_eq_true (by omega)
        have hr := hid (show r = ([], 3) by rw [HV.out, if_pos hbig])
        go_wp2_with (at_builtin; refine wpList_appIS rfl (.tmp 53) (.tmp 54) rfl w2.heap.size (.slice ao1 L.length c1) L.length L rfl O.out (.slice aor1 S.length cr1) S.length S rfl HSl.out (by omega) hsz ?_; intro ao4 cap4 w4 hown4 hgrow4 hbel4 hsz4; rw [HE2.out] at hown4; have O4 := hid hown4; have L4 := hid (hbel4 w2 LW.out); clear hown4 hgrow4 hbel4)
        go_ret2
        rw [hr.out]
        exact ⟨none, 0, rfl, L2.out.trans (L4.out.mono s2), World.ownsRow_nil _ _ _ _⟩
      · have hd : decide (1024 < (L.length : Int) + (S.length : Int)) = false := decide_eq_false (by omega)
        have hr := hid (show r = (E, 0) by rw [HV.out, if_neg hbig])
        go_wp2_with (at_builtin; refine wpList_appIS rfl (.tmp 53) (.tmp 54) rfl w2.heap.size (.slice ao1 L.length c1) L.length L rfl O.out (.slice aor1 S.length cr1) S.length S rfl HSl.out (by omega) hsz ?_; intro ao4 cap4 w4 hown4 hgrow4 hbel4 hsz4; rw [HE2.out] at hown4; have O4 := hid hown4; have L4 := hid (hbel4 w2 LW.out); clear hown4 hgrow4 hbel4)
        go_ret2
        rw [hr.out]
        exact ⟨ao4, cap4, rfl, L2.out.trans (L4.out.mono s2), by have h := own_base O4.out s2; rw [hLS] at h; exact h⟩

theorem refEither_any (va vb : Value) (a b : List Int) (w : World) (hla : a.length ≤ 19000000000000) (hlb : b.length ≤ 19000000000000) (ha : Sl w 1 va a.length (ic a)) (hb : Sl w 1 vb b.length (ic b)) (ha64 : I64 a) (hb64 : I64 b) :
    Calls Try.prog 17 #[va, vb] w (PutPostI w (refEV a b)) := by
  by_cases hc : refV a b = 0
  · have h1 : chkL a = 0 := by
      by_cases h : chkL a = 0
      · exact h
      · unfold refV at hc; rw [if_pos h] at hc; exact hc
    have h2 : chkL b = 0 := by unfold refV at hc; rw [if_neg (by simp [h1])] at hc; exact hc
    exact refEither_in va vb a b w (chkL_ok h1).1 (chkL_ok h2).1 ha hb ha64 hb64 hc
  · have H1 := hid (refused_any va vb a b w (by omega) (by omega) ha hb ha64 hb64)
    have hV : refEV a b = ([], refV a b) := by unfold refEV; rw [if_pos hc]
    rw [hV]
    generalize refV a b = m at *
    have hne : (m == 0) = false := by simpa using hc
    clear ha hb ha64 hb64 hV
    go_enter Try.func17, Try.ntmps17
    go_wp2_with fail
    refine H1.out.mono ?_
    rintro e w1 ⟨rfl, hb1⟩
    have L1 := hid hb1; have s1 := hb1.size; clear hb1
    go_wp2
    go_ret2
    exact ⟨none, 0, rfl, L1.out, World.ownsRow_nil _ _ _ _⟩
end Go.Proofs.Ytimeadnkligkaaa
