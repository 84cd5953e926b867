/- posting.along, the walk. -/
import Derived.Test.YtimeadnkligkaaaPc
namespace Go.Proofs.Ytimeadnkligkaaa
open Go.RowKit

def slen : Value → Nat
  | .slice _ n _ => n
  | _ => 0
def AlRel (w : World) (kp : Bool → Bool → Bool) (a b : List Int) (va vb vo : Value) (wr : World) : Prop :=
  ∃ f A B L ao c, vo = .slice ao L.length c ∧ Sl w 1 va A.length (ic A) ∧ Sl w 1 vb B.length (ic B) ∧ A.length + B.length ≤ f ∧ mergeL kp a b = L ++ mrg kp f A B ∧ L.length + f ≤ 100000 ∧
    w.heap.size ≤ wr.heap.size ∧ Below w.heap.size w wr ∧ wr.ownsRow w.heap.size 3 1 (.slice ao L.length c) L.length (ic L)

set_option linter.unusedSimpArgs false in
set_option linter.unusedVariables false in
set_option maxRecDepth 100000 in
set_option maxHeartbeats 4000000 in
theorem along_in (F : FuncId) (kp : Bool → Bool → Bool) (hin : ∀ args w, (callFunc F args).run Try.prog w = .ok (.enter F args) w) (hF : ∀ x y w, Calls Try.prog F #[.bool x, .bool y] w fun e w' => e = .returned (.bool (kp x y)) ∧ w' = w) (va vb : Value) (a b : List Int) (w : World)
    (ha : Sl w 1 va a.length (ic a)) (hb : Sl w 1 vb b.length (ic b)) (ha64 : I64 a) (hb64 : I64 b) (hca : chkL a = 0) (hcb : chkL b = 0) :
    Calls Try.prog 26 #[va, vb, .func (Fn.func F) #[] #[]] w (PutPostI w (alongV kp a b)) := by
  have hla := (chkL_ok hca).1
  have hlb := (chkL_ok hcb).1
  have hC1 := check_any va a w (by omega) ha ha64
  have hC2 := check_any vb b w (by omega) hb hb64
  rw [hca] at hC1
  rw [hcb] at hC2
  have hV : alongV kp a b = if 1024 < (mergeL kp a b).length then ([], 3) else (mergeL kp a b, 0) := by unfold alongV; rw [if_neg (by simp [hca]), if_neg (by simp [hcb])]
  have HC1 := hid hC1; have HC2 := hid hC2; have HV := hid hV; have HF := hid hF
  obtain ⟨r, hr⟩ : ∃ r, r = alongV kp a b := ⟨_, rfl⟩
  have HR := hid hr
  rw [← hr]
  have HS := hid (show AlRel w kp a b va vb (.slice none 0 0) w from ⟨a.length + b.length, a, b, [], none, 0, rfl, ha, hb, Nat.le_refl _, rfl, by simp; omega, Nat.le_refl _, Below.refl _ _, World.ownsRow_nil _ _ _ _⟩)
  have Ha := hid ha; have Hb := hid hb
  clear hC1 hC2 hV hF hr ha hb ha64 hb64 hca hcb
  go_enter Try.func26, Try.ntmps26
  go_wp2_with fail
  refine HC1.out.mono ?_
  rintro e wz ⟨rfl, hwz⟩
  subst wz
  go_wp2_with fail
  refine HC2.out.mono ?_
  rintro e wz ⟨rfl, hwz⟩
  subst wz
  go_wp2_with fail
  go_loopw [0, 1, 10, 11, 12, 13] (fun x y o _ _ _ wr => AlRel w kp a b x y o wr)
    (fun x y _ _ _ _ _ => slen x + slen y)
  case atStart => exact HS.out
  case round =>
    obtain ⟨f, A, B, L, ao, c, rfl, hA, hB, hf, hm, hb9, hsz, hbel, hown⟩ := hrel
    have LW := hid hbel; have O := hid hown; have HM := hid hm
    clear hbel hown hm
    match A, B, hA, hB, hf, HM with
    | [], [], hA, hB, hf, HM =>
      obtain ⟨aoa, ca, rfl, _⟩ := hA.shape
      obtain ⟨aob, cb, rfl, _⟩ := hB.shape
      have HML := hid (show mergeL kp a b = L by have h := HM.out; cases f <;> simpa [mrg] using h)
      clear hA hB
      simp only [List.length_nil] at hf ⊢
      -- ROUNDS
      by_cases hbig : 1024 < L.length
      · have hd : decide (1024 < (L.length : Int)) = true := decide_eq_true (by omega)
        have hr := hid (show r = ([], 3) by rw [HR.out, HV.out, HML.out, if_pos hbig])
        go_wp2
        go_ret2
        rw [hr.out]
        exact ⟨none, 0, rfl, LW.out, World.ownsRow_nil _ _ _ _⟩
      · have hd : decide (1024 < (L.length : Int)) = false := decide_eq_false (by omega)
        have hr := hid (show r = (L, 0) by rw [HR.out, HV.out, HML.out, if_neg hbig])
        go_wp2
        go_ret2
        rw [hr.out]
        exact ⟨ao, c, rfl, LW.out, O.out⟩
    | x :: A, [], hA, hB, hf, HM =>
      have HA := hid hA; have HB := hid hB
      obtain ⟨f, rfl⟩ : ∃ g, f = g + 1 := ⟨f - 1, by simp at hf; omega⟩
      obtain ⟨b1, off1, c1, rfl, hc1, hbl1, hcell1, ht1, hte1⟩ := Sl.tail hA
      have hcw1 : wr.cell? ⟨b1, off1, none⟩ = some (.int .i64 x) := (LW.out.cell (p := ⟨b1, off1, none⟩) hbl1).trans hcell1
      have HT1 := hid ht1; have HTE1 := hid hte1
      obtain ⟨aob, cb, rfl, _⟩ := hB.shape
      have i1 : (0 : Int) < (A.length : Int) + 1 := by omega
      clear ht1 hte1 hcell1 hA hB
      simp only [List.length_cons, List.length_nil] at hf ⊢
      rcases Nat.lt_or_ge 1 c1 with hcp1 | hcp1
      · have hci1 : (1 : Int) < (c1 : Int) := by omega
        by_cases hk : kp true false = true
        · have HM2 := hid (show mergeL kp a b = (L ++ [x]) ++ mrg kp f A [] by rw [HM.out, mrg, if_pos hk]; simp)
          go_wp2
          go_quiet (fail)
          go_wp2_with fail
          go_quiet (fail)
          go_wp2_with fail
          go_quiet (fail)
          go_wp2_with fail
          refine (HF.out _ _ _).mono ?_
          rintro e wz ⟨rfl, hwz⟩
          subst wz
          go_wp2_with (at_builtin; refine wpList_appI rfl (.tmp 82) (.tmp 84) rfl w.heap.size (.slice ao L.length c) L.length L rfl (own_below O.out (Below_drewN (Below.refl _ _) _) (Nat.le_refl _)) x _ rfl rfl (by omega) (by have := hsz; exact this) ?_; intro g3 cap3 w3 hown3 hgrow3 hbel3 hsz3; have O3 := hid hown3; have L3 := hid (hbel3 w (Below_drewN LW.out _)); clear hown3 hgrow3 hbel3)
          go_roundw
          case rel => exact ⟨f, A, [], L ++ [x], some ⟨g3, 0, none⟩, cap3, by simp, HT1.out, HB.out, by (try simp only [List.length_cons, List.length_nil] at hf ⊢); omega, HM2.out, by simp; omega, hsz3, L3.out, by simpa using O3.out⟩
          case measure => simp [slen] <;> omega
        · have HM2 := hid (show mergeL kp a b = L ++ mrg kp f A [] by rw [HM.out, mrg, if_neg hk])
          have hk : kp true false = false := by simpa using hk
          go_wp2
          go_quiet (fail)
          go_wp2_with fail
          go_quiet (fail)
          go_wp2_with fail
          go_quiet (fail)
          go_wp2_with fail
          refine (HF.out _ _ _).mono ?_
          rintro e wz ⟨rfl, hwz⟩
          subst wz
          go_wp2
          go_roundw
          case rel => exact ⟨f, A, [], L, ao, c, rfl, HT1.out, HB.out, by (try simp only [List.length_cons, List.length_nil] at hf ⊢); omega, HM2.out, by omega, hsz, Below_drewN LW.out _, own_below O.out (Below_drewN (Below.refl _ _) _) (Nat.le_refl _)⟩
          case measure => simp [slen] <;> omega
      · obtain rfl : c1 = 1 := by omega
        by_cases hk : kp true false = true
        · have HM2 := hid (show mergeL kp a b = (L ++ [x]) ++ mrg kp f A [] by rw [HM.out, mrg, if_pos hk]; simp)
          go_wp2
          go_quiet (fail)
          go_wp2_with fail
          go_quiet (fail)
          go_wp2_with fail
          go_quiet (fail)
          go_wp2_with fail
          refine (HF.out _ _ _).mono ?_
          rintro e wz ⟨rfl, hwz⟩
          subst wz
          go_wp2_with (at_builtin; refine wpList_appI rfl (.tmp 82) (.tmp 84) rfl w.heap.size (.slice ao L.length c) L.length L rfl (own_below O.out (Below_drewN (Below.refl _ _) _) (Nat.le_refl _)) x _ rfl rfl (by omega) (by have := hsz; exact this) ?_; intro g3 cap3 w3 hown3 hgrow3 hbel3 hsz3; have O3 := hid hown3; have L3 := hid (hbel3 w (Below_drewN LW.out _)); clear hown3 hgrow3 hbel3)
          go_roundw
          case rel => exact ⟨f, A, [], L ++ [x], some ⟨g3, 0, none⟩, cap3, by simp, (by have h0 : A = [] := List.eq_nil_of_length_eq_zero (by omega); subst h0; exact HTE1.out rfl _), HB.out, by (try simp only [List.length_cons, List.length_nil] at hf ⊢); omega, HM2.out, by simp; omega, hsz3, L3.out, by simpa using O3.out⟩
          case measure => simp [slen] <;> omega
        · have HM2 := hid (show mergeL kp a b = L ++ mrg kp f A [] by rw [HM.out, mrg, if_neg hk])
          have hk : kp true false = false := by simpa using hk
          go_wp2
          go_quiet (fail)
          go_wp2_with fail
          go_quiet (fail)
          go_wp2_with fail
          go_quiet (fail)
          go_wp2_with fail
          refine (HF.out _ _ _).mono ?_
          rintro e wz ⟨rfl, hwz⟩
          subst wz
          go_wp2
          go_roundw
          case rel => exact ⟨f, A, [], L, ao, c, rfl, (by have h0 : A = [] := List.eq_nil_of_length_eq_zero (by omega); subst h0; exact HTE1.out rfl _), HB.out, by (try simp only [List.length_cons, List.length_nil] at hf ⊢); omega, HM2.out, by omega, hsz, Below_drewN LW.out _, own_below O.out (Below_drewN (Below.refl _ _) _) (Nat.le_refl _)⟩
          case measure => simp [slen] <;> omega
    | [], y :: B, hA, hB, hf, HM =>
      have HA := hid hA; have HB := hid hB
      obtain ⟨f, rfl⟩ : ∃ g, f = g + 1 := ⟨f - 1, by simp at hf; omega⟩
      obtain ⟨b2, off2, c2, rfl, hc2, hbl2, hcell2, ht2, hte2⟩ := Sl.tail hB
      have hcw2 : wr.cell? ⟨b2, off2, none⟩ = some (.int .i64 y) := (LW.out.cell (p := ⟨b2, off2, none⟩) hbl2).trans hcell2
      have HT2 := hid ht2; have HTE2 := hid hte2
      obtain ⟨aoa, ca, rfl, _⟩ := hA.shape
      have i1 : (0 : Int) < (B.length : Int) + 1 := by omega
      clear ht2 hte2 hcell2 hA hB
      simp only [List.length_cons, List.length_nil] at hf ⊢
      rcases Nat.lt_or_ge 1 c2 with hcp2 | hcp2
      · have hci2 : (1 : Int) < (c2 : Int) := by omega
        by_cases hk : kp false true = true
        · have HM2 := hid (show mergeL kp a b = (L ++ [y]) ++ mrg kp f [] B by rw [HM.out, mrg, if_pos hk]; simp)
          go_wp2
          go_quiet (fail)
          go_wp2_with fail
          go_quiet (fail)
          go_wp2_with fail
          go_quiet (fail)
          go_wp2_with fail
          refine (HF.out _ _ _).mono ?_
          rintro e wz ⟨rfl, hwz⟩
          subst wz
          go_wp2_with (at_builtin; refine wpList_appI rfl (.tmp 82) (.tmp 84) rfl w.heap.size (.slice ao L.length c) L.length L rfl (own_below O.out (Below_drewN (Below.refl _ _) _) (Nat.le_refl _)) y _ rfl rfl (by omega) (by have := hsz; exact this) ?_; intro g3 cap3 w3 hown3 hgrow3 hbel3 hsz3; have O3 := hid hown3; have L3 := hid (hbel3 w (Below_drewN LW.out _)); clear hown3 hgrow3 hbel3)
          go_roundw
          case rel => exact ⟨f, [], B, L ++ [y], some ⟨g3, 0, none⟩, cap3, by simp, HA.out, HT2.out, by (try simp only [List.length_cons, List.length_nil] at hf ⊢); omega, HM2.out, by simp; omega, hsz3, L3.out, by simpa using O3.out⟩
          case measure => simp [slen] <;> omega
        · have HM2 := hid (show mergeL kp a b = L ++ mrg kp f [] B by rw [HM.out, mrg, if_neg hk])
          have hk : kp false true = false := by simpa using hk
          go_wp2
          go_quiet (fail)
          go_wp2_with fail
          go_quiet (fail)
          go_wp2_with fail
          go_quiet (fail)
          go_wp2_with fail
          refine (HF.out _ _ _).mono ?_
          rintro e wz ⟨rfl, hwz⟩
          subst wz
          go_wp2
          go_roundw
          case rel => exact ⟨f, [], B, L, ao, c, rfl, HA.out, HT2.out, by (try simp only [List.length_cons, List.length_nil] at hf ⊢); omega, HM2.out, by omega, hsz, Below_drewN LW.out _, own_below O.out (Below_drewN (Below.refl _ _) _) (Nat.le_refl _)⟩
          case measure => simp [slen] <;> omega
      · obtain rfl : c2 = 1 := by omega
        by_cases hk : kp false true = true
        · have HM2 := hid (show mergeL kp a b = (L ++ [y]) ++ mrg kp f [] B by rw [HM.out, mrg, if_pos hk]; simp)
          go_wp2
          go_quiet (fail)
          go_wp2_with fail
          go_quiet (fail)
          go_wp2_with fail
          go_quiet (fail)
          go_wp2_with fail
          refine (HF.out _ _ _).mono ?_
          rintro e wz ⟨rfl, hwz⟩
          subst wz
          go_wp2_with (at_builtin; refine wpList_appI rfl (.tmp 82) (.tmp 84) rfl w.heap.size (.slice ao L.length c) L.length L rfl (own_below O.out (Below_drewN (Below.refl _ _) _) (Nat.le_refl _)) y _ rfl rfl (by omega) (by have := hsz; exact this) ?_; intro g3 cap3 w3 hown3 hgrow3 hbel3 hsz3; have O3 := hid hown3; have L3 := hid (hbel3 w (Below_drewN LW.out _)); clear hown3 hgrow3 hbel3)
          go_roundw
          case rel => exact ⟨f, [], B, L ++ [y], some ⟨g3, 0, none⟩, cap3, by simp, HA.out, (by have h0 : B = [] := List.eq_nil_of_length_eq_zero (by omega); subst h0; exact HTE2.out rfl _), by (try simp only [List.length_cons, List.length_nil] at hf ⊢); omega, HM2.out, by simp; omega, hsz3, L3.out, by simpa using O3.out⟩
          case measure => simp [slen] <;> omega
        · have HM2 := hid (show mergeL kp a b = L ++ mrg kp f [] B by rw [HM.out, mrg, if_neg hk])
          have hk : kp false true = false := by simpa using hk
          go_wp2
          go_quiet (fail)
          go_wp2_with fail
          go_quiet (fail)
          go_wp2_with fail
          go_quiet (fail)
          go_wp2_with fail
          refine (HF.out _ _ _).mono ?_
          rintro e wz ⟨rfl, hwz⟩
          subst wz
          go_wp2
          go_roundw
          case rel => exact ⟨f, [], B, L, ao, c, rfl, HA.out, (by have h0 : B = [] := List.eq_nil_of_length_eq_zero (by omega); subst h0; exact HTE2.out rfl _), by (try simp only [List.length_cons, List.length_nil] at hf ⊢); omega, HM2.out, by omega, hsz, Below_drewN LW.out _, own_below O.out (Below_drewN (Below.refl _ _) _) (Nat.le_refl _)⟩
          case measure => simp [slen] <;> omega
    | x :: A, y :: B, hA, hB, hf, HM =>
      have HA := hid hA; have HB := hid hB
      obtain ⟨f, rfl⟩ : ∃ g, f = g + 1 := ⟨f - 1, by simp at hf; omega⟩
      obtain ⟨b1, off1, c1, rfl, hc1, hbl1, hcell1, ht1, hte1⟩ := Sl.tail hA
      have hcw1 : wr.cell? ⟨b1, off1, none⟩ = some (.int .i64 x) := (LW.out.cell (p := ⟨b1, off1, none⟩) hbl1).trans hcell1
      have HT1 := hid ht1; have HTE1 := hid hte1
      obtain ⟨b2, off2, c2, rfl, hc2, hbl2, hcell2, ht2, hte2⟩ := Sl.tail hB
      have hcw2 : wr.cell? ⟨b2, off2, none⟩ = some (.int .i64 y) := (LW.out.cell (p := ⟨b2, off2, none⟩) hbl2).trans hcell2
      have HT2 := hid ht2; have HTE2 := hid hte2
      have i1 : (0 : Int) < (A.length : Int) + 1 := by omega
      have i2 : (0 : Int) < (B.length : Int) + 1 := by omega
      have z1 : ((A.length : Int) + 1 == 0) = false := by simp; omega
      have z2 : ((B.length : Int) + 1 == 0) = false := by simp; omega
      clear ht1 hte1 hcell1 ht2 hte2 hcell2 hA hB
      simp only [List.length_cons, List.length_nil] at hf ⊢
      by_cases h1 : x < y
      · have d1 : decide (x ≤ y) = true := decide_eq_true (by omega)
        have d2 : decide (y ≤ x) = false := decide_eq_false (by omega)
        rcases Nat.lt_or_ge 1 c1 with hcp1 | hcp1
        · have hci1 : (1 : Int) < (c1 : Int) := by omega
          by_cases hk : kp true false = true
          · have HM2 := hid (show mergeL kp a b = (L ++ [x]) ++ mrg kp f A (y :: B) by rw [HM.out, mrg, if_pos h1, if_pos hk]; simp)
            go_wp2
            go_quiet (fail)
            go_wp2_with fail
            go_quiet (fail)
            go_wp2_with fail
            go_quiet (fail)
            go_wp2_with fail
            refine (HF.out _ _ _).mono ?_
            rintro e wz ⟨rfl, hwz⟩
            subst wz
            go_wp2_with (at_builtin; refine wpList_appI rfl (.tmp 82) (.tmp 84) rfl w.heap.size (.slice ao L.length c) L.length L rfl (own_below O.out (Below_drewN (Below.refl _ _) _) (Nat.le_refl _)) x _ rfl rfl (by omega) (by have := hsz; exact this) ?_; intro g3 cap3 w3 hown3 hgrow3 hbel3 hsz3; have O3 := hid hown3; have L3 := hid (hbel3 w (Below_drewN LW.out _)); clear hown3 hgrow3 hbel3)
            go_roundw
            case rel => exact ⟨f, A, (y :: B), L ++ [x], some ⟨g3, 0, none⟩, cap3, by simp, HT1.out, HB.out, by (try simp only [List.length_cons, List.length_nil] at hf ⊢); omega, HM2.out, by simp; omega, hsz3, L3.out, by simpa using O3.out⟩
            case measure => simp [slen] <;> omega
          · have HM2 := hid (show mergeL kp a b = L ++ mrg kp f A (y :: B) by rw [HM.out, mrg, if_pos h1, if_neg hk])
            have hk : kp true false = false := by simpa using hk
            go_wp2
            go_quiet (fail)
            go_wp2_with fail
            go_quiet (fail)
            go_wp2_with fail
            go_quiet (fail)
            go_wp2_with fail
            refine (HF.out _ _ _).mono ?_
            rintro e wz ⟨rfl, hwz⟩
            subst wz
            go_wp2
            go_roundw
            case rel => exact ⟨f, A, (y :: B), L, ao, c, rfl, HT1.out, HB.out, by (try simp only [List.length_cons, List.length_nil] at hf ⊢); omega, HM2.out, by omega, hsz, Below_drewN LW.out _, own_below O.out (Below_drewN (Below.refl _ _) _) (Nat.le_refl _)⟩
            case measure => simp [slen] <;> omega
        · obtain rfl : c1 = 1 := by omega
          by_cases hk : kp true false = true
          · have HM2 := hid (show mergeL kp a b = (L ++ [x]) ++ mrg kp f A (y :: B) by rw [HM.out, mrg, if_pos h1, if_pos hk]; simp)
            go_wp2
            go_quiet (fail)
            go_wp2_with fail
            go_quiet (fail)
            go_wp2_with fail
            go_quiet (fail)
            go_wp2_with fail
            refine (HF.out _ _ _).mono ?_
            rintro e wz ⟨rfl, hwz⟩
            subst wz
            go_wp2_with (at_builtin; refine wpList_appI rfl (.tmp 82) (.tmp 84) rfl w.heap.size (.slice ao L.length c) L.length L rfl (own_below O.out (Below_drewN (Below.refl _ _) _) (Nat.le_refl _)) x _ rfl rfl (by omega) (by have := hsz; exact this) ?_; intro g3 cap3 w3 hown3 hgrow3 hbel3 hsz3; have O3 := hid hown3; have L3 := hid (hbel3 w (Below_drewN LW.out _)); clear hown3 hgrow3 hbel3)
            go_roundw
            case rel => exact ⟨f, A, (y :: B), L ++ [x], some ⟨g3, 0, none⟩, cap3, by simp, (by have h0 : A = [] := List.eq_nil_of_length_eq_zero (by omega); subst h0; exact HTE1.out rfl _), HB.out, by (try simp only [List.length_cons, List.length_nil] at hf ⊢); omega, HM2.out, by simp; omega, hsz3, L3.out, by simpa using O3.out⟩
            case measure => simp [slen] <;> omega
          · have HM2 := hid (show mergeL kp a b = L ++ mrg kp f A (y :: B) by rw [HM.out, mrg, if_pos h1, if_neg hk])
            have hk : kp true false = false := by simpa using hk
            go_wp2
            go_quiet (fail)
            go_wp2_with fail
            go_quiet (fail)
            go_wp2_with fail
            go_quiet (fail)
            go_wp2_with fail
            refine (HF.out _ _ _).mono ?_
            rintro e wz ⟨rfl, hwz⟩
            subst wz
            go_wp2
            go_roundw
            case rel => exact ⟨f, A, (y :: B), L, ao, c, rfl, (by have h0 : A = [] := List.eq_nil_of_length_eq_zero (by omega); subst h0; exact HTE1.out rfl _), HB.out, by (try simp only [List.length_cons, List.length_nil] at hf ⊢); omega, HM2.out, by omega, hsz, Below_drewN LW.out _, own_below O.out (Below_drewN (Below.refl _ _) _) (Nat.le_refl _)⟩
            case measure => simp [slen] <;> omega
      · by_cases h2 : y < x
        · have d1 : decide (x ≤ y) = false := decide_eq_false (by omega)
          have d2 : decide (y ≤ x) = true := decide_eq_true (by omega)
          rcases Nat.lt_or_ge 1 c2 with hcp2 | hcp2
          · have hci2 : (1 : Int) < (c2 : Int) := by omega
            by_cases hk : kp false true = true
            · have HM2 := hid (show mergeL kp a b = (L ++ [y]) ++ mrg kp f (x :: A) B by rw [HM.out, mrg, if_neg h1, if_pos h2, if_pos hk]; simp)
              go_wp2
              go_quiet (fail)
              go_wp2_with fail
              go_quiet (fail)
              go_wp2_with fail
              go_quiet (fail)
              go_wp2_with fail
              refine (HF.out _ _ _).mono ?_
              rintro e wz ⟨rfl, hwz⟩
              subst wz
              go_wp2_with (at_builtin; refine wpList_appI rfl (.tmp 82) (.tmp 84) rfl w.heap.size (.slice ao L.length c) L.length L rfl (own_below O.out (Below_drewN (Below.refl _ _) _) (Nat.le_refl _)) y _ rfl rfl (by omega) (by have := hsz; exact this) ?_; intro g3 cap3 w3 hown3 hgrow3 hbel3 hsz3; have O3 := hid hown3; have L3 := hid (hbel3 w (Below_drewN LW.out _)); clear hown3 hgrow3 hbel3)
              go_roundw
              case rel => exact ⟨f, (x :: A), B, L ++ [y], some ⟨g3, 0, none⟩, cap3, by simp, HA.out, HT2.out, by (try simp only [List.length_cons, List.length_nil] at hf ⊢); omega, HM2.out, by simp; omega, hsz3, L3.out, by simpa using O3.out⟩
              case measure => simp [slen] <;> omega
            · have HM2 := hid (show mergeL kp a b = L ++ mrg kp f (x :: A) B by rw [HM.out, mrg, if_neg h1, if_pos h2, if_neg hk])
              have hk : kp false true = false := by simpa using hk
              go_wp2
              go_quiet (fail)
              go_wp2_with fail
              go_quiet (fail)
              go_wp2_with fail
              go_quiet (fail)
              go_wp2_with fail
              refine (HF.out _ _ _).mono ?_
              rintro e wz ⟨rfl, hwz⟩
              subst wz
              go_wp2
              go_roundw
              case rel => exact ⟨f, (x :: A), B, L, ao, c, rfl, HA.out, HT2.out, by (try simp only [List.length_cons, List.length_nil] at hf ⊢); omega, HM2.out, by omega, hsz, Below_drewN LW.out _, own_below O.out (Below_drewN (Below.refl _ _) _) (Nat.le_refl _)⟩
              case measure => simp [slen] <;> omega
          · obtain rfl : c2 = 1 := by omega
            by_cases hk : kp false true = true
            · have HM2 := hid (show mergeL kp a b = (L ++ [y]) ++ mrg kp f (x :: A) B by rw [HM.out, mrg, if_neg h1, if_pos h2, if_pos hk]; simp)
              go_wp2
              go_quiet (fail)
              go_wp2_with fail
              go_quiet (fail)
              go_wp2_with fail
              go_quiet (fail)
              go_wp2_with fail
              refine (HF.out _ _ _).mono ?_
              rintro e wz ⟨rfl, hwz⟩
              subst wz
              go_wp2_with (at_builtin; refine wpList_appI rfl (.tmp 82) (.tmp 84) rfl w.heap.size (.slice ao L.length c) L.length L rfl (own_below O.out (Below_drewN (Below.refl _ _) _) (Nat.le_refl _)) y _ rfl rfl (by omega) (by have := hsz; exact this) ?_; intro g3 cap3 w3 hown3 hgrow3 hbel3 hsz3; have O3 := hid hown3; have L3 := hid (hbel3 w (Below_drewN LW.out _)); clear hown3 hgrow3 hbel3)
              go_roundw
              case rel => exact ⟨f, (x :: A), B, L ++ [y], some ⟨g3, 0, none⟩, cap3, by simp, HA.out, (by have h0 : B = [] := List.eq_nil_of_length_eq_zero (by omega); subst h0; exact HTE2.out rfl _), by (try simp only [List.length_cons, List.length_nil] at hf ⊢); omega, HM2.out, by simp; omega, hsz3, L3.out, by simpa using O3.out⟩
              case measure => simp [slen] <;> omega
            · have HM2 := hid (show mergeL kp a b = L ++ mrg kp f (x :: A) B by rw [HM.out, mrg, if_neg h1, if_pos h2, if_neg hk])
              have hk : kp false true = false := by simpa using hk
              go_wp2
              go_quiet (fail)
              go_wp2_with fail
              go_quiet (fail)
              go_wp2_with fail
              go_quiet (fail)
              go_wp2_with fail
              refine (HF.out _ _ _).mono ?_
              rintro e wz ⟨rfl, hwz⟩
              subst wz
              go_wp2
              go_roundw
              case rel => exact ⟨f, (x :: A), B, L, ao, c, rfl, HA.out, (by have h0 : B = [] := List.eq_nil_of_length_eq_zero (by omega); subst h0; exact HTE2.out rfl _), by (try simp only [List.length_cons, List.length_nil] at hf ⊢); omega, HM2.out, by omega, hsz, Below_drewN LW.out _, own_below O.out (Below_drewN (Below.refl _ _) _) (Nat.le_refl _)⟩
              case measure => simp [slen] <;> omega
        · have d1 : decide (x ≤ y) = true := decide_eq_true (by omega)
          have d2 : decide (y ≤ x) = true := decide_eq_true (by omega)
          rcases Nat.lt_or_ge 1 c1 with hcp1 | hcp1
          · have hci1 : (1 : Int) < (c1 : Int) := by omega
            rcases Nat.lt_or_ge 1 c2 with hcp2 | hcp2
            · have hci2 : (1 : Int) < (c2 : Int) := by omega
              by_cases hk : kp true true = true
              · have HM2 := hid (show mergeL kp a b = (L ++ [y]) ++ mrg kp f A B by rw [HM.out, mrg, if_neg h1, if_neg h2, if_pos hk]; simp)
                go_wp2
                go_quiet (fail)
                go_wp2_with fail
                go_quiet (fail)
                go_wp2_with fail
                go_quiet (fail)
                go_wp2_with fail
                go_quiet (fail)
                go_wp2_with fail
                refine (HF.out _ _ _).mono ?_
                rintro e wz ⟨rfl, hwz⟩
                subst wz
                go_wp2_with (at_builtin; refine wpList_appI rfl (.tmp 82) (.tmp 84) rfl w.heap.size (.slice ao L.length c) L.length L rfl (own_below O.out (Below_drewN (Below.refl _ _) _) (Nat.le_refl _)) y _ rfl rfl (by omega) (by have := hsz; exact this) ?_; intro g3 cap3 w3 hown3 hgrow3 hbel3 hsz3; have O3 := hid hown3; have L3 := hid (hbel3 w (Below_drewN LW.out _)); clear hown3 hgrow3 hbel3)
                go_roundw
                case rel => exact ⟨f, A, B, L ++ [y], some ⟨g3, 0, none⟩, cap3, by simp, HT1.out, HT2.out, by (try simp only [List.length_cons, List.length_nil] at hf ⊢); omega, HM2.out, by simp; omega, hsz3, L3.out, by simpa using O3.out⟩
                case measure => simp [slen] <;> omega
              · have HM2 := hid (show mergeL kp a b = L ++ mrg kp f A B by rw [HM.out, mrg, if_neg h1, if_neg h2, if_neg hk])
                have hk : kp true true = false := by simpa using hk
                go_wp2
                go_quiet (fail)
                go_wp2_with fail
                go_quiet (fail)
                go_wp2_with fail
                go_quiet (fail)
                go_wp2_with fail
                go_quiet (fail)
                go_wp2_with fail
                refine (HF.out _ _ _).mono ?_
                rintro e wz ⟨rfl, hwz⟩
                subst wz
                go_wp2
                go_roundw
                case rel => exact ⟨f, A, B, L, ao, c, rfl, HT1.out, HT2.out, by (try simp only [List.length_cons, List.length_nil] at hf ⊢); omega, HM2.out, by omega, hsz, Below_drewN LW.out _, own_below O.out (Below_drewN (Below.refl _ _) _) (Nat.le_refl _)⟩
                case measure => simp [slen] <;> omega
            · obtain rfl : c2 = 1 := by omega
              by_cases hk : kp true true = true
              · have HM2 := hid (show mergeL kp a b = (L ++ [y]) ++ mrg kp f A B by rw [HM.out, mrg, if_neg h1, if_neg h2, if_pos hk]; simp)
                go_wp2
                go_quiet (fail)
                go_wp2_with fail
                go_quiet (fail)
                go_wp2_with fail
                go_quiet (fail)
                go_wp2_with fail
                go_quiet (fail)
                go_wp2_with fail
                refine (HF.out _ _ _).mono ?_
                rintro e wz ⟨rfl, hwz⟩
                subst wz
                go_wp2_with (at_builtin; refine wpList_appI rfl (.tmp 82) (.tmp 84) rfl w.heap.size (.slice ao L.length c) L.length L rfl (own_below O.out (Below_drewN (Below.refl _ _) _) (Nat.le_refl _)) y _ rfl rfl (by omega) (by have := hsz; exact this) ?_; intro g3 cap3 w3 hown3 hgrow3 hbel3 hsz3; have O3 := hid hown3; have L3 := hid (hbel3 w (Below_drewN LW.out _)); clear hown3 hgrow3 hbel3)
                go_roundw
                case rel => exact ⟨f, A, B, L ++ [y], some ⟨g3, 0, none⟩, cap3, by simp, HT1.out, (by have h0 : B = [] := List.eq_nil_of_length_eq_zero (by omega); subst h0; exact HTE2.out rfl _), by (try simp only [List.length_cons, List.length_nil] at hf ⊢); omega, HM2.out, by simp; omega, hsz3, L3.out, by simpa using O3.out⟩
                case measure => simp [slen] <;> omega
              · have HM2 := hid (show mergeL kp a b = L ++ mrg kp f A B by rw [HM.out, mrg, if_neg h1, if_neg h2, if_neg hk])
                have hk : kp true true = false := by simpa using hk
                go_wp2
                go_quiet (fail)
                go_wp2_with fail
                go_quiet (fail)
                go_wp2_with fail
                go_quiet (fail)
                go_wp2_with fail
                go_quiet (fail)
                go_wp2_with fail
                refine (HF.out _ _ _).mono ?_
                rintro e wz ⟨rfl, hwz⟩
                subst wz
                go_wp2
                go_roundw
                case rel => exact ⟨f, A, B, L, ao, c, rfl, HT1.out, (by have h0 : B = [] := List.eq_nil_of_length_eq_zero (by omega); subst h0; exact HTE2.out rfl _), by (try simp only [List.length_cons, List.length_nil] at hf ⊢); omega, HM2.out, by omega, hsz, Below_drewN LW.out _, own_below O.out (Below_drewN (Below.refl _ _) _) (Nat.le_refl _)⟩
                case measure => simp [slen] <;> omega
          · obtain rfl : c1 = 1 := by omega
            rcases Nat.lt_or_ge 1 c2 with hcp2 | hcp2
            · have hci2 : (1 : Int) < (c2 : Int) := by omega
              by_cases hk : kp true true = true
              · have HM2 := hid (show mergeL kp a b = (L ++ [y]) ++ mrg kp f A B by rw [HM.out, mrg, if_neg h1, if_neg h2, if_pos hk]; simp)
                go_wp2
                go_quiet (fail)
                go_wp2_with fail
                go_quiet (fail)
                go_wp2_with fail
                go_quiet (fail)
                go_wp2_with fail
                go_quiet (fail)
                go_wp2_with fail
                refine (HF.out _ _ _).mono ?_
                rintro e wz ⟨rfl, hwz⟩
                subst wz
                go_wp2_with (at_builtin; refine wpList_appI rfl (.tmp 82) (.tmp 84) rfl w.heap.size (.slice ao L.length c) L.length L rfl (own_below O.out (Below_drewN (Below.refl _ _) _) (Nat.le_refl _)) y _ rfl rfl (by omega) (by have := hsz; exact this) ?_; intro g3 cap3 w3 hown3 hgrow3 hbel3 hsz3; have O3 := hid hown3; have L3 := hid (hbel3 w (Below_drewN LW.out _)); clear hown3 hgrow3 hbel3)
                go_roundw
                case rel => exact ⟨f, A, B, L ++ [y], some ⟨g3, 0, none⟩, cap3, by simp, (by have h0 : A = [] := List.eq_nil_of_length_eq_zero (by omega); subst h0; exact HTE1.out rfl _), HT2.out, by (try simp only [List.length_cons, List.length_nil] at hf ⊢); omega, HM2.out, by simp; omega, hsz3, L3.out, by simpa using O3.out⟩
                case measure => simp [slen] <;> omega
              · have HM2 := hid (show mergeL kp a b = L ++ mrg kp f A B by rw [HM.out, mrg, if_neg h1, if_neg h2, if_neg hk])
                have hk : kp true true = false := by simpa using hk
                go_wp2
                go_quiet (fail)
                go_wp2_with fail
                go_quiet (fail)
                go_wp2_with fail
                go_quiet (fail)
                go_wp2_with fail
                go_quiet (fail)
                go_wp2_with fail
                refine (HF.out _ _ _).mono ?_
                rintro e wz ⟨rfl, hwz⟩
                subst wz
                go_wp2
                go_roundw
                case rel => exact ⟨f, A, B, L, ao, c, rfl, (by have h0 : A = [] := List.eq_nil_of_length_eq_zero (by omega); subst h0; exact HTE1.out rfl _), HT2.out, by (try simp only [List.length_cons, List.length_nil] at hf ⊢); omega, HM2.out, by omega, hsz, Below_drewN LW.out _, own_below O.out (Below_drewN (Below.refl _ _) _) (Nat.le_refl _)⟩
                case measure => simp [slen] <;> omega
            · obtain rfl : c2 = 1 := by omega
              by_cases hk : kp true true = true
              · have HM2 := hid (show mergeL kp a b = (L ++ [y]) ++ mrg kp f A B by rw [HM.out, mrg, if_neg h1, if_neg h2, if_pos hk]; simp)
                go_wp2
                go_quiet (fail)
                go_wp2_with fail
                go_quiet (fail)
                go_wp2_with fail
                go_quiet (fail)
                go_wp2_with fail
                go_quiet (fail)
                go_wp2_with fail
                refine (HF.out _ _ _).mono ?_
                rintro e wz ⟨rfl, hwz⟩
                subst wz
                go_wp2_with (at_builtin; refine wpList_appI rfl (.tmp 82) (.tmp 84) rfl w.heap.size (.slice ao L.length c) L.length L rfl (own_below O.out (Below_drewN (Below.refl _ _) _) (Nat.le_refl _)) y _ rfl rfl (by omega) (by have := hsz; exact this) ?_; intro g3 cap3 w3 hown3 hgrow3 hbel3 hsz3; have O3 := hid hown3; have L3 := hid (hbel3 w (Below_drewN LW.out _)); clear hown3 hgrow3 hbel3)
                go_roundw
                case rel => exact ⟨f, A, B, L ++ [y], some ⟨g3, 0, none⟩, cap3, by simp, (by have h0 : A = [] := List.eq_nil_of_length_eq_zero (by omega); subst h0; exact HTE1.out rfl _), (by have h0 : B = [] := List.eq_nil_of_length_eq_zero (by omega); subst h0; exact HTE2.out rfl _), by (try simp only [List.length_cons, List.length_nil] at hf ⊢); omega, HM2.out, by simp; omega, hsz3, L3.out, by simpa using O3.out⟩
                case measure => simp [slen] <;> omega
              · have HM2 := hid (show mergeL kp a b = L ++ mrg kp f A B by rw [HM.out, mrg, if_neg h1, if_neg h2, if_neg hk])
                have hk : kp true true = false := by simpa using hk
                go_wp2
                go_quiet (fail)
                go_wp2_with fail
                go_quiet (fail)
                go_wp2_with fail
                go_quiet (fail)
                go_wp2_with fail
                go_quiet (fail)
                go_wp2_with fail
                refine (HF.out _ _ _).mono ?_
                rintro e wz ⟨rfl, hwz⟩
                subst wz
                go_wp2
                go_roundw
                case rel => exact ⟨f, A, B, L, ao, c, rfl, (by have h0 : A = [] := List.eq_nil_of_length_eq_zero (by omega); subst h0; exact HTE1.out rfl _), (by have h0 : B = [] := List.eq_nil_of_length_eq_zero (by omega); subst h0; exact HTE2.out rfl _), by (try simp only [List.length_cons, List.length_nil] at hf ⊢); omega, HM2.out, by omega, hsz, Below_drewN LW.out _, own_below O.out (Below_drewN (Below.refl _ _) _) (Nat.le_refl _)⟩
                case measure => simp [slen] <;> omega
end Go.Proofs.Ytimeadnkligkaaa
