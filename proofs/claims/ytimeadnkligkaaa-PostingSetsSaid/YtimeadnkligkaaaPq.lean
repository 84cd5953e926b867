/- Two rising lists gone along: what is in the result; the laws in plain words; the reference's Has. -/
import Derived.Test.YtimeadnkligkaaaPg
namespace Go.Proofs.Ytimeadnkligkaaa
open Go.RowKit

def Spec (kp : Bool → Bool → Bool) (l a b : List Int) : Prop := Ris l ∧ ∀ y, y ∈ l ↔ (y ∈ a ∨ y ∈ b) ∧ kp (decide (y ∈ a)) (decide (y ∈ b)) = true
theorem spec_step (kp : Bool → Bool → Bool) (a b a' b' l' : List Int) (z : Int) (p q : Bool) (hpq : p = true ∨ q = true) (ha : ∀ y, y ∈ a ↔ (p = true ∧ y = z) ∨ y ∈ a') (hb : ∀ y, y ∈ b ↔ (q = true ∧ y = z) ∨ y ∈ b')
    (hza : ∀ y ∈ a', z < y) (hzb : ∀ y ∈ b', z < y) (h : Spec kp l' a' b') : Spec kp (if kp p q = true then z :: l' else l') a b := by
  obtain ⟨h1, h2⟩ := h
  have hlt : ∀ y ∈ l', z < y := fun y hy => by
    rcases ((h2 y).1 hy).1 with h | h
    · exact hza y h
    · exact hzb y h
  have hz : z ∉ l' := fun hh => by have := hlt z hh; omega
  have hza' : z ∉ a' := fun hh => by have := hza z hh; omega
  have hzb' : z ∉ b' := fun hh => by have := hzb z hh; omega
  have ea : decide (z ∈ a) = p := by cases p <;> simp [ha, hza']
  have eb : decide (z ∈ b) = q := by cases q <;> simp [hb, hzb']
  have eab : z ∈ a ∨ z ∈ b := by rcases hpq with h | h <;> simp [ha, hb, h]
  have hne : ∀ y, y ≠ z → ((y ∈ a ↔ y ∈ a') ∧ (y ∈ b ↔ y ∈ b')) := fun y hy => ⟨by simp [ha, hy], by simp [hb, hy]⟩
  by_cases hk : kp p q = true
  · rw [if_pos hk]
    refine ⟨List.Pairwise.cons hlt h1, fun y => ?_⟩
    by_cases hy : y = z
    · subst hy
      simp [ea, eb, hk, eab]
    · rw [List.mem_cons, or_iff_right hy, h2 y]
      simp only [(hne y hy).1, (hne y hy).2]
  · rw [if_neg hk]
    refine ⟨h1, fun y => ?_⟩
    by_cases hy : y = z
    · subst hy
      rw [ea, eb]
      exact ⟨fun h => absurd h hz, fun h => absurd h.2 hk⟩
    · rw [h2 y]
      simp only [(hne y hy).1, (hne y hy).2]
theorem mrg_spec (kp : Bool → Bool → Bool) (f : Nat) : ∀ a b : List Int, a.length + b.length ≤ f → Ris a → Ris b → Spec kp (mrg kp f a b) a b := by
  induction f with
  | zero =>
    intro a b h _ _
    obtain rfl : a = [] := List.eq_nil_of_length_eq_zero (by omega)
    obtain rfl : b = [] := List.eq_nil_of_length_eq_zero (by omega)
    exact ⟨List.Pairwise.nil, by simp [mrg]⟩
  | succ f ih =>
    intro a b h ha hb
    match a, b, ha, hb, h with
    | [], [], _, _, _ => exact ⟨by rw [mrg]; exact List.Pairwise.nil, by simp [mrg]⟩
    | x :: a, [], ha, hb, h =>
      have ha' := List.pairwise_cons.1 ha
      rw [mrg]
      exact spec_step kp (x :: a) [] a [] _ x true false (by simp) (by simp) (by simp) ha'.1 (by simp) (ih a [] (by simp at h ⊢; omega) ha'.2 hb)
    | [], y :: b, ha, hb, h =>
      have hb' := List.pairwise_cons.1 hb
      rw [mrg]
      exact spec_step kp [] (y :: b) [] b _ y false true (by simp) (by simp) (by simp) (by simp) hb'.1 (ih [] b (by simp at h ⊢; omega) ha hb'.2)
    | x :: a, y :: b, ha, hb, h =>
      have ha' := List.pairwise_cons.1 ha
      have hb' := List.pairwise_cons.1 hb
      simp only [List.length_cons] at h
      rw [mrg]
      by_cases hxy : x < y
      · rw [if_pos hxy]
        exact spec_step kp (x :: a) (y :: b) a (y :: b) _ x true false (by simp) (by simp) (by simp) ha'.1 (fun u hu => by rcases List.mem_cons.1 hu with rfl | hu; exact hxy; have := hb'.1 u hu; omega) (ih a (y :: b) (by simp; omega) ha'.2 hb)
      · rw [if_neg hxy]
        by_cases hyx : y < x
        · rw [if_pos hyx]
          exact spec_step kp (x :: a) (y :: b) (x :: a) b _ y false true (by simp) (by simp) (by simp) (fun u hu => by rcases List.mem_cons.1 hu with rfl | hu; exact hyx; have := ha'.1 u hu; omega) hb'.1 (ih (x :: a) b (by simp; omega) ha hb'.2)
        · rw [if_neg hyx]
          obtain rfl : x = y := by omega
          exact spec_step kp (x :: a) (x :: b) a b _ x true true (by simp) (by simp) (by simp) ha'.1 hb'.1 (ih a b (by omega) ha'.2 hb'.2)
theorem ris_ext : ∀ l1 l2 : List Int, Ris l1 → Ris l2 → (∀ x, x ∈ l1 ↔ x ∈ l2) → l1 = l2
  | [], [], _, _, _ => rfl
  | [], y :: b, _, _, h => by have := (h y).2 (List.mem_cons_self ..); simp at this
  | x :: a, [], _, _, h => by have := (h x).1 (List.mem_cons_self ..); simp at this
  | x :: a, y :: b, h1, h2, h => by
    have h1' := List.pairwise_cons.1 h1
    have h2' := List.pairwise_cons.1 h2
    have e : x = y := by
      rcases List.mem_cons.1 ((h x).1 (List.mem_cons_self ..)) with e | hx
      · exact e
      · rcases List.mem_cons.1 ((h y).2 (List.mem_cons_self ..)) with e | hy
        · exact e.symm
        · have := h2'.1 x hx; have := h1'.1 y hy; omega
    subst e
    rw [ris_ext a b h1'.2 h2'.2 fun u => ⟨fun hu => ?_, fun hu => ?_⟩]
    · rcases List.mem_cons.1 ((h u).1 (List.mem_cons_of_mem _ hu)) with e | hb
      · have := h1'.1 u hu; omega
      · exact hb
    · rcases List.mem_cons.1 ((h u).2 (List.mem_cons_of_mem _ hu)) with e | hb
      · have := h2'.1 u hu; omega
      · exact hb

/-- the laws in plain words -/
theorem laws_plain (a b : List Int) (hca : chkL a = 0) (hcb : chkL b = 0) : ∃ (P R T : List Int) (t : Int), bothV a b = (P, 0) ∧ bothV b a = (P, 0) ∧ withoutV a b = (R, 0) ∧ eitherV P R = (a, 0) ∧ eitherV a b = (T, t) ∧ eitherV b a = (T, t) ∧
    (∀ n, decide (n ∈ P) = (decide (n ∈ a) && decide (n ∈ b))) ∧ (∀ n, decide (n ∈ R) = (decide (n ∈ a) && !decide (n ∈ b))) ∧ (t = 3 ∨ (t = 0 ∧ ∀ n, decide (n ∈ T) = (decide (n ∈ a) || decide (n ∈ b)))) ∧ chkL P = 0 ∧ chkL R = 0 ∧ T.length ≤ 1024 := by
  obtain ⟨la, ra, ba⟩ := chkL_ok hca
  obtain ⟨lb, rb, bb⟩ := chkL_ok hcb
  have sP := mrg_spec (fun p q => p && q) _ a b (Nat.le_refl _) ra rb
  have sP2 := mrg_spec (fun p q => p && q) _ b a (Nat.le_refl _) rb ra
  have sR := mrg_spec (fun p q => p && !q) _ a b (Nat.le_refl _) ra rb
  have sT := mrg_spec (fun p q => p || q) _ a b (Nat.le_refl _) ra rb
  have sT2 := mrg_spec (fun p q => p || q) _ b a (Nat.le_refl _) rb ra
  have fP : mergeL (fun p q => p && q) a b = a.filter fun x => decide (x ∈ b) := mrg_both _ a b (Nat.le_refl _) ra rb
  have fR : mergeL (fun p q => p && !q) a b = a.filter fun x => !decide (x ∈ b) := mrg_without _ a b (Nat.le_refl _) ra rb
  have eP : mergeL (fun p q => p && q) b a = mergeL (fun p q => p && q) a b := ris_ext _ _ sP2.1 sP.1 fun x => by
    unfold mergeL; rw [sP2.2 x, sP.2 x]; simp only [Bool.and_eq_true, decide_eq_true_eq]; by_cases h1 : x ∈ a <;> by_cases h2 : x ∈ b <;> simp [h1, h2]
  have eT : mergeL (fun p q => p || q) b a = mergeL (fun p q => p || q) a b := ris_ext _ _ sT2.1 sT.1 fun x => by
    unfold mergeL; rw [sT2.2 x, sT.2 x]; simp only [Bool.or_eq_true, decide_eq_true_eq]; by_cases h1 : x ∈ a <;> by_cases h2 : x ∈ b <;> simp [h1, h2]
  have mP : ∀ x, x ∈ mergeL (fun p q => p && q) a b ↔ x ∈ a ∧ x ∈ b := fun x => by unfold mergeL; rw [sP.2 x]; simp only [Bool.and_eq_true, decide_eq_true_eq]; by_cases h1 : x ∈ a <;> by_cases h2 : x ∈ b <;> simp [h1, h2]
  have mR : ∀ x, x ∈ mergeL (fun p q => p && !q) a b ↔ x ∈ a ∧ x ∉ b := fun x => by unfold mergeL; rw [sR.2 x]; simp only [Bool.and_eq_true, decide_eq_true_eq, Bool.not_eq_true', decide_eq_false_iff_not]; by_cases h1 : x ∈ a <;> by_cases h2 : x ∈ b <;> simp [h1, h2]
  have mT : ∀ x, x ∈ mergeL (fun p q => p || q) a b ↔ x ∈ a ∨ x ∈ b := fun x => by unfold mergeL; rw [sT.2 x]; simp only [Bool.or_eq_true, decide_eq_true_eq]; by_cases h1 : x ∈ a <;> by_cases h2 : x ∈ b <;> simp [h1, h2]
  have lP : (mergeL (fun p q => p && q) a b).length ≤ 1024 := by rw [fP]; exact Nat.le_trans (List.length_filter_le _ _) la
  have lR : (mergeL (fun p q => p && !q) a b).length ≤ 1024 := by rw [fR]; exact Nat.le_trans (List.length_filter_le _ _) la
  have cP : chkL (mergeL (fun p q => p && q) a b) = 0 := chkL_of lP sP.1 fun x hx => ba x ((mP x).1 hx).1
  have cR : chkL (mergeL (fun p q => p && !q) a b) = 0 := chkL_of lR sR.1 fun x hx => ba x ((mR x).1 hx).1
  have sS := mrg_spec (fun p q => p || q) _ (mergeL (fun p q => p && q) a b) (mergeL (fun p q => p && !q) a b) (Nat.le_refl _) sP.1 sR.1
  have eS : mergeL (fun p q => p || q) (mergeL (fun p q => p && q) a b) (mergeL (fun p q => p && !q) a b) = a := ris_ext _ _ sS.1 ra fun x => by
    refine (sS.2 x).trans ?_
    simp only [mP, mR, Bool.or_eq_true, decide_eq_true_eq]
    by_cases h1 : x ∈ a <;> by_cases h2 : x ∈ b <;> simp [h1, h2]
  have hal : ∀ (kp : Bool → Bool → Bool) (u v : List Int), chkL u = 0 → chkL v = 0 → alongV kp u v = if 1024 < (mergeL kp u v).length then ([], 3) else (mergeL kp u v, 0) := fun kp u v hu hv => by unfold alongV; rw [if_neg (by simp [hu]), if_neg (by simp [hv])]
  refine ⟨_, _, (eitherV a b).1, (eitherV a b).2, ?_, ?_, ?_, ?_, rfl, ?_, fun n => ?_, fun n => ?_, ?_, cP, cR, ?_⟩
  · unfold bothV; rw [hal _ _ _ hca hcb, if_neg (by omega)]
  · unfold bothV; rw [hal _ _ _ hcb hca, eP, if_neg (by omega)]
  · unfold withoutV; rw [hal _ _ _ hca hcb, if_neg (by omega)]
  · unfold eitherV; rw [hal _ _ _ cP cR, eS, if_neg (by omega)]
  · unfold eitherV; rw [hal _ _ _ hcb hca, hal _ _ _ hca hcb, eT]
  · rw [Bool.eq_iff_iff]; simp [mP]
  · rw [Bool.eq_iff_iff]; simp [mR]
  · unfold eitherV; rw [hal _ _ _ hca hcb]
    by_cases hbig : 1024 < (mergeL (fun p q => p || q) a b).length
    · rw [if_pos hbig]; exact .inl rfl
    · rw [if_neg hbig]; exact .inr ⟨rfl, fun n => by rw [Bool.eq_iff_iff]; simp [mT]⟩
  · unfold eitherV; rw [hal _ _ _ hca hcb]
    by_cases hbig : 1024 < (mergeL (fun p q => p || q) a b).length
    · rw [if_pos hbig]; simp
    · rw [if_neg hbig]; simp only; omega

set_option maxHeartbeats 1000000 in
theorem has_any (v : Value) (l : List Int) (n : Int) (w : World) (hl : l.length ≤ 20000000000000) (hb : Sl w 1 v l.length (ic l)) :
    Calls Try.prog 21 #[v, .int .i64 n] w fun e w' => e = .returned (.bool (decide (n ∈ l))) ∧ w' = w := by
  have HC := hid (fun k (hk : k < l.length) => (show ∃ b off c, v = .slice (some ⟨b, off, none⟩) l.length c ∧ w.cell? ⟨b, off + k, none⟩ = some (.int .i64 (l.getD k 0)) from by
    obtain ⟨b, off, c', hv, _, _, hbl, hcell⟩ := hb.form (by decide) (by omega)
    exact ⟨b, off, c', hv, by rw [hcell k (by omega), ic_get l k hk]⟩))
  obtain ⟨ao, c, rfl, _⟩ := hb.shape
  obtain ⟨r, hr⟩ : ∃ r, r = decide (n ∈ l) := ⟨_, rfl⟩
  rw [← hr]
  have HR := hid hr
  clear hb hr
  go_enter Try.func21, Try.ntmps21
  go_wp2
  go_loop [5] (fun i => ∃ k, k ≤ l.length ∧ i = .int .i64 ((k : Nat) : Int) ∧ n ∉ l.take k) (fun i => l.length - (intOf i).toNat)
  case atStart => exact ⟨0, Nat.zero_le _, rfl, by simp⟩
  case round =>
    obtain ⟨k, hk, rfl, hch⟩ := hrel
    have HCh := hid hch; clear hch
    by_cases hlt : k < l.length
    · obtain ⟨b, off, c', hv, hck⟩ := HC.out k hlt
      simp only [Value.slice.injEq] at hv
      obtain ⟨rfl, _, rfl⟩ := hv
      by_cases hq : l.getD k 0 = n
      · have hR := hid (show r = true by rw [HR.out]; refine decide_eq_true ?_; rw [← hq]; simp [hlt])
        rw [hq] at hck
        clear hq
        go_wp2
        go_ret
        exact ⟨by rw [hR.out]; rfl, rfl⟩
      · have HK := hid (show n ∉ l.take (k + 1) by rw [take_next l k hlt]; simp only [List.mem_append, List.mem_singleton]; rintro (h | h); exact HCh.out h; exact hq h.symm)
        generalize l.getD k 0 = m at *
        have hne : (m == n) = false := by simpa using hq
        clear hq
        go_wp2
        go_round
        case rel => exact ⟨k + 1, by omega, by go_num, HK.out⟩
        case measure => simp [intOf]; omega
    · obtain rfl : k = l.length := by omega
      have hR := hid (show r = false by rw [HR.out]; refine decide_eq_false ?_; have h := HCh.out; rw [List.take_length] at h; exact h)
      go_wp2
      go_ret
      exact ⟨by rw [hR.out]; rfl, rfl⟩
end Go.Proofs.Ytimeadnkligkaaa
