/- chunk.Encode and chunk.Decode undo each other: plain laws. -/
import Derived.Test.YtcnfhabljogniaaDc
import Derived.Test.YtcnfhabljogniaaCk
namespace Go.Proofs.Ytcnfhabljogniaa
open Go.RowKit
set_option linter.unusedSimpArgs false

/-- the numbers of a chunk of m samples, as far as they are there -/
def numsM (m : Nat) (s : List (Int × Int)) : Nat → List Nat
  | 0 => [m, (s.getD 0 (0, 0)).1.toNat, zigN (s.getD 0 (0, 0)).2]
  | j + 1 => numsM m s j ++ numsAt s (j + 1)
def encM (m : Nat) (s : List (Int × Int)) (j : Nat) : List UInt8 × Nat := pushAll ([], 0) (numsM m s j)
theorem numsM_self (l : List (Int × Int)) (j : Nat) : numsM l.length l j = nums l j := by
  induction j with
  | zero => rfl
  | succ j ih => rw [numsM, nums, ih]
theorem encM_self (l : List (Int × Int)) (j : Nat) : encM l.length l j = encB l j := by unfold encM encB; rw [numsM_self]
theorem numsAt_snoc (s : List (Int × Int)) (x : Int × Int) (j : Nat) (hj : j < s.length) : numsAt (s ++ [x]) j = numsAt s j := by
  have e : ∀ i, i < s.length → (s ++ [x]).getD i (0, 0) = s.getD i (0, 0) := fun i hi => by rw [getD_snoc, if_pos hi]
  unfold numsAt farAt
  rw [e j hj, e (j - 1) (by omega), e (j - 1 - 1) (by omega)]
  by_cases h1 : j = 1
  · subst h1; rw [if_pos rfl, if_pos rfl, e 1 hj, e 0 (by omega)]
  · rw [if_neg h1, if_neg h1]
theorem numsM_snoc (m : Nat) (s : List (Int × Int)) (x : Int × Int) (j : Nat) (hj : j < s.length) : numsM m (s ++ [x]) j = numsM m s j := by
  induction j with
  | zero => unfold numsM; rw [getD_snoc, if_pos hj]
  | succ j ih => rw [numsM, numsM, ih (by omega), numsAt_snoc s x (j + 1) hj]

theorem rdT_U {F : List UInt8} {a b : Nat} {t : Int} (h : rdT F a = some (t, b)) : rdU F a = some (t, b) := by
  unfold rdT at h
  cases hr : rdU F a with
  | none => rw [hr] at h; cases h
  | some q =>
    obtain ⟨x, y⟩ := q
    rw [hr] at h
    simp only at h
    split at h
    · cases h
    · exact h
theorem rdS_U {m : Int} {F : List UInt8} {a b : Nat} {v : Int} (h : rdS m F a = some (v, b)) : ∃ u, rdU F a = some (u, b) ∧ u.toNat = zigN v := by
  unfold rdS at h
  cases hr : rdU F a with
  | none => rw [hr] at h; cases h
  | some q =>
    obtain ⟨x, y⟩ := q
    rw [hr] at h
    have := rdU_ok hr
    simp only at h
    split at h
    · cases h
    · simp only [Option.some.injEq, Prod.mk.injEq] at h
      obtain ⟨rfl, rfl⟩ := h
      exact ⟨x, rfl, by unfold zigN; rw [zig_zag x this.1]⟩

/-- what has been read is what would be laid down -/
theorem run_agr {F : List UInt8} {many a0 : Nat} (hr : rdU F 0 = some ((many : Int), a0)) : ∀ k s far a, runD F a0 (k + 1) = some (s, far, a) → Agr F (encM many s k) ∧ (encM many s k).2 = a := by
  have hA0 : Agr F ([], 0) := ⟨Rt_nil, by simp, fun j hj => by simp at hj⟩
  obtain ⟨hA1, hp1⟩ := hA0.read hr
  rw [Int.toNat_natCast] at hA1 hp1
  have ha0 := (rdU_ok hr).2.2.1
  intro k
  induction k with
  | zero =>
    intro s far a h
    rw [runD_succ (show runD F a0 0 = some ([], 0, a0) from rfl)] at h
    obtain ⟨T, b, v, ht, hv, hm, _, rfl⟩ := stepD_ok h
    unfold tAt at ht
    rw [if_pos (show ([] : List (Int × Int)).length = 0 from rfl)] at ht
    simp only [Option.map_eq_some_iff, Prod.mk.injEq] at ht
    obtain ⟨⟨t, b'⟩, hT, rfl, rfl, rfl⟩ := ht
    simp only at hT hv hm ⊢
    rw [← hp1] at hT
    obtain ⟨hA2, hp2⟩ := hA1.read (rdT_U hT)
    obtain ⟨u, hu, hz⟩ := rdS_U hv
    rw [← hp2] at hu
    obtain ⟨hA3, hp3⟩ := hA2.read hu
    have e : encM many ([] ++ [(t, v + prevV [])]) 0 = pushNum (pushNum (pushNum ([], 0) many) t.toNat) u.toNat := by
      have hpv : prevV [] = 0 := rfl
      rw [hz, hpv, Int.add_zero]
      rfl
    rw [e]
    exact ⟨hA3, hp3⟩
  | succ k ih =>
    intro s' far' a' h
    rw [runD, Option.bind_eq_some_iff] at h
    obtain ⟨⟨s, far, a⟩, h1, h2⟩ := h
    simp only at h2
    obtain ⟨hA1, hp1⟩ := ih s far a h1
    have hi := runD_inv ha0 (k + 1) s far a h1
    have hi' := hi.step h2
    obtain ⟨T, b, v, ht, hv, hm, hf, rfl⟩ := stepD_ok h2
    have hl := hi.len
    have hfar := hi'.far2 (by omega)
    rw [show k + 1 + 1 - 1 = k + 1 by omega] at hfar
    have hV : ((s ++ [(T, v + prevV s)]).getD (k + 1) (0, 0)).2 - ((s ++ [(T, v + prevV s)]).getD k (0, 0)).2 = v := by
      rw [getD_snoc, getD_snoc, if_neg (by omega), if_pos hl.symm, if_pos (by omega)]
      unfold prevV lastP
      rw [if_neg (by omega), hl, show k + 1 - 1 = k by omega]
      show v + (s.getD k (0, 0)).2 - (s.getD k (0, 0)).2 = v
      omega
    have key : ∀ u1 : Nat, (if k + 1 = 1 then (farAt (s ++ [(T, v + prevV s)]) 1).toNat else zigN (farAt (s ++ [(T, v + prevV s)]) (k + 1) - farAt (s ++ [(T, v + prevV s)]) k)) = u1 → rdU F a = some ((u1 : Int), b) →
        Agr F (encM many (s ++ [(T, v + prevV s)]) (k + 1)) ∧ (encM many (s ++ [(T, v + prevV s)]) (k + 1)).2 = a' := by
      intro u1 hu1 hrd
      rw [← hp1] at hrd
      obtain ⟨hA2, hp2⟩ := hA1.read hrd
      rw [Int.toNat_natCast] at hA2 hp2
      obtain ⟨u, hu, hz⟩ := rdS_U hv
      rw [← hp2] at hu
      obtain ⟨hA3, hp3⟩ := hA2.read hu
      have e : encM many (s ++ [(T, v + prevV s)]) (k + 1) = pushNum (pushNum (encM many s k) u1) u.toNat := by
        unfold encM
        rw [numsM, numsM_snoc many s _ k (by omega), pushAll_append]
        unfold numsAt
        rw [show k + 1 - 1 = k by omega, hV, hu1, hz]
        rfl
      rw [e]
      exact ⟨hA3, hp3⟩
    unfold tAt at ht
    rw [if_neg (by omega)] at ht
    by_cases hk : k = 0
    · rw [if_pos (by omega)] at ht
      simp only [Option.map_eq_some_iff, Prod.mk.injEq] at ht
      obtain ⟨⟨t, b'⟩, hT, h3, rfl, rfl⟩ := ht
      simp only at hT h3 hfar
      have h0 := (rdT_ok hT).1
      refine key t.toNat ?_ ?_
      · rw [if_pos (by omega), show (1 : Nat) = k + 1 by omega, ← hfar]
      · rw [rdT_U hT, Int.toNat_of_nonneg h0]
    · rw [if_neg (by omega)] at ht
      simp only [Option.map_eq_some_iff, Prod.mk.injEq] at ht
      obtain ⟨⟨d, b'⟩, hT, h3, h4, rfl⟩ := ht
      simp only at hT h3 h4
      obtain ⟨u, hu, hz⟩ := rdS_U hT
      have hu0 := (rdU_ok hu).1
      refine key u.toNat ?_ ?_
      · rw [if_neg (by omega), hz, ← hfar]
        have hfo := hi.far2 (by omega)
        rw [show k + 1 - 1 = k by omega] at hfo
        have e : farAt (s ++ [(T, v + prevV s)]) k = farAt s k := by
          unfold farAt
          rw [getD_snoc, getD_snoc, if_pos (by omega), if_pos (by omega)]
        rw [e, ← hfo, ← h4]
        congr 1
        omega
      · rw [hu, Int.toNat_of_nonneg hu0]

theorem chkA_of {l : List (Int × Int)} : ∀ p : Option Int, (∀ k, k < l.length → mayB (l.getD k (0, 0)).1 (l.getD k (0, 0)).2 = true) → (∀ k, k + 1 < l.length → (l.getD k (0, 0)).1 < (l.getD (k + 1) (0, 0)).1) →
    (∀ q, p = some q → 0 < l.length → q < (l.getD 0 (0, 0)).1) → chkA p l = 0 := by
  induction l with
  | nil => intro p _ _ _; rfl
  | cons s r ih =>
    intro p h1 h2 h3
    have hm := h1 0 (by simp)
    simp only [List.getD_cons_zero] at hm
    rw [chkA, if_neg (by rw [hm]; simp), if_neg (by
      rintro ⟨q, hq, hle⟩
      have := h3 q hq (by simp)
      simp only [List.getD_cons_zero] at this
      omega)]
    refine ih _ (fun k hk => ?_) (fun k hk => ?_) (fun q hq hk => ?_)
    · have := h1 (k + 1) (by simp; omega); simpa using this
    · have := h2 (k + 1) (by simp; omega); simpa using this
    · have := h2 0 (by simp; omega)
      simp only [Option.some.injEq] at hq
      subst hq
      simpa using this

/-- what Decode reads, Encode lays down -/
theorem dec_enc {F : List UInt8} {s : List (Int × Int)} (h : decV F = (s, 0)) : encV s = (F, 0) := by
  unfold decV at h
  cases hr : rdU F 0 with
  | none => rw [hr] at h; simp at h
  | some q =>
    obtain ⟨u, a0⟩ := q
    have hk := rdU_ok hr
    obtain ⟨many, rfl⟩ := Int.eq_ofNat_of_zero_le hk.1
    rw [hr] at h
    simp only at h
    by_cases h1 : (many : Int) < 1 ∨ 120 < (many : Int)
    · rw [if_pos h1] at h; simp at h
    rw [if_neg h1, Int.toNat_natCast] at h
    cases hrun : runD F a0 many with
    | none => rw [hrun] at h; simp at h
    | some q =>
      obtain ⟨s', far, a⟩ := q
      rw [hrun] at h
      simp only at h
      split at h
      · simp at h
      · rename_i hE
        simp only [Prod.mk.injEq, and_true] at h
        subst h
        have hi := runD_inv hk.2.2.1 many s' far a hrun
        obtain ⟨k, rfl⟩ : ∃ k, many = k + 1 := ⟨many - 1, by omega⟩
        obtain ⟨hA, hp⟩ := run_agr hr k s' far a hrun
        have hl := hi.len
        have hc : chkL s' = 0 := by
          unfold chkL
          rw [if_neg (by omega)]
          exact chkA_of none (fun i hi2 => hi.may i (by omega)) (fun i hi2 => hi.rise i (by omega)) (fun q hq => by cases hq)
        unfold encV
        rw [if_pos hc, show s'.length - 1 = k by omega, ← encM_self, hl]
        obtain ⟨hR, hle, hb⟩ := hA
        have hE2 := (endBad_false (by omega : a ≤ 8 * F.length)).1 (by simpa using hE)
        rw [← hp] at hE2
        have hlen : (encM (k + 1) s' k).1.length = F.length := by have := hR.1; omega
        rw [ext_bits hlen fun j hj => ?_]
        by_cases hj2 : j < (encM (k + 1) s' k).2
        · exact (hb j hj2).symm
        · rw [hR.2 j (by omega) hj, hE2.2 j (by omega) (by omega)]

theorem nums_begins (l : List (Int × Int)) (k : Nat) : ∀ m, k ≤ m → ∃ r, nums l m = nums l k ++ r := by
  intro m
  induction m with
  | zero => intro h; obtain rfl : k = 0 := by omega
            exact ⟨[], by simp⟩
  | succ m ih =>
    intro h
    by_cases hk : k = m + 1
    · subst hk; exact ⟨[], by simp⟩
    · obtain ⟨r, hr⟩ := ih (by omega)
      exact ⟨r ++ numsAt l (m + 1), by rw [nums, hr, List.append_assoc]⟩
theorem rdT_of {F : List UInt8} {a b u : Nat} (h : rdU F a = some ((u : Int), b)) (hu : u ≤ 1099511627776) : rdT F a = some ((u : Int), b) := by
  unfold rdT
  rw [h]
  simp only
  rw [if_neg (by omega)]
theorem rdS_of {m v : Int} {F : List UInt8} {a b : Nat} (h : rdU F a = some (((zigN v : Nat) : Int), b)) (h0 : -9223372036854775808 ≤ v) (h1 : v ≤ 9223372036854775807) (hm : -m ≤ v ∧ v ≤ m) : rdS m F a = some (v, b) := by
  unfold rdS
  rw [h]
  simp only
  rw [zigN_cast v h0 h1, zag_zig, if_neg (by omega)]
theorem take_getD (l : List (Int × Int)) (k i : Nat) (hi : i < k) (_hk : k ≤ l.length) : (l.take k).getD i (0, 0) = l.getD i (0, 0) := by
  simp [List.getD, List.getElem?_take, hi]

/-- what is laid down is read, sample by sample -/
theorem run_back {F : List UInt8} {l : List (Int × Int)} (hc : chkL l = 0) (hA : Agr F (encB l (l.length - 1))) : rdU F 0 = some (((l.length : Nat) : Int), (pushNum ([], 0) l.length).2) ∧
    ∀ k, k < l.length → runD F (pushNum ([], 0) l.length).2 (k + 1) = some (l.take (k + 1), (if k = 0 then 0 else farAt l k), (encB l k).2) := by
  have hcz := chkL_zero hc
  have hlt := nums_lt hc
  have hAk : ∀ k, k < l.length → Agr F (encB l k) := by
    intro k hk
    obtain ⟨r, hr⟩ := nums_begins l k (l.length - 1) (by omega)
    have h := hA
    unfold encB at h ⊢
    rw [hr, pushAll_append] at h
    refine Agr.begins r (fun n hn => hlt (l.length - 1) (by omega) n (by rw [hr]; exact List.mem_append_right _ hn)) _ ?_ h
    exact pushAll_Rt' _ _ Rt_nil
  have h0 := chk_at hc 0 hcz.1
  have hz := zigN_lt (l.getD 0 (0, 0)).2 (by omega) (by omega)
  have e0 : encB l 0 = pushNum (pushNum (pushNum ([], 0) l.length) (l.getD 0 (0, 0)).1.toNat) (zigN (l.getD 0 (0, 0)).2) := rfl
  have hA0 := hAk 0 hcz.1
  rw [e0] at hA0
  obtain ⟨r3, hA2⟩ := hA0.back (Rt_push (Rt_push Rt_nil _) _) hz
  obtain ⟨r2, hA1⟩ := hA2.back (Rt_push Rt_nil _) (by omega)
  obtain ⟨r1, _⟩ := hA1.back Rt_nil (by omega)
  refine ⟨r1, fun k => ?_⟩
  induction k with
  | zero =>
    intro _
    rw [runD_succ (show runD F (pushNum ([], 0) l.length).2 0 = some ([], 0, (pushNum ([], 0) l.length).2) from rfl)]
    have ht : tAt F [] 0 (pushNum ([], 0) l.length).2 = some ((l.getD 0 (0, 0)).1, 0, (pushNum (pushNum ([], 0) l.length) (l.getD 0 (0, 0)).1.toNat).2) := by
      unfold tAt
      rw [if_pos (show ([] : List (Int × Int)).length = 0 from rfl), rdT_of r2 (by omega)]
      simp only [Option.map_some]
      rw [Int.toNat_of_nonneg h0.1.1]
    have hv := rdS_of (m := 2305843009213693952) r3 (by omega) (by omega) (by omega)
    unfold stepD
    rw [ht]
    simp only
    rw [hv]
    simp only
    have hpv : (l.getD 0 (0, 0)).2 + prevV [] = (l.getD 0 (0, 0)).2 := by show _ + 0 = _; omega
    rw [hpv, if_neg (by rw [mayB_iff.2 h0.1]; simp), if_pos trivial, take_next l 0 hcz.1, e0]
    rfl
  | succ k ih =>
    intro hk
    rw [runD_succ (ih (by omega))]
    have hAk1 := hAk (k + 1) hk
    rw [encB_next] at hAk1
    have hRk : Rt (encB l k).1 (encB l k).2 := pushAll_Rt' (nums l k) ([], 0) Rt_nil
    have c1 := chk_at hc (k + 1) hk
    have c0 := chk_at hc k (by omega)
    have hr := c1.2 (by omega)
    rw [show k + 1 - 1 = k by omega] at hr
    have hf1 : farAt l (k + 1) = (l.getD (k + 1) (0, 0)).1 - (l.getD k (0, 0)).1 := by unfold farAt; rw [show k + 1 - 1 = k by omega]
    obtain ⟨rv, hA2⟩ := hAk1.back (Rt_push hRk _) (zigN_lt _ (by omega) (by omega))
    have hlk : (l.take (k + 1)).length = k + 1 := by simp; omega
    have hlast : lastP (l.take (k + 1)) = l.getD k (0, 0) := by unfold lastP; rw [hlk, show k + 1 - 1 = k by omega, take_getD l _ k (by omega) (by omega)]
    have hv := rdS_of (m := 2305843009213693952) rv (by omega) (by omega) (by omega)
    rw [← encB_next] at hv
    have hpv : (l.getD (k + 1) (0, 0)).2 - (l.getD k (0, 0)).2 + prevV (l.take (k + 1)) = (l.getD (k + 1) (0, 0)).2 := by
      unfold prevV
      rw [if_neg (by omega), hlast]; omega
    have key : ∀ b, tAt F (l.take (k + 1)) (if k = 0 then 0 else farAt l k) (encB l k).2 = some ((l.getD (k + 1) (0, 0)).1, farAt l (k + 1), b) → rdS 2305843009213693952 F b = some ((l.getD (k + 1) (0, 0)).2 - (l.getD k (0, 0)).2, (encB l (k + 1)).2) →
        stepD F (l.take (k + 1)) (if k = 0 then 0 else farAt l k) (encB l k).2 = some (l.take (k + 1 + 1), (if k + 1 = 0 then 0 else farAt l (k + 1)), (encB l (k + 1)).2) := by
      intro b ht hv
      unfold stepD
      rw [ht]
      simp only
      rw [hv]
      simp only
      rw [hpv, if_neg (by rw [mayB_iff.2 c1.1]; simp only [Bool.true_eq_false, false_or, not_and]; intro _; omega), if_neg (by omega), take_next l (k + 1) hk]
    refine key _ ?_ hv
    unfold tAt
    rw [if_neg (by omega), hlk]
    by_cases hk0 : k = 0
    · subst hk0
      rw [if_pos rfl] at hA2 hAk1 ⊢
      obtain ⟨rf, _⟩ := hA2.back hRk (by rw [hf1]; omega)
      have hf : (farAt l 1).toNat ≤ 1099511627776 := by rw [hf1]; omega
      rw [rdT_of rf hf]
      simp only [Option.map_some, hlast]
      rw [Int.toNat_of_nonneg (by rw [hf1]; omega), hf1]
      simp only [Nat.zero_add]
      refine congrArg some (Prod.ext ?_ rfl)
      show _ + (_ - _) = _
      omega
    · rw [if_neg (by omega), if_neg (by omega)] at *
      have cm := chk_at hc (k - 1) (by omega)
      have hrm := c0.2 (by omega)
      have hfk : farAt l k = (l.getD k (0, 0)).1 - (l.getD (k - 1) (0, 0)).1 := rfl
      obtain ⟨rf, _⟩ := hA2.back hRk (zigN_lt _ (by omega) (by omega))
      have hd := rdS_of (m := 1099511627776) rf (by omega) (by omega) (by omega)
      rw [hd]
      simp only [Option.map_some, hlast]
      refine congrArg some (Prod.ext ?_ (Prod.ext ?_ (by rw [if_neg (by omega)])))
      · show (l.getD k (0, 0)).1 + (farAt l k + (farAt l (k + 1) - farAt l k)) = (l.getD (k + 1) (0, 0)).1; omega
      · show farAt l k + (farAt l (k + 1) - farAt l k) = farAt l (k + 1); omega

/-- what Encode lays down, Decode reads -/
theorem enc_dec {F : List UInt8} {l : List (Int × Int)} (hc : chkL l = 0) (hF : F = (encB l (l.length - 1)).1) : decV F = (l, 0) := by
  have hcz := chkL_zero hc
  have hR := pushAll_Rt' (nums l (l.length - 1)) ([], 0) Rt_nil
  have hR' : Rt (encB l (l.length - 1)).1 (encB l (l.length - 1)).2 := hR
  have hA : Agr F (encB l (l.length - 1)) := ⟨hR', by rw [hF]; have := hR'.1; omega, fun j _ => by rw [hF]⟩
  obtain ⟨h0, hrun⟩ := run_back hc hA
  have h1 := hrun (l.length - 1) (by omega)
  rw [show l.length - 1 + 1 = l.length by omega, List.take_length] at h1
  rw [decV_some h0 ⟨by omega, hcz.2.1⟩ h1, if_neg]
  rw [Bool.not_eq_true, endBad_false hA.2.1]
  rw [hF]
  exact ⟨by have := hR'.1; omega, fun j h2 h3 => hR'.2 j h2 h3⟩
end Go.Proofs.Ytcnfhabljogniaa
