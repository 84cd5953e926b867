/- Pieces of rows of samples; window.Apply. -/
import Derived.Test.YtebjdiiogihcdaaWh
namespace Go.Proofs.Ytebjdiiogihcdaa
open Go.RowKit
set_option linter.unusedSimpArgs false

theorem Sl.cut2 {w : World} {ao : Option Addr} {n c : Nat} {xs ys : List Value} (h : Sl w 2 (.slice ao n c) n xs) (k : Nat) (hk : k ≤ n) (hy : ys = xs.take (k * 2)) : Sl w 2 (.slice ao k c) k ys := by
  obtain ⟨hl, ao', c', hv, hc, hm, h0, hcell⟩ := h
  simp only [Value.slice.injEq] at hv
  obtain ⟨rfl, _, rfl⟩ := hv
  subst hy
  refine ⟨by simp at hl ⊢; omega, ao, c, rfl, by omega, hm, h0, fun a ha j u hu => hcell a ha j u ?_⟩
  rw [List.getElem?_take] at hu
  split at hu
  · exact hu
  · cases hu
theorem Sl.drop2 {w : World} {g off n c : Nat} {xs ys : List Value} (h : Sl w 2 (.slice (some ⟨g, off, none⟩) n c) n xs) (k : Nat) (hk : k ≤ n) (hy : ys = xs.drop (k * 2)) : Sl w 2 (.slice (some ⟨g, off + k * 2, none⟩) (n - k) (c - k)) (n - k) ys := by
  obtain ⟨hl, ao', c', hv, hc, hm, h0, hcell⟩ := h
  simp only [Value.slice.injEq] at hv
  obtain ⟨rfl, _, rfl⟩ := hv
  subst hy
  refine ⟨by simp at hl ⊢; omega, some ⟨g, off + k * 2, none⟩, c - k, rfl, by omega, by omega, (fun h => by cases h), fun a ha j u hu => ?_⟩
  cases ha
  rw [List.getElem?_drop] at hu
  have := hcell _ rfl (k * 2 + j) u hu
  rw [Addr.add_lit] at this ⊢
  rw [Nat.add_assoc]
  exact this
theorem sc_take (l : List (Int × Int)) : ∀ k, sc (l.take k) = (sc l).take (k * 2) := by
  induction l with
  | nil => intro k; simp [sc]
  | cons a t ih =>
    intro k
    cases k with
    | zero => simp [sc]
    | succ k =>
      have := ih k
      simp only [sc, List.flatMap_cons, List.take_succ_cons, Nat.succ_mul] at this ⊢
      rw [this]
      simp
theorem sc_drop (l : List (Int × Int)) : ∀ k, sc (l.drop k) = (sc l).drop (k * 2) := by
  induction l with
  | nil => intro k; simp [sc]
  | cons a t ih =>
    intro k
    cases k with
    | zero => simp [sc]
    | succ k =>
      have := ih k
      simp only [sc, List.flatMap_cons, List.drop_succ_cons, Nat.succ_mul] at this ⊢
      rw [this]
      simp


/-- the piece that Apply hands to Check -/
def pairL (l : List (Int × Int)) (k : Nat) : List (Int × Int) := (l.take (k + 1)).drop (k - 1)
theorem pairL_zero {l : List (Int × Int)} (h : 0 < l.length) : pairL l 0 = [l.getD 0 (0, 0)] := by
  cases l with
  | nil => simp at h
  | cons a t => rfl
theorem pairL_succ {l : List (Int × Int)} {k : Nat} (h : k + 1 < l.length) : pairL l (k + 1) = [l.getD k (0, 0), l.getD (k + 1) (0, 0)] := by
  unfold pairL
  rw [show k + 1 - 1 = k from rfl, List.drop_take, show k + 1 + 1 - k = 2 by omega, drop_getD l k (by omega), drop_getD l (k + 1) h]
  rfl
theorem pair_zero {l : List (Int × Int)} (h : 0 < l.length) :
    (chkL (pairL l 0) ≠ 0 → chkA (prevL l 0) (l.drop 0) = chkL (pairL l 0)) ∧ (chkL (pairL l 0) = 0 → mayB (l.getD 0 (0, 0)).1 (l.getD 0 (0, 0)).2 = true ∧ chkA (prevL l 0) (l.drop 0) = chkA (prevL l 1) (l.drop 1)) := by
  rw [pairL_zero h]
  have e : chkL [l.getD 0 (0, 0)] = if mayB (l.getD 0 (0, 0)).1 (l.getD 0 (0, 0)).2 = false then 11 else 0 := by
    unfold chkL
    rw [if_neg (by simp), chkA]
    split
    · rfl
    · rw [if_neg (by rintro ⟨q, h, _⟩; cases h)]; rfl
  rw [e]
  rcases Bool.eq_false_or_eq_true (mayB (l.getD 0 (0, 0)).1 (l.getD 0 (0, 0)).2) with hm | hm
  · rw [if_neg (by rw [hm]; simp)]
    exact ⟨fun h => absurd rfl h, fun _ => ⟨hm, chk_next0 l h hm⟩⟩
  · rw [if_pos hm]
    exact ⟨fun _ => chk_bad l 0 h hm, fun h => by cases h⟩
theorem pair_succ {l : List (Int × Int)} {k : Nat} (h : k + 1 < l.length) (hp : mayB (l.getD k (0, 0)).1 (l.getD k (0, 0)).2 = true) :
    (chkL (pairL l (k + 1)) ≠ 0 → chkA (prevL l (k + 1)) (l.drop (k + 1)) = chkL (pairL l (k + 1))) ∧ (chkL (pairL l (k + 1)) = 0 → mayB (l.getD (k + 1) (0, 0)).1 (l.getD (k + 1) (0, 0)).2 = true ∧ chkA (prevL l (k + 1)) (l.drop (k + 1)) = chkA (prevL l (k + 1 + 1)) (l.drop (k + 1 + 1))) := by
  rw [pairL_succ h]
  have e : chkL [l.getD k (0, 0), l.getD (k + 1) (0, 0)] = if mayB (l.getD (k + 1) (0, 0)).1 (l.getD (k + 1) (0, 0)).2 = false then 11 else if (l.getD (k + 1) (0, 0)).1 ≤ (l.getD k (0, 0)).1 then 13 else 0 := by
    unfold chkL
    rw [if_neg (by simp), chkA, if_neg (by rw [hp]; simp), if_neg (by rintro ⟨q, h, _⟩; cases h), chkA]
    split
    · rfl
    · split
      · rename_i hq
        obtain ⟨q, hq1, hq2⟩ := hq
        cases hq1
        rw [if_pos hq2]
      · rename_i hq
        rw [if_neg (fun hh => hq ⟨_, rfl, hh⟩)]
        rfl
  rw [e]
  rcases Bool.eq_false_or_eq_true (mayB (l.getD (k + 1) (0, 0)).1 (l.getD (k + 1) (0, 0)).2) with hm | hm
  · rw [if_neg (by rw [hm]; simp)]
    by_cases hq : (l.getD (k + 1) (0, 0)).1 ≤ (l.getD k (0, 0)).1
    · rw [if_pos hq]
      exact ⟨fun _ => chk_order l k h hm hq, fun h => by cases h⟩
    · rw [if_neg hq]
      exact ⟨fun h => absurd rfl h, fun _ => ⟨hm, chk_next l k h hm hq⟩⟩
  · rw [if_pos hm]
    exact ⟨fun _ => chk_bad l (k + 1) h hm, fun h => by cases h⟩

/-- what Apply tells: need of the name, what tell tells -/
def apV (need : Nat) (l : List (Int × Int)) (r : Int) (t : Int × Int) : Int × Bool × Int :=
  if need = 0 then (0, false, 9) else if r < 1 ∨ 2147483648 < r then (0, false, 2) else if chkA none l ≠ 0 then (0, false, chkA none l) else if l.length < need then (0, false, 0) else (t.1, t.2 == 0, t.2)
def retA (x : Int × Bool × Int) : Ending := .returned (.tuple #[.int .i64 x.1, .bool x.2.1, .int .i64 x.2.2])

set_option maxRecDepth 100000 in
set_option maxHeartbeats 1000000 in
theorem apply_none (s : ByteArray) (v : Value) (r : Int) (w : World) (hk : Calls Try.prog 20 #[.string s] w fun e w' => e = .returned (.int .i64 0) ∧ w' = w) :
    Calls Try.prog 9 #[.string s, v, .int .i64 r] w fun e w' => e = retA (0, false, 9) ∧ Below w.heap.size w w' := by
  unfold retA
  have HK := hid hk
  clear hk
  go_enter Try.func9, Try.ntmps9
  go_wp2_with fail
  refine HK.out.mono ?_
  rintro e wz ⟨rfl, hwz⟩
  subst wz
  go_wp2
  go_ret3
  exact ⟨rfl, Below.refl _ _⟩

set_option maxRecDepth 100000 in
set_option maxHeartbeats 1000000 in
theorem apply_arg (s : ByteArray) (v : Value) (need : Nat) (h0 : need ≠ 0) (r : Int) (hr : r < 1 ∨ 2147483648 < r) (w : World) (hk : Calls Try.prog 20 #[.string s] w fun e w' => e = .returned (.int .i64 need) ∧ w' = w) :
    Calls Try.prog 9 #[.string s, v, .int .i64 r] w fun e w' => e = retA (0, false, 2) ∧ Below w.heap.size w w' := by
  unfold retA
  have HK := hid hk
  have n1 : ((need : Int) == 0) = false := by simp; exact h0
  clear hk
  rcases Bool.eq_false_or_eq_true (decide (r < 1)) with d1 | d1
  · clear hr
    go_enter Try.func9, Try.ntmps9
    go_wp2_with fail
    refine HK.out.mono ?_
    rintro e wz ⟨rfl, hwz⟩
    subst wz
    go_wp2
    go_ret3
    exact ⟨rfl, Below.refl _ _⟩
  · have d2 : decide (2147483648 < r) = true := decide_eq_true (by have := of_decide_eq_false d1; omega)
    clear hr
    go_enter Try.func9, Try.ntmps9
    go_wp2_with fail
    refine HK.out.mono ?_
    rintro e wz ⟨rfl, hwz⟩
    subst wz
    go_wp2
    go_ret3
    exact ⟨rfl, Below.refl _ _⟩

set_option maxRecDepth 100000 in
set_option maxHeartbeats 2000000 in
theorem apply_main (s : ByteArray) (v : Value) (l : List (Int × Int)) (need : Nat) (h0 : need ≠ 0) (r : Int) (hr : 1 ≤ r ∧ r ≤ 2147483648) (w : World) (hl : l.length ≤ 10000000000000) (hb : Sl w 2 v l.length (sc l))
    (hk : Calls Try.prog 20 #[.string s] w fun e w' => e = .returned (.int .i64 need) ∧ w' = w)
    (t : Int × Int) (ht : chkA none l = 0 → need ≤ l.length → ∀ wx, Sl wx 2 v l.length (sc l) → Calls Try.prog 22 #[.string s, v, .int .i64 r] wx fun e w' => e = two t ∧ Below wx.heap.size wx w') :
    Calls Try.prog 9 #[.string s, v, .int .i64 r] w fun e w' => e = retA (if chkA none l ≠ 0 then (0, false, chkA none l) else if l.length < need then (0, false, 0) else (t.1, t.2 == 0, t.2)) ∧ Below w.heap.size w w' := by
  have HK := hid hk; have HT := hid ht; have Hb := hid hb
  have n1 : ((need : Int) == 0) = false := by simp; exact h0
  have d1 : decide (r < 1) = false := decide_eq_false (by omega)
  have d2 : decide (2147483648 < r) = false := decide_eq_false (by omega)
  obtain ⟨ao, cc, rfl, hlc, hcm, hao⟩ := hb.shape
  have HA := hid hao
  clear hk ht hr hb hao
  obtain ⟨x, hx⟩ : ∃ x : Int × Bool × Int, x = (if chkA none l ≠ 0 then (0, false, chkA none l) else if l.length < need then (0, false, 0) else (t.1, t.2 == 0, t.2)) := ⟨_, rfl⟩
  rw [← hx]
  have HX := hid hx
  clear hx
  go_enter Try.func9, Try.ntmps9
  go_wp2_with fail
  refine HK.out.mono ?_
  rintro e wz ⟨rfl, hwz⟩
  subst wz
  go_wp2
  go_loopw [10, 11, 28] (fun _ _ i wr => ∃ k, k ≤ l.length ∧ i = .int .i64 ((k : Nat) : Int) ∧ chkA none l = chkA (prevL l k) (l.drop k) ∧ (0 < k → mayB (l.getD (k - 1) (0, 0)).1 (l.getD (k - 1) (0, 0)).2 = true) ∧ Below w.heap.size w wr)
    (fun _ _ i _ => l.length - (intOf i).toNat)
  case atStart => exact ⟨0, Nat.zero_le _, rfl, rfl, fun h => by omega, Below.refl _ _⟩
  case round =>
    obtain ⟨k, hk, rfl, hch, hmay, hbel⟩ := hrel
    have HCh := hid hch; have HM := hid hmay; have L := hid hbel
    clear hch hmay hbel
    by_cases hlt : k < l.length
    · obtain ⟨b, off, rfl, hbl, _⟩ := sc_cells Hb.out (by omega)
      have BL := hid hbl
      have SB := hid (Hb.out.below L.out (by rintro k hk _; simp [Value.ownBlock] at hk; subst hk; exact BL.out))
      clear hbl
      cases k with
      | zero =>
        have hP := hid (pair_zero hlt)
        have SP := SB.out.cut2 1 hlt (sc_take l 1)
        have hpl : (l.take (0 + 1)).length = 1 := by simp; omega
        have HC := hid (check_any (.slice (some ⟨b, off, none⟩) 1 cc) (pairL l 0) wr (by rw [pairL_zero hlt]; simp) (by rw [pairL_zero hlt, ← pairL_zero hlt]; exact (show Sl wr 2 _ (pairL l 0).length _ by rw [show (pairL l 0).length = 1 by rw [pairL_zero hlt]; rfl]; exact SP)))
        generalize chkL (pairL l 0) = ce at *
        have i1 : (0 : Int) < (l.length : Int) := by omega
        have i2 : 1 ≤ cc := by omega
        clear SP
        go_wp2_with fail
        refine HC.out.mono ?_
        rintro e w1 ⟨rfl, hb1⟩
        have L1 := hid (L.out.trans (hb1.mono L.out.size))
        clear hb1
        rcases Bool.eq_false_or_eq_true (ce != 0) with hd | hd
        · have hne : ce ≠ 0 := by simpa using hd
          have hR := hid (HCh.out.trans (hP.out.1 hne))
          have HNE := hid hne
          clear hne
          go_wp2
          go_ret3
          exact ⟨by rw [HX.out, hR.out, if_pos HNE.out]; rfl, L1.out⟩
        · have hne : ce = 0 := by simpa using hd
          have hN := hid (hP.out.2 hne)
          clear hne
          go_wp2
          go_roundw
          case rel => exact ⟨1, by omega, by go_num, HCh.out.trans hN.out.2, fun _ => hN.out.1, L1.out⟩
          case measure => simp [intOf]; omega
      | succ k =>
        by_cases hk0 : 0 < k
        · have hP := hid (pair_succ hlt (HM.out (by omega)))
          have SP := (SB.out.cut2 (k + 1 + 1) hlt (sc_take l (k + 1 + 1))).drop2 k (by omega) (sc_drop _ k)
          have HC := hid (check_any (.slice (some ⟨b, off + k * 2, none⟩) (k + 1 + 1 - k) (cc - k)) (pairL l (k + 1)) wr (by rw [pairL_succ hlt]; simp) (show Sl wr 2 _ (pairL l (k + 1)).length _ by rw [show (pairL l (k + 1)).length = k + 1 + 1 - k by rw [pairL_succ hlt]; simp; omega]; exact SP))
          generalize chkL (pairL l (k + 1)) = ce at *
          have kw : IntKind.i64.wrap (k : Int) = (k : Int) := IntWalk.i64_in _ (by omega)
          have km : max 0 (k : Int) = (k : Int) := by omega
          have i1 : ((k + 1 : Nat) : Int) < (l.length : Int) := by omega
          have i2 : k + 1 + 1 ≤ cc := by omega
          have i3 : ¬ cc = k := by omega
          have pk : 0 < k := hk0
          clear SP
          go_wp2_with fail
          refine HC.out.mono ?_
          rintro e w1 ⟨rfl, hb1⟩
          have L1 := hid (L.out.trans (hb1.mono L.out.size))
          clear hb1
          rcases Bool.eq_false_or_eq_true (ce != 0) with hd | hd
          · have hne : ce ≠ 0 := by simpa using hd
            have hR := hid (HCh.out.trans (hP.out.1 hne))
            have HNE := hid hne
            clear hne
            go_wp2
            go_ret3
            exact ⟨by rw [HX.out, hR.out, if_pos HNE.out]; rfl, L1.out⟩
          · have hne : ce = 0 := by simpa using hd
            have hN := hid (hP.out.2 hne)
            clear hne
            go_wp2
            go_roundw
            case rel => exact ⟨k + 1 + 1, by omega, by go_num, HCh.out.trans hN.out.2, fun _ => hN.out.1, L1.out⟩
            case measure => simp [intOf]; omega
        · obtain rfl : k = 0 := by omega
          have hP := hid (pair_succ hlt (HM.out (by omega)))
          have SP := SB.out.cut2 2 hlt (sc_take l 2)
          have HC := hid (check_any (.slice (some ⟨b, off, none⟩) 2 cc) (pairL l (0 + 1)) wr (by rw [pairL_succ hlt]; simp) (show Sl wr 2 _ (pairL l (0 + 1)).length _ by rw [show (pairL l (0 + 1)).length = 2 by rw [pairL_succ hlt]; rfl]; exact SP))
          generalize chkL (pairL l (0 + 1)) = ce at *
          have i1 : (1 : Int) < (l.length : Int) := by omega
          have i2 : 2 ≤ cc := by omega
          clear SP
          go_wp2_with fail
          refine HC.out.mono ?_
          rintro e w1 ⟨rfl, hb1⟩
          have L1 := hid (L.out.trans (hb1.mono L.out.size))
          clear hb1
          rcases Bool.eq_false_or_eq_true (ce != 0) with hd | hd
          · have hne : ce ≠ 0 := by simpa using hd
            have hR := hid (HCh.out.trans (hP.out.1 hne))
            have HNE := hid hne
            clear hne
            go_wp2
            go_ret3
            exact ⟨by rw [HX.out, hR.out, if_pos HNE.out]; rfl, L1.out⟩
          · have hne : ce = 0 := by simpa using hd
            have hN := hid (hP.out.2 hne)
            clear hne
            go_wp2
            go_roundw
            case rel => exact ⟨2, by omega, by go_num, HCh.out.trans hN.out.2, fun _ => hN.out.1, L1.out⟩
            case measure => simp [intOf]; omega
    · obtain rfl : k = l.length := by omega
      have hR := hid (HCh.out.trans (show chkA (prevL l l.length) (l.drop l.length) = 0 by rw [List.drop_length]; rfl))
      rw [hR.out, if_neg (by simp)] at HX
      rcases Bool.eq_false_or_eq_true (decide ((l.length : Int) < (need : Int))) with hd | hd
      · have hlt2 : l.length < need := by have := of_decide_eq_true hd; omega
        rw [if_pos hlt2] at HX
        have hd' : decide (l.length < need) = true := decide_eq_true hlt2
        clear hlt2
        go_wp2
        go_ret3
        exact ⟨by rw [HX.out]; rfl, L.out⟩
      · have hlt2 : ¬ l.length < need := by have := of_decide_eq_false hd; omega
        rw [if_neg hlt2] at HX
        have HC := hid (HT.out hR.out (by omega) wr (Hb.out.below L.out (fun _ _ h => h)))
        have hd' : decide (l.length < need) = false := decide_eq_false hlt2
        clear hlt2
        unfold two at HC
        go_wp2_with fail
        refine HC.out.mono ?_
        rintro e w1 ⟨rfl, hb1⟩
        have L1 := hid (L.out.trans (hb1.mono L.out.size))
        clear hb1
        go_wp2
        go_ret3
        exact ⟨by rw [HX.out]; rfl, L1.out⟩

theorem apply_any (s : ByteArray) (v : Value) (l : List (Int × Int)) (need : Nat) (r : Int) (w : World) (hl : l.length ≤ 10000000000000) (hb : Sl w 2 v l.length (sc l))
    (hk : ∀ w, Calls Try.prog 20 #[.string s] w fun e w' => e = .returned (.int .i64 need) ∧ w' = w)
    (t : Int × Int) (ht : need ≠ 0 → 1 ≤ r → r ≤ 2147483648 → chkA none l = 0 → need ≤ l.length → ∀ wx, Sl wx 2 v l.length (sc l) → Calls Try.prog 22 #[.string s, v, .int .i64 r] wx fun e w' => e = two t ∧ Below wx.heap.size wx w') :
    Calls Try.prog 9 #[.string s, v, .int .i64 r] w fun e w' => e = retA (apV need l r t) ∧ Below w.heap.size w w' := by
  unfold apV
  by_cases h0 : need = 0
  · subst h0
    rw [if_pos rfl]
    exact apply_none s v r w (hk w)
  rw [if_neg h0]
  by_cases hr : r < 1 ∨ 2147483648 < r
  · rw [if_pos hr]
    exact apply_arg s v need h0 r hr w (hk w)
  rw [if_neg hr]
  exact apply_main s v l need h0 r ⟨by omega, by omega⟩ w hl hb (hk w) t (ht h0 (by omega) (by omega))
end Go.Proofs.Ytebjdiiogihcdaa
