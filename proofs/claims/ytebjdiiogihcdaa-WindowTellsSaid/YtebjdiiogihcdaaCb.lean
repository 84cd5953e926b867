/- chunk.Check; the reference's Rises and Check. -/
import Derived.Test.YtebjdiiogihcdaaCa
namespace Go.Proofs.Ytebjdiiogihcdaa
set_option linter.unusedSimpArgs false
open Go.RowKit

/-- rows of samples whose times rise, behind a time -/
def chkA : Option Int → List (Int × Int) → Int
  | _, [] => 0
  | p, s :: t => if mayB s.1 s.2 = false then 11 else if (∃ q, p = some q ∧ s.1 ≤ q) then 13 else chkA (some s.1) t
/-- chunk.Check in plain words -/
def chkL (l : List (Int × Int)) : Int := if l.length = 0 ∨ 120 < l.length then 2 else chkA none l
def prevL (l : List (Int × Int)) (k : Nat) : Option Int := if k = 0 then none else some (l.getD (k - 1) (0, 0)).1
theorem drop_getD (l : List (Int × Int)) (k : Nat) (h : k < l.length) : l.drop k = l.getD k (0, 0) :: l.drop (k + 1) := by
  rw [List.drop_eq_getElem_cons h]; simp [h]
theorem chk_bad (l : List (Int × Int)) (k : Nat) (h : k < l.length) (hn : mayB (l.getD k (0, 0)).1 (l.getD k (0, 0)).2 = false) : chkA (prevL l k) (l.drop k) = 11 := by
  rw [drop_getD l k h, chkA, if_pos hn]
theorem chk_order (l : List (Int × Int)) (k : Nat) (h : k + 1 < l.length) (hn : mayB (l.getD (k + 1) (0, 0)).1 (l.getD (k + 1) (0, 0)).2 = true) (hq : (l.getD (k + 1) (0, 0)).1 ≤ (l.getD k (0, 0)).1) : chkA (prevL l (k + 1)) (l.drop (k + 1)) = 13 := by
  rw [drop_getD l (k + 1) h, chkA, if_neg (by rw [hn]; simp), if_pos ⟨_, rfl, hq⟩]
theorem chk_next0 (l : List (Int × Int)) (h : 0 < l.length) (hn : mayB (l.getD 0 (0, 0)).1 (l.getD 0 (0, 0)).2 = true) : chkA (prevL l 0) (l.drop 0) = chkA (prevL l 1) (l.drop 1) := by
  rw [drop_getD l 0 h, chkA, if_neg (by rw [hn]; simp), if_neg (by rintro ⟨q, h, _⟩; simp [prevL] at h)]
  rfl
theorem chk_next (l : List (Int × Int)) (k : Nat) (h : k + 1 < l.length) (hn : mayB (l.getD (k + 1) (0, 0)).1 (l.getD (k + 1) (0, 0)).2 = true) (hq : ¬ (l.getD (k + 1) (0, 0)).1 ≤ (l.getD k (0, 0)).1) : chkA (prevL l (k + 1)) (l.drop (k + 1)) = chkA (prevL l (k + 1 + 1)) (l.drop (k + 1 + 1)) := by
  rw [drop_getD l (k + 1) h, chkA, if_neg (by rw [hn]; simp), if_neg (by
    rintro ⟨q, h, h2⟩
    simp only [prevL, Nat.add_eq_zero_iff, Nat.succ_ne_zero, and_false, if_false, Nat.add_sub_cancel, Option.some.injEq] at h
    subst h
    exact hq h2)]
  rfl
/-- what a right row of samples is -/
theorem chkA_zero {p : Option Int} {l : List (Int × Int)} (h : chkA p l = 0) : ∀ k, k < l.length → mayB (l.getD k (0, 0)).1 (l.getD k (0, 0)).2 = true ∧ (0 < k → (l.getD (k - 1) (0, 0)).1 < (l.getD k (0, 0)).1) := by
  induction l generalizing p with
  | nil => intro k hk; simp at hk
  | cons s t ih =>
    rw [chkA] at h
    split at h
    · cases h
    · rename_i hm
      split at h
      · cases h
      · intro k hk
        cases k with
        | zero => exact ⟨by simpa using hm, by omega⟩
        | succ k =>
          have h1 := ih h k (by simpa using hk)
          refine ⟨by simpa using h1.1, fun _ => ?_⟩
          cases k with
          | zero =>
            cases t with
            | nil => simp at hk
            | cons s2 t2 =>
              rw [chkA] at h
              split at h
              · cases h
              · split at h
                · cases h
                · rename_i hq
                  simp only [Nat.zero_add, Nat.sub_self, List.getD_cons_zero, List.getD_cons_succ]
                  exact Int.not_le.1 fun hh => hq ⟨_, rfl, hh⟩
          | succ k =>
            have := h1.2 (by omega)
            simpa using this

/-- the cells of samples -/
theorem sc_cells {w : World} {ao : Option Addr} {n c : Nat} {l : List (Int × Int)} (h : Sl w 2 (.slice ao n c) l.length (sc l)) (hk : 0 < l.length) : ∃ b off, ao = some ⟨b, off, none⟩ ∧ b < w.heap.size ∧
    ∀ j, j < l.length → w.cell? ⟨b, off + j * 2, none⟩ = some (.int .i64 (l.getD j (0, 0)).1) ∧ w.cell? ⟨b, off + j * 2 + 1, none⟩ = some (.int .i64 (l.getD j (0, 0)).2) := by
  obtain ⟨b, off, c', hv, _, _, hbl, hcell⟩ := h.form (by decide) hk
  simp only [Value.slice.injEq] at hv
  exact ⟨b, off, hv.1, hbl, fun j hj => ⟨by rw [hcell (j * 2) (by omega), sc_get0 l j hj], by rw [Nat.add_assoc, hcell (j * 2 + 1) (by omega), sc_get1 l j hj]⟩⟩

set_option maxRecDepth 100000 in
set_option maxHeartbeats 2000000 in
theorem check_any (v : Value) (l : List (Int × Int)) (w : World) (hl : l.length ≤ 20000000000000) (hb : Sl w 2 v l.length (sc l)) :
    Calls Try.prog 21 #[v] w fun e w' => e = .returned (.int .i64 (chkL l)) ∧ Below w.heap.size w w' := by
  have Hb := hid hb
  obtain ⟨ao, c, rfl, _, _, _⟩ := hb.shape
  clear hb
  by_cases h0 : l.length = 0
  · have hd : ((l.length : Int) == 0) = true := by simp; exact List.eq_nil_of_length_eq_zero h0
    have e : chkL l = 2 := by unfold chkL; rw [if_pos (.inl h0)]
    rw [e]
    clear e
    go_enter Try.func21, Try.ntmps21
    go_wp2
    go_ret
    exact ⟨rfl, Below.refl _ _⟩
  have hdn : ((l.length : Int) == 0) = false := by simp; rintro rfl; exact h0 rfl
  by_cases hbig : 120 < l.length
  · have hd : decide (120 < (l.length : Int)) = true := by simp; omega
    have e : chkL l = 2 := by unfold chkL; rw [if_pos (.inr hbig)]
    rw [e]
    clear e
    go_enter Try.func21, Try.ntmps21
    go_wp2
    go_ret
    exact ⟨rfl, Below.refl _ _⟩
  have hd : decide (120 < (l.length : Int)) = false := by simp; omega
  have e : chkL l = chkA none l := by unfold chkL; rw [if_neg (by omega)]
  rw [e]
  have HM := hid may_any
  obtain ⟨b, off, rfl, hbl, hcell⟩ := sc_cells Hb.out (by omega)
  have HC := hid hcell
  clear e hcell
  go_enter Try.func21, Try.ntmps21
  go_wp2
  go_loopw [3, 4, 15] (fun _ _ i wr => ∃ k, k ≤ l.length ∧ i = .int .i64 ((k : Nat) : Int) ∧ chkA none l = chkA (prevL l k) (l.drop k) ∧ Below w.heap.size w wr)
    (fun _ _ i _ => l.length - (intOf i).toNat)
  case atStart => exact ⟨0, Nat.zero_le _, rfl, rfl, Below.refl _ _⟩
  case round =>
    obtain ⟨k, hk, rfl, hch, hbel⟩ := hrel
    have HCh := hid hch; have L := hid hbel; clear hch hbel
    by_cases hlt : k < l.length
    · have hck := HC.out k hlt
      have hc0 : wr.cell? ⟨b, off + k * 2, none⟩ = some (.int .i64 (l.getD k (0, 0)).1) := by rw [World.cell?_of_block (L.out.block b hbl)]; exact hck.1
      have hc1 : wr.cell? ⟨b, off + k * 2 + 1, none⟩ = some (.int .i64 (l.getD k (0, 0)).2) := by rw [World.cell?_of_block (L.out.block b hbl)]; exact hck.2
      obtain ⟨t, ht⟩ : ∃ t, t = (l.getD k (0, 0)).1 := ⟨_, rfl⟩
      obtain ⟨u, hu⟩ : ∃ u, u = (l.getD k (0, 0)).2 := ⟨_, rfl⟩
      rw [← ht] at hc0; rw [← hu] at hc1
      have HT := hid ht; have HU := hid hu
      clear hck ht hu
      go_wp2_with fail
      refine (HM.out t u _).mono ?_
      rintro e w1 ⟨rfl, hb1⟩
      obtain ⟨x0, x1, x2⟩ := one_box hb1
      obtain ⟨a0, a1, a2, a3, a4⟩ := blk2 x0
      have L1 := hid (L.out.trans (x1.mono L.out.size))
      clear x0 x1 hb1 hc0 hc1
      rcases Bool.eq_false_or_eq_true (mayB t u) with hm | hm
      · have hm' : mayB (l.getD k (0, 0)).1 (l.getD k (0, 0)).2 = true := by rw [← HT.out, ← HU.out]; exact hm
        rw [hm]
        have HM' := hid hm'
        clear hm hm'
        cases k with
        | zero =>
          have hN := hid (HCh.out.trans (chk_next0 l hlt HM'.out))
          have hd9 : decide ((0 : Int) < ((0 : Nat) : Int)) = false := by simp
          go_wp2
          go_quiet (fail)
          rename_i nq
          have L2 := hid (Below_drewN L1.out nq)
          generalize w1.drewN nq = W0 at *
          go_wp2
          go_roundw
          case rel => exact ⟨1, by omega, by go_num, hN.out, L2.out⟩
          case measure => simp [intOf]; omega
        | succ k =>
          have hcp := (HC.out k (by omega)).1
          have hcq : w1.cell? ⟨b, off + k * 2, none⟩ = some (.int .i64 (l.getD k (0, 0)).1) := by rw [World.cell?_of_block (L1.out.block b hbl)]; exact hcp
          have i0 : (0 : Int) ≤ (k : Int) := by omega
          have i1 : (k : Int) < (l.length : Int) := by omega
          obtain ⟨q, hq⟩ : ∃ q, q = (l.getD k (0, 0)).1 := ⟨_, rfl⟩
          rw [← hq] at hcq
          have HQ := hid hq
          clear hq hcp
          rcases Bool.eq_false_or_eq_true (decide (t ≤ q)) with hd2 | hd2
          · have hR := hid (HCh.out.trans (chk_order l k hlt HM'.out (by rw [← HT.out, ← HQ.out]; exact of_decide_eq_true hd2)))
            go_wp2
            go_quiet (fail)
            rename_i nq
            have L2 := hid (Below_drewN L1.out nq)
            generalize w1.drewN nq = W0 at *
            go_wp2
            go_ret
            exact ⟨by rw [hR.out]; rfl, L2.out⟩
          · have hN := hid (HCh.out.trans (chk_next l k hlt HM'.out (by rw [← HT.out, ← HQ.out]; exact of_decide_eq_false hd2)))
            go_wp2
            go_quiet (fail)
            rename_i nq
            have L2 := hid (Below_drewN L1.out nq)
            generalize w1.drewN nq = W0 at *
            go_wp2
            go_roundw
            case rel => exact ⟨k + 1 + 1, by omega, by go_num, hN.out, L2.out⟩
            case measure => simp [intOf]; omega
      · have hR := hid (HCh.out.trans (chk_bad l k hlt (by rw [← HT.out, ← HU.out]; exact hm)))
        rw [hm]
        go_wp2
        go_ret
        exact ⟨by rw [hR.out]; rfl, L1.out⟩
    · obtain rfl : k = l.length := by omega
      have hR := hid (HCh.out.trans (show chkA (prevL l l.length) (l.drop l.length) = 0 by rw [List.drop_length]; rfl))
      go_wp2
      go_ret
      exact ⟨by rw [hR.out]; rfl, L.out⟩
set_option maxRecDepth 100000 in
set_option maxHeartbeats 2000000 in
theorem refRises_any (v : Value) (l : List (Int × Int)) (w : World) (hl : l.length ≤ 20000000000000) (hb : Sl w 2 v l.length (sc l)) :
    Calls Try.prog 15 #[v] w fun e w' => e = .returned (.int .i64 (chkA none l)) ∧ Below w.heap.size w w' := by
  have Hb := hid hb
  obtain ⟨ao, c, rfl, _, _, _⟩ := hb.shape
  clear hb
  have HM := hid refMay_any
  have HC := hid (fun (hk : 0 < l.length) => sc_cells Hb.out hk)
  go_enter Try.func15, Try.ntmps15
  go_wp2
  go_loopw [3] (fun i wr => ∃ k, k ≤ l.length ∧ i = .int .i64 ((k : Nat) : Int) ∧ chkA none l = chkA (prevL l k) (l.drop k) ∧ Below w.heap.size w wr)
    (fun i _ => l.length - (intOf i).toNat)
  case atStart => exact ⟨0, Nat.zero_le _, rfl, rfl, Below.refl _ _⟩
  case round =>
    obtain ⟨k, hk, rfl, hch, hbel⟩ := hrel
    have HCh := hid hch; have L := hid hbel; clear hch hbel
    by_cases hlt : k < l.length
    · obtain ⟨b, off, rfl, hbl, hcell⟩ := HC.out (by omega)
      have HC := hid hcell
      have hck := HC.out k hlt
      clear hcell
      have hc0 : wr.cell? ⟨b, off + k * 2, none⟩ = some (.int .i64 (l.getD k (0, 0)).1) := by rw [World.cell?_of_block (L.out.block b hbl)]; exact hck.1
      have hc1 : wr.cell? ⟨b, off + k * 2 + 1, none⟩ = some (.int .i64 (l.getD k (0, 0)).2) := by rw [World.cell?_of_block (L.out.block b hbl)]; exact hck.2
      obtain ⟨t, ht⟩ : ∃ t, t = (l.getD k (0, 0)).1 := ⟨_, rfl⟩
      obtain ⟨u, hu⟩ : ∃ u, u = (l.getD k (0, 0)).2 := ⟨_, rfl⟩
      rw [← ht] at hc0; rw [← hu] at hc1
      have HT := hid ht; have HU := hid hu
      clear hck ht hu
      go_wp2_with fail
      refine (HM.out t u _).mono ?_
      rintro e w1 ⟨rfl, hb1⟩
      have L1 := hid (L.out.trans (hb1.mono L.out.size))
      have hc0' : w1.cell? ⟨b, off + k * 2, none⟩ = some (.int .i64 t) := by rw [World.cell?_of_block (L1.out.block b hbl)]; rw [HT.out]; exact (HC.out k hlt).1
      clear hb1 hc0 hc1
      rcases Bool.eq_false_or_eq_true (mayB t u) with hm | hm
      · have hm' : mayB (l.getD k (0, 0)).1 (l.getD k (0, 0)).2 = true := by rw [← HT.out, ← HU.out]; exact hm
        rw [hm]
        have HM' := hid hm'
        clear hm hm'
        cases k with
        | zero =>
          have hN := hid (HCh.out.trans (chk_next0 l hlt HM'.out))
          have hd9 : decide ((0 : Int) < ((0 : Nat) : Int)) = false := by simp
          go_wp2
          go_quiet (fail)
          rename_i nq
          have L2 := hid (Below_drewN L1.out nq)
          generalize w1.drewN nq = W0 at *
          go_wp2
          go_roundw
          case rel => exact ⟨1, by omega, by go_num, hN.out, L2.out⟩
          case measure => simp [intOf]; omega
        | succ k =>
          have hcp := (HC.out k (by omega)).1
          have hcq : w1.cell? ⟨b, off + k * 2, none⟩ = some (.int .i64 (l.getD k (0, 0)).1) := by rw [World.cell?_of_block (L1.out.block b hbl)]; exact hcp
          have i0 : (0 : Int) ≤ (k : Int) := by omega
          have i1 : (k : Int) < (l.length : Int) := by omega
          obtain ⟨q, hq⟩ : ∃ q, q = (l.getD k (0, 0)).1 := ⟨_, rfl⟩
          rw [← hq] at hcq
          have HQ := hid hq
          clear hq hcp
          rcases Bool.eq_false_or_eq_true (decide (t ≤ q)) with hd2 | hd2
          · have hR := hid (HCh.out.trans (chk_order l k hlt HM'.out (by rw [← HT.out, ← HQ.out]; exact of_decide_eq_true hd2)))
            go_wp2
            go_quiet (fail)
            rename_i nq
            have L2 := hid (Below_drewN L1.out nq)
            generalize w1.drewN nq = W0 at *
            go_wp2
            go_ret
            exact ⟨by rw [hR.out]; rfl, L2.out⟩
          · have hN := hid (HCh.out.trans (chk_next l k hlt HM'.out (by rw [← HT.out, ← HQ.out]; exact of_decide_eq_false hd2)))
            go_wp2
            go_quiet (fail)
            rename_i nq
            have L2 := hid (Below_drewN L1.out nq)
            generalize w1.drewN nq = W0 at *
            go_wp2
            go_roundw
            case rel => exact ⟨k + 1 + 1, by omega, by go_num, hN.out, L2.out⟩
            case measure => simp [intOf]; omega
      · have hR := hid (HCh.out.trans (chk_bad l k hlt (by rw [← HT.out, ← HU.out]; exact hm)))
        rw [hm]
        go_wp2
        go_ret
        exact ⟨by rw [hR.out]; rfl, L1.out⟩
    · obtain rfl : k = l.length := by omega
      have hR := hid (HCh.out.trans (show chkA (prevL l l.length) (l.drop l.length) = 0 by rw [List.drop_length]; rfl))
      go_wp2
      go_ret
      exact ⟨by rw [hR.out]; rfl, L.out⟩

set_option maxRecDepth 100000 in
set_option maxHeartbeats 2000000 in
theorem refCheck_any (v : Value) (l : List (Int × Int)) (w : World) (hl : l.length ≤ 20000000000000) (hb : Sl w 2 v l.length (sc l)) :
    Calls Try.prog 13 #[v] w fun e w' => e = .returned (.int .i64 (chkL l)) ∧ Below w.heap.size w w' := by
  have HR := hid (refRises_any v l w hl hb)
  obtain ⟨ao, c, rfl, _, _, _⟩ := hb.shape
  clear hb
  by_cases h0 : l.length = 0
  · have hd : ((l.length : Int) == 0) = true := by simp; exact List.eq_nil_of_length_eq_zero h0
    have e : chkL l = 2 := by unfold chkL; rw [if_pos (.inl h0)]
    rw [e]
    clear e
    go_enter Try.func13, Try.ntmps13
    go_wp2
    go_ret
    exact ⟨rfl, Below.refl _ _⟩
  have hdn : ((l.length : Int) == 0) = false := by simp; rintro rfl; exact h0 rfl
  by_cases hbig : 120 < l.length
  · have hd : decide (120 < (l.length : Int)) = true := by simp; omega
    have e : chkL l = 2 := by unfold chkL; rw [if_pos (.inr hbig)]
    rw [e]
    clear e
    go_enter Try.func13, Try.ntmps13
    go_wp2
    go_ret
    exact ⟨rfl, Below.refl _ _⟩
  have hd : decide (120 < (l.length : Int)) = false := by simp; omega
  have e : chkL l = chkA none l := by unfold chkL; rw [if_neg (by omega)]
  rw [e]
  clear e
  go_enter Try.func13, Try.ntmps13
  go_wp2_with fail
  refine HR.out.mono ?_
  rintro e w1 ⟨rfl, hb1⟩
  have L := hid hb1; clear hb1
  go_wp2
  go_ret
  exact ⟨rfl, L.out⟩
end Go.Proofs.Ytebjdiiogihcdaa
