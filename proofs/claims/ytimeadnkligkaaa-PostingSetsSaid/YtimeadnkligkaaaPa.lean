/- Ints as cells; posting.Check and its reference. -/
import Derived.Test.YtimeadnkligkaaaFz
namespace Go.Proofs.Ytimeadnkligkaaa
open Go.RowKit

/-- Ints as cells. -/
def ic (l : List Int) : List Value := l.map (Value.int .i64)
@[simp] theorem ic_length (l : List Int) : (ic l).length = l.length := by simp [ic]
theorem ic_append (a b : List Int) : ic (a ++ b) = ic a ++ ic b := by simp [ic]
theorem ic_get (l : List Int) (i : Nat) (h : i < l.length) : (ic l)[i]? = some (.int .i64 (l.getD i 0)) := by simp [ic, List.getD, h]
theorem ic_one (l : List Int) : ∀ u ∈ ic l, u.oneCell' = true := by
  intro u hu; obtain ⟨_, _, rfl⟩ := List.mem_map.1 hu; rfl
/-- each is an int of 64 bits -/
def I64 (l : List Int) : Prop := ∀ n ∈ l, -9223372036854775808 ≤ n ∧ n ≤ 9223372036854775807
theorem I64.at {l : List Int} (h : I64 l) (i : Nat) : -9223372036854775808 ≤ l.getD i 0 ∧ l.getD i 0 ≤ 9223372036854775807 := by
  simp only [List.getD]
  cases hh : l[i]? with
  | none => simp
  | some x => exact h x (List.mem_of_getElem? hh)

/-- is a row of numbers a posting list, behind a number? -/
def chkA : Option Int → List Int → Int
  | _, [] => 0
  | p, n :: t => if n < 0 ∨ 1099511627776 < n then 2 else if (∃ q, p = some q ∧ n ≤ q) then 13 else chkA (some n) t
/-- posting.Check in plain words -/
def chkL (l : List Int) : Int := if 1024 < l.length then 3 else chkA none l
def prevL (l : List Int) (k : Nat) : Option Int := if k = 0 then none else some (l.getD (k - 1) 0)
theorem drop_getD (l : List Int) (k : Nat) (h : k < l.length) : l.drop k = l.getD k 0 :: l.drop (k + 1) := by
  rw [List.drop_eq_getElem_cons h]; simp [h]
theorem chk_bad (l : List Int) (k : Nat) (h : k < l.length) (hn : l.getD k 0 < 0 ∨ 1099511627776 < l.getD k 0) : chkA (prevL l k) (l.drop k) = 2 := by
  rw [drop_getD l k h, chkA, if_pos hn]
theorem chk_order (l : List Int) (k : Nat) (h : k + 1 < l.length) (hn : ¬ (l.getD (k + 1) 0 < 0 ∨ 1099511627776 < l.getD (k + 1) 0)) (hq : l.getD (k + 1) 0 ≤ l.getD k 0) : chkA (prevL l (k + 1)) (l.drop (k + 1)) = 13 := by
  rw [drop_getD l (k + 1) h, chkA, if_neg hn, if_pos ⟨_, rfl, hq⟩]
theorem chk_next0 (l : List Int) (h : 0 < l.length) (hn : ¬ (l.getD 0 0 < 0 ∨ 1099511627776 < l.getD 0 0)) : chkA (prevL l 0) (l.drop 0) = chkA (prevL l 1) (l.drop 1) := by
  rw [drop_getD l 0 h, chkA, if_neg hn, if_neg (by rintro ⟨q, h, _⟩; simp [prevL] at h)]
  rfl
theorem chk_next (l : List Int) (k : Nat) (h : k + 1 < l.length) (hn : ¬ (l.getD (k + 1) 0 < 0 ∨ 1099511627776 < l.getD (k + 1) 0)) (hq : ¬ l.getD (k + 1) 0 ≤ l.getD k 0) : chkA (prevL l (k + 1)) (l.drop (k + 1)) = chkA (prevL l (k + 1 + 1)) (l.drop (k + 1 + 1)) := by
  rw [drop_getD l (k + 1) h, chkA, if_neg hn, if_neg (by
    rintro ⟨q, h, h2⟩
    simp only [prevL, Nat.add_eq_zero_iff, Nat.succ_ne_zero, and_false, if_false, Nat.add_sub_cancel, Option.some.injEq] at h
    subst h
    exact hq h2)]
  rfl

set_option maxRecDepth 100000 in
set_option maxHeartbeats 2000000 in
theorem check_any (v : Value) (l : List Int) (w : World) (hl : l.length ≤ 20000000000000) (hb : Sl w 1 v l.length (ic l)) (h64 : I64 l) :
    Calls Try.prog 9 #[v] w fun e w' => e = .returned (.int .i64 (chkL l)) ∧ w' = w := by
  have Hb := hid hb
  obtain ⟨ao, c, rfl, _, _, _⟩ := hb.shape
  clear hb
  by_cases hbig : 1024 < l.length
  · have hd : decide (1024 < (l.length : Int)) = true := by simp; omega
    have e : chkL l = 3 := by unfold chkL; rw [if_pos hbig]
    rw [e]
    clear e
    go_enter Try.func9, Try.ntmps9
    go_wp2
    go_ret
    exact ⟨rfl, rfl⟩
  have hd : decide (1024 < (l.length : Int)) = false := by simp; omega
  have e : chkL l = chkA none l := by unfold chkL; rw [if_neg hbig]
  rw [e]
  have H64 := hid h64
  have HC := hid (fun k (hk : k < l.length) => (show ∃ b off, ao = some ⟨b, off, none⟩ ∧ b < w.heap.size ∧ ∀ j, j < l.length → w.cell? ⟨b, off + j, none⟩ = some (.int .i64 (l.getD j 0)) from by
    obtain ⟨b, off, c', hv, _, _, hbl, hcell⟩ := Hb.out.form (by decide) (by omega)
    simp only [Value.slice.injEq] at hv
    exact ⟨b, off, hv.1, hbl, fun j hj => by rw [hcell j (by omega), ic_get l j hj]⟩))
  clear e h64
  go_enter Try.func9, Try.ntmps9
  go_wp2
  go_loop [3, 4, 10] (fun _ _ i => ∃ k, k ≤ l.length ∧ i = .int .i64 ((k : Nat) : Int) ∧ chkA none l = chkA (prevL l k) (l.drop k))
    (fun _ _ i => l.length - (intOf i).toNat)
  case atStart => exact ⟨0, Nat.zero_le _, rfl, rfl⟩
  case round =>
    obtain ⟨k, hk, rfl, hch⟩ := hrel
    have HCh := hid hch; clear hch
    by_cases hlt : k < l.length
    · obtain ⟨b, off, rfl, hbl, hcell⟩ := HC.out k hlt
      have hck := hcell k hlt
      have hr := H64.out.at k
      by_cases hbad : l.getD k 0 < 0 ∨ 1099511627776 < l.getD k 0
      · have hR := hid (HCh.out.trans (chk_bad l k hlt hbad))
        generalize l.getD k 0 = n at *
        clear hcell
        by_cases h0 : n < 0
        · have hd0 : decide (n < 0) = true := by simpa using h0
          clear hbad
          go_wp2
          go_ret
          exact ⟨by rw [hR.out]; rfl, rfl⟩
        · have hd0 : decide (n < 0) = false := by simpa using h0
          have hd1 : decide (1099511627776 < n) = true := by simp; omega
          clear hbad
          go_wp2
          go_ret
          exact ⟨by rw [hR.out]; rfl, rfl⟩
      · have hd0 : decide (l.getD k 0 < 0) = false := decide_eq_false (by omega)
        have hd1 : decide (1099511627776 < l.getD k 0) = false := decide_eq_false (by omega)
        cases k with
        | zero =>
          have hN := hid (HCh.out.trans (chk_next0 l hlt hbad))
          generalize l.getD 0 0 = n at *
          clear hcell hbad
          rw [Nat.add_zero] at hck
          go_wp2
          go_round
          case rel => exact ⟨1, by omega, by go_num, hN.out⟩
          case measure => simp [intOf]; omega
        | succ k =>
          have hcp := hcell k (by omega)
          have i0 : (0 : Int) ≤ (k : Int) := by omega
          have i1 : (k : Int) < (l.length : Int) := by omega
          by_cases hq : l.getD (k + 1) 0 ≤ l.getD k 0
          · have hR := hid (HCh.out.trans (chk_order l k hlt hbad hq))
            have hd2 : decide (l.getD (k + 1) 0 ≤ l.getD k 0) = true := decide_eq_true hq
            generalize l.getD (k + 1) 0 = n at *
            generalize l.getD k 0 = q at *
            clear hcell hbad hq
            go_wp2
            go_ret
            exact ⟨by rw [hR.out]; rfl, rfl⟩
          · have hN := hid (HCh.out.trans (chk_next l k hlt hbad hq))
            have hd2 : decide (l.getD (k + 1) 0 ≤ l.getD k 0) = false := decide_eq_false hq
            generalize l.getD (k + 1) 0 = n at *
            generalize l.getD k 0 = q at *
            clear hcell hbad hq
            go_wp2
            go_round
            case rel => exact ⟨k + 1 + 1, by omega, by go_num, hN.out⟩
            case measure => simp [intOf]; omega
    · obtain rfl : k = l.length := by omega
      have hR := hid (HCh.out.trans (show chkA (prevL l l.length) (l.drop l.length) = 0 by rw [List.drop_length]; rfl))
      go_wp2
      go_ret
      exact ⟨by rw [hR.out]; rfl, rfl⟩
set_option maxRecDepth 100000 in
set_option maxHeartbeats 2000000 in
theorem refCheck_any (v : Value) (l : List Int) (w : World) (hl : l.length ≤ 20000000000000) (hb : Sl w 1 v l.length (ic l)) (h64 : I64 l) :
    Calls Try.prog 11 #[v] w fun e w' => e = .returned (.int .i64 (chkL l)) ∧ Below w.heap.size w w' := by
  have Hb := hid hb
  obtain ⟨ao, c, rfl, _, _, _⟩ := hb.shape
  clear hb
  by_cases hbig : 1024 < l.length
  · have hd : decide (1024 < (l.length : Int)) = true := by simp; omega
    have e : chkL l = 3 := by unfold chkL; rw [if_pos hbig]
    rw [e]
    clear e
    go_enter Try.func11, Try.ntmps11
    go_wp2
    go_ret
    exact ⟨rfl, Below.refl _ _⟩
  have hd : decide (1024 < (l.length : Int)) = false := by simp; omega
  have e : chkL l = chkA none l := by unfold chkL; rw [if_neg hbig]
  rw [e]
  have H64 := hid h64
  have HC := hid (fun k (hk : k < l.length) => (show ∃ b off, ao = some ⟨b, off, none⟩ ∧ b < w.heap.size ∧ ∀ j, j < l.length → w.cell? ⟨b, off + j, none⟩ = some (.int .i64 (l.getD j 0)) from by
    obtain ⟨b, off, c', hv, _, _, hbl, hcell⟩ := Hb.out.form (by decide) (by omega)
    simp only [Value.slice.injEq] at hv
    exact ⟨b, off, hv.1, hbl, fun j hj => by rw [hcell j (by omega), ic_get l j hj]⟩))
  clear e h64
  go_enter Try.func11, Try.ntmps11
  go_wp2
  go_loopw [3] (fun i wr => ∃ k q, k ≤ l.length ∧ i = .int .i64 ((k : Nat) : Int) ∧ chkA none l = chkA (prevL l k) (l.drop k) ∧ wr = w.drewN q)
    (fun i _ => l.length - (intOf i).toNat)
  case atStart => exact ⟨0, 0, Nat.zero_le _, rfl, rfl, rfl⟩
  case round =>
    obtain ⟨k, q0, hk, rfl, hch, rfl⟩ := hrel
    have HCh := hid hch; clear hch
    by_cases hlt : k < l.length
    · obtain ⟨b, off, rfl, hbl, hcell⟩ := HC.out k hlt
      have hck := hcell k hlt
      have hr := H64.out.at k
      by_cases hbad : l.getD k 0 < 0 ∨ 1099511627776 < l.getD k 0
      · have hR := hid (HCh.out.trans (chk_bad l k hlt hbad))
        generalize l.getD k 0 = n at *
        clear hcell
        by_cases h0 : n < 0
        · have hd0 : decide (n < 0) = true := by simpa using h0
          clear hbad
          go_wp2
          go_ret
          exact ⟨by rw [hR.out]; rfl, by first | exact Below_drewN (Below.refl _ _) _ | exact Below_drewN (Below_drewN (Below.refl _ _) _) _⟩
        · have hd0 : decide (n < 0) = false := by simpa using h0
          have hd1 : decide (1099511627776 < n) = true := by simp; omega
          clear hbad
          go_wp2
          go_ret
          exact ⟨by rw [hR.out]; rfl, by first | exact Below_drewN (Below.refl _ _) _ | exact Below_drewN (Below_drewN (Below.refl _ _) _) _⟩
      · have hd0 : decide (l.getD k 0 < 0) = false := decide_eq_false (by omega)
        have hd1 : decide (1099511627776 < l.getD k 0) = false := decide_eq_false (by omega)
        cases k with
        | zero =>
          have hN := hid (HCh.out.trans (chk_next0 l hlt hbad))
          generalize l.getD 0 0 = n at *
          clear hcell hbad
          rw [Nat.add_zero] at hck
          go_wp2
          go_quiet (fail)
          go_wp2
          go_roundw
          case rel => exact ⟨1, _, by omega, by go_num, hN.out, rfl⟩
          case measure => simp [intOf]; omega
        | succ k =>
          have hcp := hcell k (by omega)
          have i0 : (0 : Int) ≤ (k : Int) := by omega
          have i1 : (k : Int) < (l.length : Int) := by omega
          by_cases hq : l.getD (k + 1) 0 ≤ l.getD k 0
          · have hR := hid (HCh.out.trans (chk_order l k hlt hbad hq))
            have hd2 : decide (l.getD (k + 1) 0 ≤ l.getD k 0) = true := decide_eq_true hq
            generalize l.getD (k + 1) 0 = n at *
            generalize l.getD k 0 = q at *
            clear hcell hbad hq
            go_wp2
            go_quiet (fail)
            go_wp2
            go_ret
            exact ⟨by rw [hR.out]; rfl, by first | exact Below_drewN (Below.refl _ _) _ | exact Below_drewN (Below_drewN (Below.refl _ _) _) _⟩
          · have hN := hid (HCh.out.trans (chk_next l k hlt hbad hq))
            have hd2 : decide (l.getD (k + 1) 0 ≤ l.getD k 0) = false := decide_eq_false hq
            generalize l.getD (k + 1) 0 = n at *
            generalize l.getD k 0 = q at *
            clear hcell hbad hq
            go_wp2
            go_quiet (fail)
            go_wp2
            go_roundw
            case rel => exact ⟨k + 1 + 1, _, by omega, by go_num, hN.out, rfl⟩
            case measure => simp [intOf]; omega
    · obtain rfl : k = l.length := by omega
      have hR := hid (HCh.out.trans (show chkA (prevL l l.length) (l.drop l.length) = 0 by rw [List.drop_length]; rfl))
      go_wp2
      go_ret
      exact ⟨by rw [hR.out]; rfl, by first | exact Below_drewN (Below.refl _ _) _ | exact Below_drewN (Below_drewN (Below.refl _ _) _) _⟩
end Go.Proofs.Ytimeadnkligkaaa
