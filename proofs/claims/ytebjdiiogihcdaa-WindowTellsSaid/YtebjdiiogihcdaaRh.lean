/- the reference's Ops, Apply. -/
import Derived.Test.YtebjdiiogihcdaaRg
namespace Go.Proofs.Ytebjdiiogihcdaa
open Go.RowKit
set_option linter.unusedSimpArgs false

def opB : Nat → ByteArray
  | 0 => { data := #[99, 111, 117, 110, 116, 95, 111, 118, 101, 114, 95, 116, 105, 109, 101] }
  | 1 => { data := #[115, 117, 109, 95, 111, 118, 101, 114, 95, 116, 105, 109, 101] }
  | 2 => { data := #[97, 118, 103, 95, 111, 118, 101, 114, 95, 116, 105, 109, 101] }
  | 3 => { data := #[109, 105, 110, 95, 111, 118, 101, 114, 95, 116, 105, 109, 101] }
  | 4 => { data := #[109, 97, 120, 95, 111, 118, 101, 114, 95, 116, 105, 109, 101] }
  | 5 => { data := #[108, 97, 115, 116, 95, 111, 118, 101, 114, 95, 116, 105, 109, 101] }
  | 6 => { data := #[100, 101, 108, 116, 97] }
  | 7 => { data := #[105, 110, 99, 114, 101, 97, 115, 101] }
  | 8 => { data := #[114, 97, 116, 101] }
  | _ => { data := #[] }
def opsC : Array Value := #[.string (opB 0), .string (opB 1), .string (opB 2), .string (opB 3), .string (opB 4), .string (opB 5), .string (opB 6), .string (opB 7), .string (opB 8)]
def opsW (w : World) : World := w.alloc (.cells opsC 9)
theorem opsC_get (k : Nat) (h : k < 9) : opsC[k]? = some (.string (opB k)) := by
  match k with
  | 0 | 1 | 2 | 3 | 4 | 5 | 6 | 7 | 8 => rfl
  | k + 9 => omega

set_option maxRecDepth 100000 in
set_option maxHeartbeats 1000000 in
theorem ops_any (w : World) : Calls Try.prog 23 #[] w fun e w' => e = .returned (.slice (some ⟨w.heap.size, 0, none⟩) 9 9) ∧ w' = opsW w := by
  unfold opsW opsC opB
  go_enter Try.func23, Try.ntmps23
  go_wp2
  go_ret
  exact ⟨rfl, rfl⟩

/-- the place of a name among the first k, or -1 -/
def atTo (s : ByteArray) : Nat → Int
  | 0 => -1
  | k + 1 => if ((opB k).toList == s.toList) = true then (k : Int) else atTo s k

/-- what the reference's Apply tells -/
def apR (at' : Int) (l : List (Int × Int)) (r : Int) (t : Int × Int) : Int × Bool × Int :=
  if at' < 0 then (0, false, 9) else if r < 1 ∨ 2147483648 < r then (0, false, 2) else if chkA none l ≠ 0 then (0, false, chkA none l) else if l.length = 0 ∨ (6 ≤ at' ∧ l.length = 1) then (0, false, 0) else (t.1, t.2 == 0, t.2)
theorem atTo_ge (s : ByteArray) (k : Nat) : -1 ≤ atTo s k ∧ atTo s k < (k : Int) := by
  induction k with
  | zero => simp [atTo]
  | succ k ih => rw [atTo]; split <;> omega

set_option maxRecDepth 100000 in
set_option maxHeartbeats 4000000 in
theorem refApply_any (s : ByteArray) (v : Value) (l : List (Int × Int)) (r : Int) (w : World) (hl : l.length ≤ 10000000000000) (hb : Sl w 2 v l.length (sc l)) (t : Int × Int)
    (ht : 0 ≤ atTo s 9 → 1 ≤ r → r ≤ 2147483648 → chkA none l = 0 → ¬ (l.length = 0 ∨ (6 ≤ atTo s 9 ∧ l.length = 1)) → ∀ wx vv, Sl wx 1 vv l.length (iz (vals l)) → Calls Try.prog 24 #[.string s, vv, .int .i64 r] wx fun e w' => e = two t ∧ Below wx.heap.size wx w') :
    Calls Try.prog 10 #[.string s, v, .int .i64 r] w fun e w' => e = retA (apR (atTo s 9) l r t) ∧ Below w.heap.size w w' := by
  have HO := hid (ops_any w)
  have HT := hid ht
  obtain ⟨x, hx⟩ : ∃ x, x = apR (atTo s 9) l r t := ⟨_, rfl⟩
  rw [← hx]
  have HX := hid hx
  unfold apR at HX
  clear ht hx
  unfold retA
  have L0 := hid (show Below w.heap.size w (opsW w) from (Below.refl w.heap.size w).alloc (Nat.le_refl _) _)
  have B0 := hid (show (opsW w).heap[w.heap.size]? = some (.cells opsC 9 (0, 0)) from blk_new w _ _ rfl)
  have Hb := hid (show Sl (opsW w) 2 v l.length (sc l) from hb.alloc _)
  obtain ⟨ao, c, rfl, hlc, hcm, _⟩ := hb.shape
  unfold maxLen at hcm
  clear hb
  go_enter Try.func10, Try.ntmps10
  go_wp2_with fail
  refine HO.out.mono ?_
  rintro e w1 ⟨rfl, hw1⟩
  rw [← hw1] at L0 B0 Hb
  clear hw1
  have HC := hid (fun k (hk : k < 9) => (show w1.cell? ⟨w.heap.size, k, none⟩ = some (.string (opB k)) by rw [cell_of_blk B0.out]; exact opsC_get k hk))
  go_wp2
  go_loopw [10, 11] (fun av i wr => ∃ k : Nat, k ≤ 9 ∧ i = .int .i64 (k : Int) ∧ av = .int .i64 (atTo s k) ∧ wr = w1)
    (fun _ i _ => 9 - (intOf i).toNat)
  case atStart => exact ⟨0, by omega, rfl, rfl, rfl⟩
  case round =>
    obtain ⟨k, hk, rfl, rfl, rfl⟩ := hrel
    by_cases hlt : k < 9
    · have d1 : decide ((k : Int) < 9) = true := decide_eq_true (by omega)
      have c0 := HC.out k hlt
      have i0 : (0 : Int) ≤ (k : Int) := by omega
      have i1 : (k : Int) < 9 := by omega
      have HN := hid (show atTo s (k + 1) = if ((opB k).toList == s.toList) = true then (k : Int) else atTo s k from rfl)
      generalize opB k = ob at *
      rcases Bool.eq_false_or_eq_true (ob.toList == s.toList) with hd | hd
      · rw [hd, if_pos rfl] at HN
        go_wp2
        go_roundw
        case rel => exact ⟨k + 1, by omega, by go_num, by rw [HN.out], by first | rfl | trivial⟩
        case measure => simp [intOf]; omega
      · rw [hd, if_neg (by simp)] at HN
        go_wp2
        go_roundw
        case rel => exact ⟨k + 1, by omega, by go_num, by rw [HN.out], by first | rfl | trivial⟩
        case measure => simp [intOf]; omega
    · obtain rfl : k = 9 := by omega
      rw [show ((9 : Nat) : Int) = 9 from rfl]
      have HG := atTo_ge s 9
      obtain ⟨a, ha⟩ : ∃ a, a = atTo s 9 := ⟨_, rfl⟩
      rw [← ha] at HG HX HT ⊢
      clear ha hlt hk
      rcases Bool.eq_false_or_eq_true (decide (a < 0)) with d1 | d1
      · rw [if_pos (of_decide_eq_true d1)] at HX
        go_wp2
        go_ret3
        exact ⟨by rw [HX.out]; rfl, L0.out⟩
      rw [if_neg (of_decide_eq_false d1)] at HX
      have HA0 := hid (show 0 ≤ a by have := of_decide_eq_false d1; omega)
      rcases Bool.eq_false_or_eq_true (decide (r < 1)) with d2 | d2
      · rw [if_pos (.inl (of_decide_eq_true d2))] at HX
        go_wp2
        go_ret3
        exact ⟨by rw [HX.out]; rfl, L0.out⟩
      rcases Bool.eq_false_or_eq_true (decide (2147483648 < r)) with d3 | d3
      · rw [if_pos (.inr (of_decide_eq_true d3))] at HX
        go_wp2
        go_ret3
        exact ⟨by rw [HX.out]; rfl, L0.out⟩
      have HR := hid (show 1 ≤ r ∧ r ≤ 2147483648 by have h1 := of_decide_eq_false d2; have h2 := of_decide_eq_false d3; omega)
      rw [if_neg (by have := HR.out; omega)] at HX
      have HRI := hid (refRises_any _ l wr (by omega) Hb.out)
      rcases Bool.eq_false_or_eq_true (chkA none l != 0) with d4 | d4
      · have hne : chkA none l ≠ 0 := by simpa using d4
        rw [if_pos hne] at HX
        generalize chkA none l = ce at *
        clear hne
        go_wp2_with fail
        refine HRI.out.mono ?_
        rintro e w2 ⟨rfl, hb2⟩
        have L2 := hid (L0.out.trans (hb2.mono L0.out.size))
        clear hb2
        go_wp2
        go_ret3
        exact ⟨by rw [HX.out]; rfl, L2.out⟩
      have hz : chkA none l = 0 := by simpa using d4
      rw [hz] at HRI
      rw [if_neg (by rw [hz]; simp)] at HX
      have HZ := hid hz
      clear hz d4
      by_cases h0 : l.length = 0 ∨ (6 ≤ a ∧ l.length = 1)
      · rw [if_pos h0] at HX
        rcases Bool.eq_false_or_eq_true ((l.length : Int) == 0) with d5 | d5
        · clear h0
          go_wp2_with fail
          refine HRI.out.mono ?_
          rintro e w2 ⟨rfl, hb2⟩
          have L2 := hid (L0.out.trans (hb2.mono L0.out.size))
          clear hb2
          go_wp2
          go_ret3
          exact ⟨by rw [HX.out]; rfl, L2.out⟩
        · have h1 : 6 ≤ a ∧ l.length = 1 := by
            rcases h0 with h | h
            · rw [h] at d5; simp at d5
            · exact h
          have d6 : decide (6 ≤ a) = true := decide_eq_true h1.1
          have d7 : ((l.length : Int) == 1) = true := by rw [h1.2]; rfl
          clear h0 h1
          go_wp2_with fail
          refine HRI.out.mono ?_
          rintro e w2 ⟨rfl, hb2⟩
          have L2 := hid (L0.out.trans (hb2.mono L0.out.size))
          clear hb2
          go_wp2
          go_ret3
          exact ⟨by rw [HX.out]; rfl, L2.out⟩
      · rw [if_neg h0] at HX
        have HTT := hid (HT.out HA0.out HR.out.1 HR.out.2 HZ.out h0)
        have VV := hid (fun wx hx => values_any (.slice ao l.length c) l wx hl hx)
        have d5 : ((l.length : Int) == 0) = false := by simp; intro h; exact h0 (.inl (by rw [h]; rfl))
        rcases Bool.eq_false_or_eq_true (decide (6 ≤ a)) with d6 | d6
        · have d7 : ((l.length : Int) == 1) = false := by
            have h6 := of_decide_eq_true d6
            simp only [beq_eq_false_iff_ne, ne_eq]
            intro h; exact h0 (.inr ⟨h6, by omega⟩)
          clear h0
          unfold two at HTT
          go_wp2_with fail
          refine HRI.out.mono ?_
          rintro e w2 ⟨rfl, hb2⟩
          have L2 := hid (L0.out.trans (hb2.mono L0.out.size))
          have S2 := hid (Hb.out.below hb2 (fun _ _ h => h))
          clear hb2
          go_wp2_with fail
          refine (VV.out w2 S2.out).mono ?_
          rintro e w3 ⟨ao3, c3, rfl, hb3, hown3⟩
          have L3 := hid (L2.out.trans (hb3.mono L2.out.size)); have O3 := hid hown3
          clear hb3 hown3
          go_wp2_with fail
          refine (HTT.out w3 _ (Sl.own O3.out)).mono ?_
          rintro e w4 ⟨rfl, hb4⟩
          have L4 := hid (L3.out.trans (hb4.mono L3.out.size))
          clear hb4
          go_wp2
          go_ret3
          exact ⟨by rw [HX.out]; rfl, L4.out⟩
        · clear h0
          unfold two at HTT
          go_wp2_with fail
          refine HRI.out.mono ?_
          rintro e w2 ⟨rfl, hb2⟩
          have L2 := hid (L0.out.trans (hb2.mono L0.out.size))
          have S2 := hid (Hb.out.below hb2 (fun _ _ h => h))
          clear hb2
          go_wp2_with fail
          refine (VV.out w2 S2.out).mono ?_
          rintro e w3 ⟨ao3, c3, rfl, hb3, hown3⟩
          have L3 := hid (L2.out.trans (hb3.mono L2.out.size)); have O3 := hid hown3
          clear hb3 hown3
          go_wp2_with fail
          refine (HTT.out w3 _ (Sl.own O3.out)).mono ?_
          rintro e w4 ⟨rfl, hb4⟩
          have L4 := hid (L3.out.trans (hb4.mono L3.out.size))
          clear hb4
          go_wp2
          go_ret3
          exact ⟨by rw [HX.out]; rfl, L4.out⟩
end Go.Proofs.Ytebjdiiogihcdaa
