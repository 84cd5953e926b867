/- The walk of WindowAdjoins. -/
import Derived.Test.YtebjdiiogihcdaaWm
namespace Go.Proofs.Ytebjdiiogihcdaa
open Go.RowKit
set_option linter.unusedSimpArgs false

theorem rise_pair {l : List (Int × Int)} (h : chkA none l = 0) : l.Pairwise (fun a b => a.1 < b.1) := by
  rw [List.pairwise_iff_getElem]
  intro i j hi hj hij
  have := rise_lt h i j hij hj
  simpa [List.getD_eq_getElem?_getD, List.getElem?_eq_getElem hi, List.getElem?_eq_getElem hj] using this
theorem filter_adjoin (p q : Int × Int → Bool) (l : List (Int × Int)) (h : l.Pairwise (fun a b => a.1 < b.1)) (hd : ∀ a, ¬ (p a = true ∧ q a = true)) (ho : ∀ a b, a.1 < b.1 → ¬ (q a = true ∧ p b = true)) : l.filter p ++ l.filter q = l.filter (fun a => p a || q a) := by
  induction l with
  | nil => rfl
  | cons a t ih =>
    obtain ⟨h1, h2⟩ := List.pairwise_cons.1 h
    have e := ih h2
    by_cases hp : p a = true
    · have hq : ¬ q a = true := fun hq => hd a ⟨hp, hq⟩
      rw [List.filter_cons_of_pos hp, List.filter_cons_of_neg hq, List.filter_cons_of_pos (by simp [hp]), List.cons_append, e]
    · by_cases hq : q a = true
      · have hn : t.filter p = [] := by
          rw [List.filter_eq_nil_iff]
          exact fun b hb hpb => ho a b (h1 b hb) ⟨hq, hpb⟩
        rw [List.filter_cons_of_neg hp, List.filter_cons_of_pos hq, List.filter_cons_of_pos (by simp [hq]), hn, List.nil_append, ← e, hn, List.nil_append]
      · rw [List.filter_cons_of_neg hp, List.filter_cons_of_neg hq, List.filter_cons_of_neg (by simp [hp, hq]), e]
theorem range_adjoin {l : List (Int × Int)} (h : chkA none l = 0) (en r s : Int) (hr : 0 ≤ r) (hs : 0 ≤ s) : rangeL l (en - r) s ++ rangeL l en r = rangeL l en (r + s) := by
  unfold rangeL
  rw [filter_adjoin _ _ l (rise_pair h)]
  · congr 1
    funext a
    rw [Bool.eq_iff_iff]
    simp only [inR, Bool.or_eq_true, Bool.and_eq_true, decide_eq_true_eq]
    omega
  · intro a; simp only [inR, Bool.and_eq_true, decide_eq_true_eq]; omega
  · intro a b hab; simp only [inR, Bool.and_eq_true, decide_eq_true_eq]; omega

set_option maxRecDepth 100000 in
set_option maxHeartbeats 4000000 in
theorem walk_WindowAdjoins (w : World) (v : Value) (l : List (Int × Int)) (hb : Sl w 2 v l.length (sc l)) (_h64 : S64 l) (hl : l.length ≤ 8796093022208) (en : Int) (he0 : -9223372036854775808 ≤ en) (he1 : en ≤ 9223372036854775807) (r : Int) (hr0 : -9223372036854775808 ≤ r) (hr1 : r ≤ 9223372036854775807) (s : Int) (hs0 : -9223372036854775808 ≤ s) (hs1 : s ≤ 9223372036854775807) :
    Calls Try.prog 6 #[v, .int .i64 en, .int .i64 r, .int .i64 s] w fun e w' => e = .returned (.bool true) ∧ Below w.heap.size w w' := by
  have HR := hid (refRises_any v l w (by omega) hb)
  have HL := hid lives_any
  have Hb := hid hb
  clear hb
  rcases Bool.eq_false_or_eq_true (chkA none l != 0) with hc | hc
  · generalize chkA none l = ce at *
    go_enter Try.func6, Try.ntmps6
    go_wp2_with fail
    refine HR.out.mono ?_
    rintro e w1 ⟨rfl, hb1⟩
    have L1 := hid hb1
    clear hb1
    go_wp2_with fail
    refine (HL.out w1).mono ?_
    rintro e w2 ⟨rfl, hb2⟩
    have L2 := hid (L1.out.trans (hb2.mono L1.out.size))
    clear hb2
    go_wp2
    go_ret
    exact ⟨rfl, L2.out⟩
  have hch : chkA none l = 0 := by simpa using hc
  rw [hch] at HR
  have HCH := hid hch
  clear hc hch
  rcases Bool.eq_false_or_eq_true (decide (en < -1099511627776)) with d0 | d0
  · go_enter Try.func6, Try.ntmps6
    go_wp2_with fail
    refine HR.out.mono ?_
    rintro e w1 ⟨rfl, hb1⟩
    have L1 := hid hb1
    clear hb1
    go_wp2_with fail
    refine (HL.out w1).mono ?_
    rintro e w2 ⟨rfl, hb2⟩
    have L2 := hid (L1.out.trans (hb2.mono L1.out.size))
    clear hb2
    go_wp2
    go_ret
    exact ⟨rfl, L2.out⟩
  rcases Bool.eq_false_or_eq_true (decide (2199023255552 < en)) with d1 | d1
  · go_enter Try.func6, Try.ntmps6
    go_wp2_with fail
    refine HR.out.mono ?_
    rintro e w1 ⟨rfl, hb1⟩
    have L1 := hid hb1
    clear hb1
    go_wp2_with fail
    refine (HL.out w1).mono ?_
    rintro e w2 ⟨rfl, hb2⟩
    have L2 := hid (L1.out.trans (hb2.mono L1.out.size))
    clear hb2
    go_wp2
    go_ret
    exact ⟨rfl, L2.out⟩
  rcases Bool.eq_false_or_eq_true (decide (r < 0)) with d2 | d2
  · go_enter Try.func6, Try.ntmps6
    go_wp2_with fail
    refine HR.out.mono ?_
    rintro e w1 ⟨rfl, hb1⟩
    have L1 := hid hb1
    clear hb1
    go_wp2_with fail
    refine (HL.out w1).mono ?_
    rintro e w2 ⟨rfl, hb2⟩
    have L2 := hid (L1.out.trans (hb2.mono L1.out.size))
    clear hb2
    go_wp2
    go_ret
    exact ⟨rfl, L2.out⟩
  rcases Bool.eq_false_or_eq_true (decide (s < 0)) with d3 | d3
  · go_enter Try.func6, Try.ntmps6
    go_wp2_with fail
    refine HR.out.mono ?_
    rintro e w1 ⟨rfl, hb1⟩
    have L1 := hid hb1
    clear hb1
    go_wp2_with fail
    refine (HL.out w1).mono ?_
    rintro e w2 ⟨rfl, hb2⟩
    have L2 := hid (L1.out.trans (hb2.mono L1.out.size))
    clear hb2
    go_wp2
    go_ret
    exact ⟨rfl, L2.out⟩
  rcases Bool.eq_false_or_eq_true (decide (2147483648 < r)) with d4 | d4
  · go_enter Try.func6, Try.ntmps6
    go_wp2_with fail
    refine HR.out.mono ?_
    rintro e w1 ⟨rfl, hb1⟩
    have L1 := hid hb1
    clear hb1
    go_wp2_with fail
    refine (HL.out w1).mono ?_
    rintro e w2 ⟨rfl, hb2⟩
    have L2 := hid (L1.out.trans (hb2.mono L1.out.size))
    clear hb2
    go_wp2
    go_ret
    exact ⟨rfl, L2.out⟩
  rcases Bool.eq_false_or_eq_true (decide (2147483648 < s)) with d5 | d5
  · go_enter Try.func6, Try.ntmps6
    go_wp2_with fail
    refine HR.out.mono ?_
    rintro e w1 ⟨rfl, hb1⟩
    have L1 := hid hb1
    clear hb1
    go_wp2_with fail
    refine (HL.out w1).mono ?_
    rintro e w2 ⟨rfl, hb2⟩
    have L2 := hid (L1.out.trans (hb2.mono L1.out.size))
    clear hb2
    go_wp2
    go_ret
    exact ⟨rfl, L2.out⟩
  have g0 := of_decide_eq_false d0
  have g1 := of_decide_eq_false d1
  have g2 := of_decide_eq_false d2
  have g3 := of_decide_eq_false d3
  have g4 := of_decide_eq_false d4
  have g5 := of_decide_eq_false d5
  have AD := hid (range_adjoin HCH.out en r s (by omega) (by omega))
  have k1 : IntKind.i64.wrap (en - r) = en - r := IntWalk.i64_in _ (by omega)
  have k2 : IntKind.i64.wrap (r + s) = r + s := IntWalk.i64_in _ (by omega)
  have R1 := hid (fun wx hx => range_any v l (en - r) s wx HCH.out (by omega) (by omega) (by omega) (by omega) hx)
  have R2 := hid (fun wx hx => range_any v l en r wx HCH.out (by omega) (by omega) (by omega) (by omega) hx)
  have R3 := hid (fun wx hx => range_any v l en (r + s) wx HCH.out (by omega) (by omega) (by omega) (by omega) hx)
  have HLEN := rangeL_len l en (r + s)
  clear g0 g1 g2 g3 g4 g5
  generalize rangeL l (en - r) s = a at *
  generalize rangeL l en r = b at *
  generalize rangeL l en (r + s) = y at *
  have HAB := hid (show a.length + b.length = y.length by rw [← AD.out, List.length_append])
  go_enter Try.func6, Try.ntmps6
  go_wp2_with fail
  refine HR.out.mono ?_
  rintro e w1 ⟨rfl, hb1⟩
  have L1 := hid hb1
  clear hb1
  go_wp2_with fail
  refine (R1.out w1 (Hb.out.below L1.out (fun _ _ h => h))).mono ?_
  rintro e w2 ⟨ao2, c2, rfl, hb2, hown2⟩
  have L2 := hid (L1.out.trans (hb2.mono L1.out.size)); have O2 := hid hown2
  clear hb2 hown2
  go_wp2_with fail
  refine (R2.out w2 (Hb.out.below L2.out (fun _ _ h => h))).mono ?_
  rintro e w3 ⟨ao3, c3, rfl, hb3, hown3⟩
  have L3 := hid (L2.out.trans (hb3.mono L2.out.size)); have O3 := hid hown3
  have A3 := hid ((Sl.own O2.out).below hb3 (fun _ _ h => h))
  clear hb3 hown3 O2
  go_wp2_with (first
    | (at_builtin; refine wpList_appMS rfl (.tmp 49) (.tmp 50) rfl w3.heap.size (.slice (some ⟨w3.heap.size, 0, none⟩) 0 0) 0 [] rfl (own_made _ _ 0 w3.heap.size rfl (Nat.le_refl _) (by unfold maxLen; omega) (by simp)) (.slice ao2 a.length c2) a.length a rfl (A3.out.alloc _) (by have := HAB.out; omega) (by simp) ?_; intro ao4 c4 w4 hown4 hgrow4 hat4 hlt4; simp only [Nat.zero_add, List.nil_append] at hown4 ⊢; have O4 := hid hown4; have L4 := hid (hat4 w3 ((Below.refl w3.heap.size w3).alloc (Nat.le_refl _) _)); clear hown4 hgrow4 hat4)
    | (at_builtin; refine wpList_appMS rfl (.tmp 51) (.tmp 52) rfl w3.heap.size (.slice ao4 a.length c4) a.length a rfl O4.out (.slice ao3 b.length c3) b.length b rfl ((Sl.own O3.out).below L4.out (fun _ _ h => h)) (by have := HAB.out; omega) L4.out.size ?_; intro ao5 c5 w5 hown5 hgrow5 hat5 hlt5; have O5 := hid hown5; have L5 := hid (hat5 w3 L4.out); clear hown5 hgrow5 hat5)
    | fail)
  refine (R3.out w5 (Hb.out.below (L3.out.trans (L5.out.mono L3.out.size)) (fun _ _ h => h))).mono ?_
  rintro e w6 ⟨ao6, c6, rfl, hb6, hown6⟩
  have L6 := hid (L3.out.trans ((L5.out.trans (hb6.mono L5.out.size)).mono L3.out.size)); have O6 := hid hown6
  have O5' := hid ((Sl.own O5.out).below hb6 (fun _ _ h => h))
  clear hb6 hown6 O5
  have LEN := hid (show (a ++ b).length = a.length + b.length from List.length_append)
  go_wp2_with fail
  refine (same_any _ _ (a ++ b) y w6 (by rw [LEN.out]; exact O5'.out) (Sl.own O6.out)).mono ?_
  rintro e w7 ⟨rfl, hb7⟩
  rw [decide_eq_true AD.out]
  have L7 := hid (L6.out.trans (hb7.mono L6.out.size))
  clear hb7
  go_wp2_with fail
  refine (HL.out w7).mono ?_
  rintro e w8 ⟨rfl, hb8⟩
  have L8 := hid (L7.out.trans (hb8.mono L7.out.size))
  clear hb8
  go_wp2
  go_ret
  exact ⟨rfl, L8.out⟩
end Go.Proofs.Ytebjdiiogihcdaa
