/- The walk of WindowRanges. -/
import Derived.Test.YtebjdiiogihcdaaWn
namespace Go.Proofs.Ytebjdiiogihcdaa
open Go.RowKit
set_option linter.unusedSimpArgs false

set_option maxRecDepth 100000 in
set_option maxHeartbeats 4000000 in
theorem walk_WindowRanges (w : World) (v : Value) (l : List (Int × Int)) (hb : Sl w 2 v l.length (sc l)) (_h64 : S64 l) (hl : l.length ≤ 8796093022208) (en : Int) (he0 : -9223372036854775808 ≤ en) (he1 : en ≤ 9223372036854775807) (r : Int) (hr0 : -9223372036854775808 ≤ r) (hr1 : r ≤ 9223372036854775807) :
    Calls Try.prog 7 #[v, .int .i64 en, .int .i64 r] w fun e w' => e = .returned (.bool true) ∧ Below w.heap.size w w' := by
  have HR := hid (refRises_any v l w (by omega) hb)
  have HL := hid lives_any
  have Hb := hid hb
  clear hb
  rcases Bool.eq_false_or_eq_true (chkA none l != 0) with hc | hc
  · generalize chkA none l = ce at *
    go_enter Try.func7, Try.ntmps7
    go_wp2_with fail
    refine HR.out.mono ?_
    rintro e w1 ⟨rfl, hb1⟩
    have L1 := hid hb1
    clear hb1
    go_wp2_with fail
    refine (HL.out w1).mono ?_
    rintro e w2 ⟨rfl, hb2⟩
    have L2 := hid (L1.out.trans (hb2.mono L1.out.size))
    clear hb2
    go_wp2
    go_ret
    exact ⟨rfl, L2.out⟩
  have hch : chkA none l = 0 := by simpa using hc
  rw [hch] at HR
  have HCH := hid hch
  clear hc hch
  have R1 := hid (fun v wx hx => range_any v l en r wx HCH.out (by omega) (by omega) (by omega) (by omega) hx)
  have R2 := hid (fun v wx hx => refRange_any v l en r wx HCH.out (by omega) (by omega) (by omega) hx)
  have I1 := hid (fun v wx hx => instant_any v l en wx HCH.out (by omega) (by omega) (by omega) hx)
  have I2 := hid (fun v wx hx => refInstant_any v l en wx HCH.out (by omega) (by omega) hx)
  have HLEN := rangeL_len l en r
  generalize rangeL l en r = y at *
  generalize instV l en = p at *
  unfold retI at I1 I2
  obtain ⟨ao, c, rfl, _, _, _⟩ := Hb.out.shape
  go_enter Try.func7, Try.ntmps7
  go_wp2_with fail
  refine HR.out.mono ?_
  rintro e w1 ⟨rfl, hb1⟩
  have L1 := hid hb1
  clear hb1
  go_wp2_with (at_builtin; refine wpList_appMS rfl (.tmp 18) (.tmp 19) rfl w1.heap.size (.slice (some ⟨w1.heap.size, 0, none⟩) 0 0) 0 [] rfl (own_made _ _ 0 w1.heap.size rfl (Nat.le_refl _) (by unfold maxLen; omega) (by simp)) (.slice ao l.length c) l.length l rfl ((Hb.out.below L1.out (fun _ _ h => h)).alloc _) (by omega) (by simp) ?_; intro ao2 c2 w2 hown2 hgrow2 hat2 hlt2; simp only [Nat.zero_add, List.nil_append] at hown2 ⊢; have O2 := hid hown2; have L2 := hid (L1.out.trans ((hat2 w1 ((Below.refl w1.heap.size w1).alloc (Nat.le_refl _) _)).mono L1.out.size)); clear hown2 hgrow2 hat2)
  refine (R1.out _ w2 (Sl.own O2.out)).mono ?_
  rintro e w3 ⟨ao3, c3, rfl, hb3, hown3⟩
  have L3 := hid (L2.out.trans (hb3.mono L2.out.size)); have A3 := hid hown3
  have O3 := hid (own_below O2.out hb3 (Nat.le_refl _))
  have LT3 := hid hb3.size
  clear hb3 hown3
  go_wp2_with fail
  refine (I1.out _ w3 (Sl.own O3.out)).mono ?_
  rintro e w4 ⟨rfl, hb4⟩
  have L4 := hid (L3.out.trans (hb4.mono L3.out.size))
  have A4 := hid (own_below A3.out hb4 (Nat.le_refl _))
  have O4 := hid (own_below O3.out hb4 (Nat.le_refl _))
  have LT4 := hid hb4.size
  clear hb4
  have P4 := hid (blk_new w4 (.cells #[.int .i64 p.1.1, .int .i64 p.1.2] 37) _ rfl)
  go_wp2_with fail
  refine (I2.out _ _ ((Hb.out.below L4.out (fun _ _ h => h)).alloc _)).mono ?_
  rintro e w5 ⟨rfl, hb5⟩
  have E5 := hid (((Below.refl w4.heap.size w4).alloc (Nat.le_refl _) (.cells #[.int .i64 p.1.1, .int .i64 p.1.2] 37)).trans (hb5.mono (by simp)))
  have L5 := hid (L4.out.trans (E5.out.mono L4.out.size))
  have P5 := hid (blk_below P4.out hb5 (by simp))
  have A5 := hid (own_below A4.out E5.out (Nat.le_refl _))
  have O5 := hid (own_below O4.out E5.out (Nat.le_refl _))
  clear hb5 E5 P4
  have Q5 := hid (blk_new w5 (.cells #[.int .i64 p.1.1, .int .i64 p.1.2] 37) _ rfl)
  have P5' := hid (blk_alloc P5.out (.cells #[.int .i64 p.1.1, .int .i64 p.1.2] 37))
  go_wp2_with fail
  refine (R2.out _ _ ((Hb.out.below L5.out (fun _ _ h => h)).alloc _)).mono ?_
  rintro e w6 ⟨ao6, c6, rfl, hb6, hown6⟩
  have E6 := hid (((Below.refl w5.heap.size w5).alloc (Nat.le_refl _) (.cells #[.int .i64 p.1.1, .int .i64 p.1.2] 37)).trans (hb6.mono (by simp)))
  have L6 := hid (L5.out.trans (E6.out.mono L5.out.size))
  have P6 := hid (blk_below P5'.out hb6 (lt_of_blk P5'.out))
  have Q6 := hid (blk_below Q5.out hb6 (by simp))
  have A6 := hid (own_below A5.out E6.out (Nat.le_refl _))
  have O6 := hid (own_below O5.out E6.out (Nat.le_refl _))
  have F6 := hid (Sl.own hown6)
  clear hb6 E6 P5 P5' Q5 hown6
  go_wp2_with fail
  refine (same_any _ _ y y w6 (Sl.own A6.out) F6.out).mono ?_
  rintro e w7 ⟨rfl, hb7⟩
  rw [decide_eq_true (rfl : y = y)]
  have L7 := hid (L6.out.trans (hb7.mono L6.out.size))
  have A7 := hid (own_below A6.out hb7 (Nat.le_refl _))
  have O7 := hid (own_below O6.out hb7 (Nat.le_refl _))
  obtain ⟨p0, p1, p2, p3, p4⟩ := blk2 (blk_below P6.out hb7 (lt_of_blk P6.out))
  obtain ⟨q0, q1, q2, q3, q4⟩ := blk2 (blk_below Q6.out hb7 (lt_of_blk Q6.out))
  clear hb7 P6 Q6 F6
  have GE := hid (show ∀ k, (Value.slice ao3 y.length c3).ownBlock = some k → w2.heap.size ≤ k from fun k hk => (A7.out.lt k hk).1)
  have OL := hid (show ∀ k, (Value.slice ao2 l.length c2).ownBlock = some k → k < w2.heap.size from fun k hk => (O2.out.lt k hk).2)
  rcases A7.out.2 with ⟨h0, hy0⟩ | ⟨g, cap, cur, hv, hbg, hg, hn, hm, hcs, _⟩
  · simp only [Value.slice.injEq] at h0
    obtain ⟨rfl, hy1, rfl⟩ := h0
    have hy2 : y = [] := List.eq_nil_of_length_eq_zero hy1
    subst hy2
    clear hy1 hy0
    go_wp2
    go_loopw [13] (fun i wr => i = .int .i64 0 ∧ wr = w7) (fun _ _ => 0)
    case atStart => exact ⟨rfl, rfl⟩
    case round =>
      obtain ⟨rfl, rfl⟩ := hrel
      go_wp2_with fail
      refine (same_any _ _ l l wr (Sl.own O7.out) (Hb.out.below L7.out (fun _ _ h => h))).mono ?_
      rintro e w9 ⟨rfl, hb9⟩
      rw [decide_eq_true (rfl : l = l)]
      have L9 := hid ((L7.out).trans (hb9.mono (L7.out).size))
      clear hb9
      go_wp2_with fail
      refine (HL.out w9).mono ?_
      rintro e w10 ⟨rfl, hb10⟩
      have L10 := hid (L9.out.trans (hb10.mono L9.out.size))
      clear hb10
      go_wp2
      go_ret
      exact ⟨rfl, L10.out⟩
  · simp only [Value.slice.injEq] at hv
    obtain ⟨rfl, _, rfl⟩ := hv
    have HG := hid hg; have HCS := hid hcs
    have LTG := hid (lt_of_blk hg)
    unfold maxLen at hm
    clear hg hcs
    obtain ⟨wo, rfl⟩ : ∃ wo : World, wo = w7 := ⟨_, rfl⟩
    go_wp2
    go_loopw [13] (fun i wr => ∃ (k : Nat) (cs : Array Value), k ≤ y.length ∧ i = .int .i64 (k : Int) ∧ wo.grownBy wr (some g) ∧ wr.heap[g]? = some (.cells cs 37 (0, 0)) ∧ cs.size = cur.size)
      (fun i _ => y.length - (intOf i).toNat)
    case atStart => exact ⟨0, cur, Nat.zero_le _, rfl, ⟨rfl, rfl, rfl, Nat.le_refl _, fun _ _ _ => rfl⟩, HG.out, rfl⟩
    case round =>
      obtain ⟨k, cs, hk, rfl, hgrow, hgk, hsz⟩ := hrel
      have GR := hid hgrow; have GK := hid hgk
      clear hgrow hgk
      by_cases hlt : k < y.length
      · have hcs : k * 2 + 1 < cs.size := by rw [hsz, HCS.out]; omega
        obtain ⟨u0, c0⟩ : ∃ u, wr.cell? ⟨g, k * 2, none⟩ = some u := ⟨cs[k * 2], by rw [cell_of_blk GK.out]; exact Array.getElem?_eq_getElem (by omega)⟩
        obtain ⟨u1, c1⟩ : ∃ u, wr.cell? ⟨g, k * 2 + 1, none⟩ = some u := ⟨cs[k * 2 + 1], by rw [cell_of_blk GK.out]; exact Array.getElem?_eq_getElem hcs⟩
        have f0 := free_of_blk GK.out (k * 2)
        have f1 := free_of_blk GK.out (k * 2 + 1)
        have i0 : (0 : Int) ≤ (k : Int) := by omega
        have i1 : (k : Int) < (y.length : Int) := by omega
        have HSZ := hid hsz
        clear hcs hsz
        go_wp2
        go_roundw
        case rel => exact ⟨k + 1, _, hlt, by go_num, grown_setCell (grown_setCell GR.out _ _ rfl) _ _ rfl, blk_setCell (blk_setCell GK.out _ _) _ _, by simp; exact HSZ.out⟩
        case measure => simp [intOf]; omega
      · obtain rfl : k = y.length := by omega
        have Lr := hid (show Below w.heap.size w wr from L7.out.grown GR.out L7.out.size (fun k hk => by cases hk; have := L2.out.size; omega))
        have Or := hid (own_keep O7.out fun k hk => GR.out.block k (O7.out.lt k hk).2 (by rintro h; cases h; have := OL.out _ hk; omega))
        go_wp2_with fail
        refine (same_any _ _ l l wr (Sl.own Or.out) (Hb.out.below Lr.out (fun _ _ h => h))).mono ?_
        rintro e w9 ⟨rfl, hb9⟩
        rw [decide_eq_true (rfl : l = l)]
        have L9 := hid ((Lr.out).trans (hb9.mono (Lr.out).size))
        clear hb9
        go_wp2_with fail
        refine (HL.out w9).mono ?_
        rintro e w10 ⟨rfl, hb10⟩
        have L10 := hid (L9.out.trans (hb10.mono L9.out.size))
        clear hb10
        go_wp2
        go_ret
        exact ⟨rfl, L10.out⟩
end Go.Proofs.Ytebjdiiogihcdaa
