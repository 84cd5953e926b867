/- The walk of WindowLast. -/
import Derived.Test.YtebjdiiogihcdaaWo
import Derived.StillTailTactics
namespace Go.Proofs.Ytebjdiiogihcdaa
open Go.RowKit
set_option linter.unusedSimpArgs false

/-- a drawn operation that its guard keeps from running (a tactic that whnfs the goal would walk all of these at once) -/
theorem wpStill_skip {P : Program} {ops : Array Oper} {w : World} {Q : Act → Prop} {o : Oper} {rest : List Oper} {a : Act} (h : Region.wanted o (yielded ops a.tmps) = false) : wpStill P ops w Q (o :: rest) a = wpStill P ops w Q rest (a.put o.dst undef) := by
  rw [wpStill, h]
  simp
theorem chkA_of : ∀ (l : List (Int × Int)) (p : Option Int), (∀ s ∈ l, mayB s.1 s.2 = true) → l.Pairwise (fun a b => a.1 < b.1) → (∀ q, p = some q → ∀ s ∈ l, q < s.1) → chkA p l = 0
  | [], _, _, _, _ => rfl
  | a :: t, p, h1, h2, h3 => by
    obtain ⟨g1, g2⟩ := List.pairwise_cons.1 h2
    have ha := h1 a (List.mem_cons_self)
    rw [chkA, if_neg (by rw [ha]; simp), if_neg (by
      rintro ⟨q, hq, hle⟩
      have := h3 q hq a (List.mem_cons_self)
      omega)]
    refine chkA_of t (some a.1) (fun s hs => h1 s (List.mem_cons_of_mem _ hs)) g2 ?_
    intro q hq s hs
    cases hq
    exact g1 s hs
theorem rise_mem {l : List (Int × Int)} (h : chkA none l = 0) : ∀ s ∈ l, mayB s.1 s.2 = true := by
  intro s hs
  obtain ⟨k, hk, rfl⟩ := List.getElem_of_mem hs
  have := (chkA_zero h k hk).1
  simpa [List.getD_eq_getElem?_getD, List.getElem?_eq_getElem hk] using this
theorem rise_filter {l : List (Int × Int)} (h : chkA none l = 0) (p : Int × Int → Bool) : chkA none (l.filter p) = 0 :=
  chkA_of _ none (fun s hs => rise_mem h s (List.mem_filter.1 hs).1) ((rise_pair h).filter _) (fun q hq => by cases hq)
theorem lastV_eq (l : List (Int × Int)) (c : Int) (hc : c = (l.getD 0 (0, 0)).2) (k : Nat) : foldTo (fun _ v _ => (v, 0)) l c k = ((l.getD k (0, 0)).2, 0) := by
  induction k with
  | zero => rw [foldTo, hc]
  | succ k ih => rw [foldTo, ih]; simp
/-- last_over_time -/
theorem apply_last (v : Value) (l : List (Int × Int)) (r : Int) (w : World) (hl : l.length ≤ 10000000000000) (hb : Sl w 2 v l.length (sc l)) :
    Calls Try.prog 9 #[opS5, v, .int .i64 r] w fun e w' => e = retA (apV 1 l r (lastV l)) ∧ Below w.heap.size w w' :=
  apply_any _ v l 1 r w hl hb known_5 (lastV l) fun _ _ _ _ h2 wx hx => tell_5 v l r wx (by omega) hx

set_option maxRecDepth 100000 in
set_option maxHeartbeats 4000000 in
theorem walk_WindowLast (w : World) (v : Value) (l : List (Int × Int)) (hb : Sl w 2 v l.length (sc l)) (_h64 : S64 l) (hl : l.length ≤ 8796093022208) (en : Int) (he0 : -9223372036854775808 ≤ en) (he1 : en ≤ 9223372036854775807) :
    Calls Try.prog 8 #[v, .int .i64 en] w fun e w' => e = .returned (.bool true) ∧ Below w.heap.size w w' := by
  have HR := hid (refRises_any v l w (by omega) hb)
  have HL := hid lives_any
  have Hb := hid hb
  clear hb
  rcases Bool.eq_false_or_eq_true (chkA none l != 0) with hc | hc
  · generalize chkA none l = ce at *
    go_enter Try.func8, Try.ntmps8
    go_wp2_with fail
    refine HR.out.mono ?_
    rintro e w1 ⟨rfl, hb1⟩
    have L1 := hid hb1
    clear hb1
    go_wp2_with fail
    refine (HL.out w1).mono ?_
    rintro e w2 ⟨rfl, hb2⟩
    have L2 := hid (L1.out.trans (hb2.mono L1.out.size))
    clear hb2
    go_wp2
    go_ret
    exact ⟨rfl, L2.out⟩
  have hch : chkA none l = 0 := by simpa using hc
  rw [hch] at HR
  have HCH := hid hch
  have HCY := hid (show chkA none (rangeL l en 300000) = 0 from rise_filter hch _)
  clear hc hch
  have R1 := hid (fun v wx hx => range_any v l en 300000 wx HCH.out (by omega) (by omega) (by omega) (by omega) hx)
  have I1 := hid (fun v wx hx => instant_any v l en wx HCH.out (by omega) (by omega) (by omega) hx)
  have HLEN := rangeL_len l en 300000
  obtain ⟨p, hp⟩ : ∃ p, p = instV l en := ⟨_, rfl⟩
  simp only [← hp] at I1
  have HI := hid hp
  unfold instV at HI
  clear hp
  generalize rangeL l en 300000 = y at *
  have AP := hid (fun v wx hx => apply_last v y 300000 wx (by omega) hx)
  obtain ⟨q, hq⟩ : ∃ q, q = apV 1 y 300000 (lastV y) := ⟨_, rfl⟩
  simp only [← hq] at AP
  have HAP := hid hq
  unfold apV at HAP
  clear hq
  unfold retI at I1
  unfold retA opS5 at AP
  obtain ⟨ao, c, rfl, _, _, _⟩ := Hb.out.shape
  by_cases h0 : y.length = 0
  · have hp : p = ((0, 0), false) := by rw [HI.out, if_pos h0]
    have hq : q = (0, false, 0) := by rw [HAP.out, if_neg (by decide), if_neg (by omega), if_neg (by rw [HCY.out]; simp), if_pos (by omega)]
    clear HI HAP
    subst hp hq
    clear h0
    go_enter Try.func8, Try.ntmps8
    go_wp2_with fail
    refine HR.out.mono ?_
    rintro e w1 ⟨rfl, hb1⟩
    have L1 := hid hb1
    clear hb1
    go_wp2_with fail
    refine (R1.out _ w1 (Hb.out.below L1.out (fun _ _ h => h))).mono ?_
    rintro e w2 ⟨ao2, c2, rfl, hb2, hown2⟩
    have L2 := hid (L1.out.trans (hb2.mono L1.out.size)); have O2 := hid hown2
    clear hb2 hown2
    go_wp2_with fail
    refine (AP.out _ w2 (Sl.own O2.out)).mono ?_
    rintro e w3 ⟨rfl, hb3⟩
    have L3 := hid (L2.out.trans (hb3.mono L2.out.size))
    have O3 := hid (own_below O2.out hb3 (Nat.le_refl _))
    clear hb3
    go_wp2_with fail
    refine (I1.out _ w3 (Hb.out.below L3.out (fun _ _ h => h))).mono ?_
    rintro e w4 ⟨rfl, hb4⟩
    have L4 := hid (L3.out.trans (hb4.mono L3.out.size))
    have O4 := hid (own_below O3.out hb4 (Nat.le_refl _))
    clear hb4
    have P4 := hid (blk_new w4 (.cells #[.int .i64 0, .int .i64 0] 37) _ rfl)
    have L5 := hid (L4.out.alloc L4.out.size (.cells #[.int .i64 0, .int .i64 0] 37))
    go_wp2_with fail
    generalize w4.alloc (.cells #[.int .i64 0, .int .i64 0] 37) = w5 at *
    obtain ⟨b0, b1, b2, b3, b4⟩ := blk2 P4.out
    refine wp_region_still_tail 28 (by kernel_rfl) (by kernel_rfl) ?_
    simp only [List.take_succ_cons, List.take_zero, List.drop_succ_cons, List.drop_zero]
    iterate 11 still_step
    iterate 14 (rw [wpStill_skip (by kernel_rfl)]; simp only [Act.put, List.setIfInBounds_toArray, List.set_cons_succ, List.set_cons_zero])
    iterate 3 still_step
    refine wpStill_nil ?_
    change wpList _ _ _ _ _ w5.drew
    have L6 := hid (Below_drewN L5.out 1)
    have L6' := hid (show Below w.heap.size w w5.drew from L6.out)
    generalize w5.drew = w6 at *
    go_wp2_with fail
    refine (HL.out w6).mono ?_
    rintro e w7 ⟨rfl, hb7⟩
    have L7 := hid (L6'.out.trans (hb7.mono L6'.out.size))
    clear hb7
    go_wp2
    go_ret
    exact ⟨rfl, L7.out⟩
  · have hp : p = (y.getD (y.length - 1) (0, 0), true) := by rw [HI.out, if_neg h0]
    have hq : q = ((y.getD (y.length - 1) (0, 0)).2, true, 0) := by rw [HAP.out, if_neg (by decide), if_neg (by omega), if_neg (by rw [HCY.out]; simp), if_neg (by omega), show lastV y = _ from lastV_eq y (firstV y) rfl (y.length - 1)]; rfl
    obtain ⟨x, hx⟩ : ∃ x, x = y.getD (y.length - 1) (0, 0) := ⟨_, rfl⟩
    rw [← hx] at hp hq
    clear HI HAP
    have HX := hid hx
    have i2 : 0 < y.length := by omega
    clear hx h0
    subst hp hq
    go_enter Try.func8, Try.ntmps8
    go_wp2_with fail
    refine HR.out.mono ?_
    rintro e w1 ⟨rfl, hb1⟩
    have L1 := hid hb1
    clear hb1
    go_wp2_with fail
    refine (R1.out _ w1 (Hb.out.below L1.out (fun _ _ h => h))).mono ?_
    rintro e w2 ⟨ao2, c2, rfl, hb2, hown2⟩
    have L2 := hid (L1.out.trans (hb2.mono L1.out.size)); have O2 := hid hown2
    clear hb2 hown2
    go_wp2_with fail
    refine (AP.out _ w2 (Sl.own O2.out)).mono ?_
    rintro e w3 ⟨rfl, hb3⟩
    have L3 := hid (L2.out.trans (hb3.mono L2.out.size))
    have O3 := hid (own_below O2.out hb3 (Nat.le_refl _))
    clear hb3
    go_wp2_with fail
    refine (I1.out _ w3 (Hb.out.below L3.out (fun _ _ h => h))).mono ?_
    rintro e w4 ⟨rfl, hb4⟩
    have L4 := hid (L3.out.trans (hb4.mono L3.out.size))
    have O4 := hid (own_below O3.out hb4 (Nat.le_refl _))
    clear hb4
    have P4 := hid (blk_new w4 (.cells #[.int .i64 x.1, .int .i64 x.2] 37) _ rfl)
    have L5 := hid (L4.out.alloc L4.out.size (.cells #[.int .i64 x.1, .int .i64 x.2] 37))
    have S5 := hid ((Sl.own O4.out).alloc (.cells #[.int .i64 x.1, .int .i64 x.2] 37))
    obtain ⟨g, off, rfl, _, hcell⟩ := sc_cells S5.out i2
    obtain ⟨hc0, hc1⟩ := hcell (y.length - 1) (by omega)
    rw [← HX.out] at hc0 hc1
    have kw : IntKind.i64.wrap ((y.length : Int) - 1) = (y.length : Int) - 1 := IntWalk.i64_in _ (by omega)
    have kt : ((y.length : Int) - 1).toNat = y.length - 1 := by omega
    have i0 : (0 : Int) ≤ (y.length : Int) - 1 := by omega
    have i1 : (y.length : Int) - 1 < (y.length : Int) := by omega
    have i5 : (1 : Int) ≤ (y.length : Int) := by omega
    clear hcell
    go_wp2_with fail
    generalize w4.alloc (.cells #[.int .i64 x.1, .int .i64 x.2] 37) = w5 at *
    obtain ⟨b0, b1, b2, b3, b4⟩ := blk2 P4.out
    go_still_tail 28, (by kernel_rfl)
    change wpList _ _ _ _ _ w5.drew
    have L6 := hid (Below_drewN L5.out 1)
    have L6' := hid (show Below w.heap.size w w5.drew from L6.out)
    generalize w5.drew = w6 at *
    go_wp2_with fail
    refine (HL.out w6).mono ?_
    rintro e w7 ⟨rfl, hb7⟩
    have L7 := hid (L6'.out.trans (hb7.mono L6'.out.size))
    clear hb7
    go_wp2
    go_ret
    exact ⟨rfl, L7.out⟩
end Go.Proofs.Ytebjdiiogihcdaa
