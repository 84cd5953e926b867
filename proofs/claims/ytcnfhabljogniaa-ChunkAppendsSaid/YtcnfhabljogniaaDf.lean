/- chunk.Append; the walk of ChunkGrows. -/
import Derived.Test.YtcnfhabljogniaaDe
namespace Go.Proofs.Ytcnfhabljogniaa
open Go.RowKit
set_option linter.unusedSimpArgs false

/-- chunk.Append in plain words -/
def appV (b : List UInt8) (x : Int × Int) : List UInt8 × Int :=
  if (decV b).2 ≠ 0 then ([], (decV b).2) else if 120 ≤ (decV b).1.length then ([], 7) else if mayB x.1 x.2 = false then ([], 11) else if x.1 ≤ (lastP (decV b).1).1 then ([], 13) else encV ((decV b).1 ++ [x])

theorem dec_len {F : List UInt8} {s : List (Int × Int)} (h : decV F = (s, 0)) : chkL s = 0 := by
  have hE := dec_enc h
  unfold encV at hE
  split at hE
  · rename_i hc; exact hc
  · rename_i hc; simp only [Prod.mk.injEq] at hE; exact absurd hE.2 hc

set_option maxRecDepth 100000 in
set_option maxHeartbeats 2000000 in
theorem append_any (v : Value) (b : List UInt8) (T V : Int) (w : World) (hl : b.length ≤ 150000000000000) (hb : Sl w 1 v b.length (bc b)) :
    Calls Try.prog 21 #[v, .agg #[.int .i64 T, .int .i64 V]] w (EncPost w (appV b (T, V))) := by
  have Hb := hid hb
  have BQ := hid (blk_new w (.cells #[.int .i64 T, .int .i64 V] 40) w.heap.size rfl)
  have HD := hid (decode_any v b (w.alloc (.cells #[.int .i64 T, .int .i64 V] 40)) hl (hb.alloc _))
  clear hb
  rcases decV_err b with h5 | h0
  · rw [h5] at HD
    have hA : appV b (T, V) = ([], 5) := by unfold appV; rw [h5]; rfl
    rw [hA]
    go_enter Try.func21, Try.ntmps21
    go_wp2_with fail
    refine HD.out.mono ?_
    rintro e w1 ⟨ao1, c1, rfl, hb1, hown1⟩
    have L1 := hid (((Below.refl w.heap.size w).alloc (Nat.le_refl _) (.cells #[.int .i64 T, .int .i64 V] 40)).trans (hb1.mono (by simp)))
    clear hb1 hown1
    go_wp2
    go_ret2
    exact ⟨none, 0, rfl, L1.out, World.ownsRow_nil _ _ _ _⟩
  · obtain ⟨s, er, hs⟩ : ∃ s er, decV b = (s, er) := ⟨_, _, rfl⟩
    rw [hs] at h0
    simp only at h0
    subst h0
    have hc := dec_len hs
    have hcz := chkL_zero hc
    rw [hs] at HD
    have hA : appV b (T, V) = if 120 ≤ s.length then ([], 7) else if mayB T V = false then ([], 11) else if T ≤ (lastP s).1 then ([], 13) else encV (s ++ [(T, V)]) := by
      unfold appV; rw [hs]; rfl
    rw [hA]
    clear hA hs hc
    have h120 := hcz.2.1
    have hpos := hcz.1
    clear hcz
    by_cases h1 : 120 ≤ s.length
    · have d1 : decide (120 ≤ (s.length : Int)) = true := decide_eq_true (by omega)
      rw [if_pos h1]
      go_enter Try.func21, Try.ntmps21
      go_wp2_with fail
      refine HD.out.mono ?_
      rintro e w1 ⟨ao1, c1, rfl, hb1, hown1⟩
      have L1 := hid (((Below.refl w.heap.size w).alloc (Nat.le_refl _) (.cells #[.int .i64 T, .int .i64 V] 40)).trans (hb1.mono (by simp)))
      clear hb1 hown1
      go_wp2
      go_ret2
      exact ⟨none, 0, rfl, L1.out, World.ownsRow_nil _ _ _ _⟩
    · have d1 : decide (120 ≤ (s.length : Int)) = false := decide_eq_false (by omega)
      rw [if_neg h1]
      rcases Bool.eq_false_or_eq_true (mayB T V) with hm | hm
      · rw [if_neg (by rw [hm]; simp)]
        obtain ⟨tl, htl⟩ : ∃ x, x = (lastP s).1 := ⟨_, rfl⟩
        have HTL := hid (show tl = (s.getD (s.length - 1) (0, 0)).1 from htl)
        rw [← htl]
        clear htl
        have kw : IntKind.i64.wrap ((s.length : Int) - 1) = (s.length : Int) - 1 := IntWalk.i64_in _ (by omega)
        have kt : ((s.length : Int) - 1).toNat = s.length - 1 := by omega
        have i0 : (0 : Int) ≤ (s.length : Int) - 1 := by omega
        have i1 : (s.length : Int) - 1 < (s.length : Int) := by omega
        rcases Bool.eq_false_or_eq_true (decide (T ≤ tl)) with d2 | d2
        · rw [if_pos (of_decide_eq_true d2)]
          go_enter Try.func21, Try.ntmps21
          go_wp2_with fail
          refine HD.out.mono ?_
          rintro e w1 ⟨ao1, c1, rfl, hb1, hown1⟩
          have L1 := hid (((Below.refl w.heap.size w).alloc (Nat.le_refl _) (.cells #[.int .i64 T, .int .i64 V] 40)).trans (hb1.mono (by simp)))
          have B1 := hid (blk_below BQ.out hb1 (by simp))
          have O1 := hid hown1
          obtain ⟨b0, b1, b2, b3, b4⟩ := blk2 B1.out
          clear hb1 hown1
          go_wp2_with fail
          refine (may_any T V w1).mono ?_
          rintro e w2 ⟨rfl, hb2⟩
          rw [hm]
          have L2 := hid (L1.out.trans (hb2.mono L1.out.size))
          have B2 := hid (blk_below B1.out hb2 (lt_of_blk B1.out))
          obtain ⟨g2, o2, hao, _, hcell⟩ := sc_cells ((Sl.own O1.out).below hb2 (fun _ _ h => h)) hpos
          subst hao
          have hcl := (hcell (s.length - 1) (by omega)).1
          rw [← HTL.out] at hcl
          clear hb2 hcell b0 b1 b2 b3 b4
          obtain ⟨b0, b1, b2, b3, b4⟩ := blk2 B2.out
          go_wp2
          go_quiet (fail)
          rename_i nq
          have L3 := hid (Below_drewN L2.out nq)
          generalize w2.drewN nq = W0 at *
          go_wp2
          go_ret2
          exact ⟨none, 0, rfl, L3.out, World.ownsRow_nil _ _ _ _⟩
        · rw [if_neg (of_decide_eq_false d2)]
          go_enter Try.func21, Try.ntmps21
          go_wp2_with fail
          refine HD.out.mono ?_
          rintro e w1 ⟨ao1, c1, rfl, hb1, hown1⟩
          have L1 := hid (((Below.refl w.heap.size w).alloc (Nat.le_refl _) (.cells #[.int .i64 T, .int .i64 V] 40)).trans (hb1.mono (by simp)))
          have B1 := hid (blk_below BQ.out hb1 (by simp))
          have O1 := hid (own_base hown1 (show w.heap.size ≤ (w.alloc (.cells #[.int .i64 T, .int .i64 V] 40)).heap.size by simp))
          obtain ⟨b0, b1, b2, b3, b4⟩ := blk2 B1.out
          clear hb1 hown1
          go_wp2_with fail
          refine (may_any T V w1).mono ?_
          rintro e w2 ⟨rfl, hb2⟩
          rw [hm]
          have L2 := hid (L1.out.trans (hb2.mono L1.out.size))
          have B2 := hid (blk_below B1.out hb2 (lt_of_blk B1.out))
          have O2 := hid (own_below O1.out hb2 (Nat.le_refl _))
          obtain ⟨g2, o2, hao, _, hcell⟩ := sc_cells (Sl.own O2.out) hpos
          subst hao
          have hcl := (hcell (s.length - 1) (by omega)).1
          rw [← HTL.out] at hcl
          clear hb2 hcell b0 b1 b2 b3 b4
          obtain ⟨b0, b1, b2, b3, b4⟩ := blk2 B2.out
          go_wp2
          go_quiet (fail)
          rename_i nq
          have L3 := hid (Below_drewN L2.out nq)
          have B3 := hid (show (w2.drewN nq).heap[w.heap.size]? = _ from B2.out)
          have O3 := hid (show (w2.drewN nq).ownsRow w.heap.size 40 2 (.slice (some ⟨g2, o2, none⟩) s.length c1) s.length (sc s) from O2.out)
          clear b0 b1 b2 b3 b4 hcl
          generalize w2.drewN nq = W0 at *
          obtain ⟨b0, b1, b2, b3, b4⟩ := blk2 B3.out
          have s3 := L3.out.size
          go_wp2_with (at_builtin; refine wpList_appM rfl _ _ rfl w.heap.size (.slice (some ⟨g2, o2, none⟩) s.length c1) s.length s rfl O3.out (T, V) _ rfl rfl (by omega) s3 ?_; intro g8 c8 w8 hown8 hgrow8 hbel8 sz8; have O8 := hid hown8; have L8 := hid (hbel8 w L3.out); clear hown8 hgrow8 hbel8)
          have hE := encode_any (.slice (some ⟨g8, 0, none⟩) (s.length + 1) c8) (s ++ [(T, V)]) w8 (by simp; omega) (by have := Sl.own O8.out; simpa using this)
          refine hE.mono ?_
          rintro e w9 ⟨ao9, c9, rfl, hb9, hown9⟩
          have L9 := hid (L8.out.trans (hb9.mono L8.out.size))
          have O9 := hid (own_base hown9 L8.out.size)
          clear hb9 hown9 hE
          go_wp2
          go_ret2
          exact ⟨ao9, c9, rfl, L9.out, O9.out⟩
      · rw [if_pos hm]
        go_enter Try.func21, Try.ntmps21
        go_wp2_with fail
        refine HD.out.mono ?_
        rintro e w1 ⟨ao1, c1, rfl, hb1, hown1⟩
        have L1 := hid (((Below.refl w.heap.size w).alloc (Nat.le_refl _) (.cells #[.int .i64 T, .int .i64 V] 40)).trans (hb1.mono (by simp)))
        have B1 := hid (blk_below BQ.out hb1 (by simp))
        obtain ⟨b0, b1, b2, b3, b4⟩ := blk2 B1.out
        clear hb1 hown1
        go_wp2_with fail
        refine (may_any T V w1).mono ?_
        rintro e w2 ⟨rfl, hb2⟩
        rw [hm]
        have L2 := hid (L1.out.trans (hb2.mono L1.out.size))
        clear hb2 b0 b1 b2 b3 b4
        go_wp2
        go_ret2
        exact ⟨none, 0, rfl, L2.out, World.ownsRow_nil _ _ _ _⟩

/-! ### a chunk that grows -/
theorem chk_take {l : List (Int × Int)} (h : chkL l = 0) (k : Nat) (h0 : 0 < k) (hk : k ≤ l.length) : chkL (l.take k) = 0 := by
  have hl : (l.take k).length = k := by simp; omega
  have hz := chkL_zero h
  unfold chkL
  rw [if_neg (by omega)]
  refine chkA_of none (fun i hi => ?_) (fun i hi => ?_) (fun q hq => by cases hq)
  · rw [take_getD l k i (by omega) hk]
    exact mayB_iff.2 (chk_at h i (by omega)).1
  · rw [take_getD l k i (by omega) hk, take_getD l k (i + 1) (by omega) hk]
    have := (chk_at h (i + 1) (by omega)).2 (by omega)
    simpa using this
theorem encV_ok {l : List (Int × Int)} (h : chkL l = 0) : encV l = ((encB l (l.length - 1)).1, 0) := by unfold encV; rw [if_pos h]
theorem app_take {l : List (Int × Int)} (h : chkL l = 0) (k : Nat) (h0 : 0 < k) (hk : k < l.length) : appV (encV (l.take k)).1 (l.getD k (0, 0)) = encV (l.take (k + 1)) := by
  have hc := chk_take h k h0 (by omega)
  have hl : (l.take k).length = k := by simp; omega
  have hz := chkL_zero h
  have hd := enc_dec hc rfl
  have ha := chk_at h k hk
  unfold appV
  rw [encV_ok hc]
  simp only
  rw [hd]
  simp only [ne_eq, not_true_eq_false, if_false]
  rw [if_neg (by omega), if_neg (by rw [mayB_iff.2 ha.1]; simp), if_neg ?_, take_next l k hk]
  unfold lastP
  rw [hl, take_getD l k (k - 1) (by omega) (by omega)]
  have := ha.2 h0
  omega
theorem enc_len (l : List (Int × Int)) : (encV l).1.length ≤ 10000000 := by
  unfold encV
  split
  · rename_i hc
    have h1 := encB_bits l (l.length - 1)
    have h2 : (encB l (l.length - 1)).1.length = ((encB l (l.length - 1)).2 + 7) / 8 := (pushAll_Rt' (nums l (l.length - 1)) ([], 0) Rt_nil).1
    have h3 := chkL_zero hc
    show (encB l (l.length - 1)).1.length ≤ _
    omega
  · simp
end Go.Proofs.Ytcnfhabljogniaa
