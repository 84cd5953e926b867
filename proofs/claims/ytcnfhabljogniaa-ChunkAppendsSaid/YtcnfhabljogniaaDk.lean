/- The reference's Append; the walk of ChunkAppends. -/
import Derived.Test.YtcnfhabljogniaaDj
namespace Go.Proofs.Ytcnfhabljogniaa
open Go.RowKit
set_option linter.unusedSimpArgs false

set_option maxRecDepth 100000 in
set_option maxHeartbeats 2000000 in
theorem refAppend_any (v : Value) (b : List UInt8) (T V : Int) (w : World) (hl : b.length ≤ 150000000000000) (hb : Sl w 1 v b.length (bc b)) :
    Calls Try.prog 22 #[v, .agg #[.int .i64 T, .int .i64 V]] w (EncPost w (appV b (T, V))) := by
  obtain ⟨inf, hi, hz0, hz1, hz2⟩ := info_parts infoSmp
  have Hb := hid hb
  have BQ := hid (blk_new w (.cells #[.int .i64 T, .int .i64 V] 40) w.heap.size rfl)
  have HD := hid (refDecode_any v b (w.alloc (.cells #[.int .i64 T, .int .i64 V] 40)) hl (hb.alloc _))
  clear hb
  rcases decV_err b with h5 | h0
  · rw [h5] at HD
    have hA : appV b (T, V) = ([], 5) := by unfold appV; rw [h5]; rfl
    rw [hA]
    go_enter Try.func22, Try.ntmps22
    go_wp2_with fail
    refine HD.out.mono ?_
    rintro e w1 ⟨ao1, c1, rfl, hb1, hown1⟩
    have L1 := hid (((Below.refl w.heap.size w).alloc (Nat.le_refl _) (.cells #[.int .i64 T, .int .i64 V] 40)).trans (hb1.mono (by simp)))
    clear hb1 hown1
    go_wp2
    go_ret2
    exact ⟨none, 0, rfl, L1.out, World.ownsRow_nil _ _ _ _⟩
  · obtain ⟨s, er, hs⟩ : ∃ s er, decV b = (s, er) := ⟨_, _, rfl⟩
    rw [hs] at h0
    simp only at h0
    subst h0
    have hc := dec_len hs
    have hcz := chkL_zero hc
    rw [hs] at HD
    have hA : appV b (T, V) = if 120 ≤ s.length then ([], 7) else if mayB T V = false then ([], 11) else if T ≤ (lastP s).1 then ([], 13) else encV (s ++ [(T, V)]) := by
      unfold appV; rw [hs]; rfl
    rw [hA]
    clear hA hs hc
    have h120 := hcz.2.1
    have hpos := hcz.1
    clear hcz
    by_cases h1 : 120 ≤ s.length
    · have d1 : decide (120 ≤ (s.length : Int)) = true := decide_eq_true (by omega)
      rw [if_pos h1]
      go_enter Try.func22, Try.ntmps22
      go_wp2_with fail
      refine HD.out.mono ?_
      rintro e w1 ⟨ao1, c1, rfl, hb1, hown1⟩
      have L1 := hid (((Below.refl w.heap.size w).alloc (Nat.le_refl _) (.cells #[.int .i64 T, .int .i64 V] 40)).trans (hb1.mono (by simp)))
      clear hb1 hown1
      go_wp2
      go_ret2
      exact ⟨none, 0, rfl, L1.out, World.ownsRow_nil _ _ _ _⟩
    · have d1 : decide (120 ≤ (s.length : Int)) = false := decide_eq_false (by omega)
      rw [if_neg h1]
      rcases Bool.eq_false_or_eq_true (mayB T V) with hm | hm
      · rw [if_neg (by rw [hm]; simp)]
        obtain ⟨tl, htl⟩ : ∃ x, x = (lastP s).1 := ⟨_, rfl⟩
        have HTL := hid (show tl = (s.getD (s.length - 1) (0, 0)).1 from htl)
        rw [← htl]
        clear htl
        have kw : IntKind.i64.wrap ((s.length : Int) - 1) = (s.length : Int) - 1 := IntWalk.i64_in _ (by omega)
        have kt : ((s.length : Int) - 1).toNat = s.length - 1 := by omega
        have i0 : (0 : Int) ≤ (s.length : Int) - 1 := by omega
        have i1 : (s.length : Int) - 1 < (s.length : Int) := by omega
        rcases Bool.eq_false_or_eq_true (decide (T ≤ tl)) with d2 | d2
        · rw [if_pos (of_decide_eq_true d2)]
          go_enter Try.func22, Try.ntmps22
          go_wp2_with fail
          refine HD.out.mono ?_
          rintro e w1 ⟨ao1, c1, rfl, hb1, hown1⟩
          have L1 := hid (((Below.refl w.heap.size w).alloc (Nat.le_refl _) (.cells #[.int .i64 T, .int .i64 V] 40)).trans (hb1.mono (by simp)))
          have B1 := hid (blk_below BQ.out hb1 (by simp))
          have O1 := hid hown1
          obtain ⟨b0, b1, b2, b3, b4⟩ := blk2 B1.out
          clear hb1 hown1
          go_wp2_with fail
          refine (refMay_any T V w1).mono ?_
          rintro e w2 ⟨rfl, hb2⟩
          rw [hm]
          have L2 := hid (L1.out.trans (hb2.mono L1.out.size))
          have B2 := hid (blk_below B1.out hb2 (lt_of_blk B1.out))
          obtain ⟨g2, o2, hao, _, hcell⟩ := sc_cells ((Sl.own O1.out).below hb2 (fun _ _ h => h)) hpos
          subst hao
          have hcl := (hcell (s.length - 1) (by omega)).1
          rw [← HTL.out] at hcl
          clear hb2 hcell b0 b1 b2 b3 b4
          obtain ⟨b0, b1, b2, b3, b4⟩ := blk2 B2.out
          go_wp2
          go_quiet (fail)
          rename_i nq
          have L3 := hid (Below_drewN L2.out nq)
          generalize w2.drewN nq = W0 at *
          go_wp2
          go_ret2
          exact ⟨none, 0, rfl, L3.out, World.ownsRow_nil _ _ _ _⟩
        · rw [if_neg (of_decide_eq_false d2)]
          go_enter Try.func22, Try.ntmps22
          go_wp2_with fail
          refine HD.out.mono ?_
          rintro e w1 ⟨ao1, c1, rfl, hb1, hown1⟩
          have L1 := hid (((Below.refl w.heap.size w).alloc (Nat.le_refl _) (.cells #[.int .i64 T, .int .i64 V] 40)).trans (hb1.mono (by simp)))
          have B1 := hid (blk_below BQ.out hb1 (by simp))
          have O1 := hid (own_base hown1 (show w.heap.size ≤ (w.alloc (.cells #[.int .i64 T, .int .i64 V] 40)).heap.size by simp))
          obtain ⟨b0, b1, b2, b3, b4⟩ := blk2 B1.out
          clear hb1 hown1
          go_wp2_with fail
          refine (refMay_any T V w1).mono ?_
          rintro e w2 ⟨rfl, hb2⟩
          rw [hm]
          have L2 := hid (L1.out.trans (hb2.mono L1.out.size))
          have B2 := hid (blk_below B1.out hb2 (lt_of_blk B1.out))
          have O2 := hid (own_below O1.out hb2 (Nat.le_refl _))
          obtain ⟨g2, o2, hao, _, hcell⟩ := sc_cells (Sl.own O2.out) hpos
          subst hao
          have hcl := (hcell (s.length - 1) (by omega)).1
          rw [← HTL.out] at hcl
          clear hb2 hcell b0 b1 b2 b3 b4
          obtain ⟨b0, b1, b2, b3, b4⟩ := blk2 B2.out
          go_wp2
          go_quiet (fail)
          rename_i nq
          have L3 := hid (Below_drewN L2.out nq)
          have B3 := hid (show (w2.drewN nq).heap[w.heap.size]? = _ from B2.out)
          have O3 := hid (show (w2.drewN nq).ownsRow w.heap.size 40 2 (.slice (some ⟨g2, o2, none⟩) s.length c1) s.length (sc s) from O2.out)
          clear b0 b1 b2 b3 b4 hcl
          generalize w2.drewN nq = W0 at *
          obtain ⟨b0, b1, b2, b3, b4⟩ := blk2 B3.out
          have s3 := L3.out.size
          have s3n : w.heap.size + 1 ≤ W0.heap.size := b4
          go_wp2_with fail
          go_region_held3 (fun w' => w'.cell? ⟨w.heap.size, 0, none⟩ = some (.int .i64 T) ∧ w'.cell? ⟨w.heap.size, 1, none⟩ = some (.int .i64 V))
            (first | exact hS | go_keep)
             (first
            | (refine step_append_put (by rfl) _ _ 22 22 (by rfl) (w.heap.size + 1) 40 inf (.agg #[.int .i64 0, .int .i64 0]) 2 16 Try.underlying22 hi hz0 hz1 hz2 rfl _ 0 [] (by rfl) ((own_made W0 _ 0 W0.heap.size rfl s3n (by unfold maxLen; omega) (by simp)).drew) (.slice (some ⟨g2, o2, none⟩) s.length c1) s.length (sc s) (by rfl) (Src.ofSl Try.underlying22 (((Sl.own O3.out).alloc _).drew) (sc_one s)) (.inl (by simp)) (by unfold maxLen; omega) (by omega) (by (try simp) <;> omega) _ rfl ?_; intro g5 c5 w5 hown hgrow hat hlt hcap; simp only [Nat.zero_add, List.nil_append] at hown hcap ⊢; have O5 := hid hown; have L5 := hid (((L3.out.alloc s3 (.cells #[] 40)).drew).grown hgrow (by (try simp) <;> omega) (by intro k hk; simp [Value.ownBlock] at hk; omega)); have H5 : w5.heap[w.heap.size]? = some (.cells #[.int .i64 T, .int .i64 V] 40 (0, 0)) := (hgrow.block _ (by (try simp) <;> omega) (by simp [Value.ownBlock] <;> omega)).trans (blk_alloc B3.out (.cells #[] 40)); have hS : w5.cell? ⟨w.heap.size, 0, none⟩ = some (.int .i64 T) ∧ w5.cell? ⟨w.heap.size, 1, none⟩ = some (.int .i64 V) := ⟨(blk2 H5).1, (blk2 H5).2.1⟩; have s5 := L5.out.size; have s5n : w.heap.size + 1 ≤ w5.heap.size := lt_of_blk H5; clear hown hgrow hat)
            | (refine step_append_put (by rfl) _ _ 22 22 (by rfl) (w.heap.size + 1) 40 inf (.agg #[.int .i64 0, .int .i64 0]) 2 16 Try.underlying22 hi hz0 hz1 hz2 rfl _ 0 [] (by rfl) (((own_made W0 _ 0 W0.heap.size rfl s3n (by unfold maxLen; omega) (by simp)).alloc _).drew) (.slice (some ⟨g2, o2, none⟩) s.length c1) s.length (sc s) (by rfl) (Src.ofSl Try.underlying22 ((((Sl.own O3.out).alloc _).alloc _).drew) (sc_one s)) (.inl (by simp)) (by unfold maxLen; omega) (by omega) (by (try simp) <;> omega) _ rfl ?_; intro g5 c5 w5 hown hgrow hat hlt hcap; simp only [Nat.zero_add, List.nil_append] at hown hcap ⊢; have O5 := hid hown; have L5 := hid ((((L3.out.alloc s3 (.cells #[] 40)).alloc (by (try simp) <;> omega) (.cells #[.int .i64 T, .int .i64 V] 40)).drew).grown hgrow (by (try simp) <;> omega) (by intro k hk; simp [Value.ownBlock] at hk; omega)); have H5 : w5.heap[w.heap.size]? = some (.cells #[.int .i64 T, .int .i64 V] 40 (0, 0)) := (hgrow.block _ (by (try simp) <;> omega) (by simp [Value.ownBlock] <;> omega)).trans (blk_alloc (blk_alloc B3.out (.cells #[] 40)) (.cells #[.int .i64 T, .int .i64 V] 40)); have eB : w5.heap[W0.heap.size + 1]? = some (.cells #[.int .i64 T, .int .i64 V] 40 (0, 0)) := (hgrow.block _ (by (try simp) <;> omega) (by simp [Value.ownBlock] <;> omega)).trans (blk_new (W0.alloc (.cells #[] 40)) (.cells #[.int .i64 T, .int .i64 V] 40) (W0.heap.size + 1) (by simp)); have hS : w5.cell? ⟨w.heap.size, 0, none⟩ = some (.int .i64 T) ∧ w5.cell? ⟨w.heap.size, 1, none⟩ = some (.int .i64 V) := ⟨(blk2 H5).1, (blk2 H5).2.1⟩; have s5 := L5.out.size; have s5n : w.heap.size + 1 ≤ w5.heap.size := lt_of_blk H5; clear hown hgrow hat)
            | (refine step_append_put (by rfl) _ _ 22 22 (by rfl) (w.heap.size + 1) 40 inf (.agg #[.int .i64 0, .int .i64 0]) 2 16 Try.underlying22 hi hz0 hz1 hz2 rfl _ 0 [] (by rfl) ((own_made (W0.alloc (.cells #[.int .i64 T, .int .i64 V] 40)) _ 0 (W0.heap.size + 1) (by simp) (by (try simp) <;> omega) (by unfold maxLen; omega) (by simp)).drew) (.slice (some ⟨g2, o2, none⟩) s.length c1) s.length (sc s) (by rfl) (Src.ofSl Try.underlying22 ((((Sl.own O3.out).alloc _).alloc _).drew) (sc_one s)) (.inl (by simp)) (by unfold maxLen; omega) (by omega) (by (try simp) <;> omega) _ rfl ?_; intro g5 c5 w5 hown hgrow hat hlt hcap; simp only [Nat.zero_add, List.nil_append] at hown hcap ⊢; have O5 := hid hown; have L5 := hid ((((L3.out.alloc s3 (.cells #[.int .i64 T, .int .i64 V] 40)).alloc (by (try simp) <;> omega) (.cells #[] 40)).drew).grown hgrow (by (try simp) <;> omega) (by intro k hk; simp [Value.ownBlock] at hk; omega)); have H5 : w5.heap[w.heap.size]? = some (.cells #[.int .i64 T, .int .i64 V] 40 (0, 0)) := (hgrow.block _ (by (try simp) <;> omega) (by simp [Value.ownBlock] <;> omega)).trans (blk_alloc (blk_alloc B3.out (.cells #[.int .i64 T, .int .i64 V] 40)) (.cells #[] 40)); have eB : w5.heap[W0.heap.size]? = some (.cells #[.int .i64 T, .int .i64 V] 40 (0, 0)) := (hgrow.block _ (by (try simp) <;> omega) (by simp [Value.ownBlock] <;> omega)).trans (blk_alloc (blk_new W0 (.cells #[.int .i64 T, .int .i64 V] 40) _ rfl) (.cells #[] 40)); have hS : w5.cell? ⟨w.heap.size, 0, none⟩ = some (.int .i64 T) ∧ w5.cell? ⟨w.heap.size, 1, none⟩ = some (.int .i64 V) := ⟨(blk2 H5).1, (blk2 H5).2.1⟩; have s5 := L5.out.size; have s5n : w.heap.size + 1 ≤ w5.heap.size := lt_of_blk H5; clear hown hgrow hat)
            | (refine step_append_put (by rfl) _ _ 22 22 (by rfl) (w.heap.size + 1) 40 inf (.agg #[.int .i64 0, .int .i64 0]) 2 16 Try.underlying22 hi hz0 hz1 hz2 rfl (.slice (some ⟨g5, 0, none⟩) s.length c5) s.length (sc s) (by rfl) (O5.out.alloc _) (.slice (some ⟨w5.heap.size, 0, none⟩) 1 1) 1 [.int .i64 T, .int .i64 V] (by rfl) (Src.ofSlice _ Try.underlying22 _ 1 1 [.int .i64 T, .int .i64 V] rfl (World.news_of_block (cs := #[.int .i64 T, .int .i64 V]) (t := 40) (fr := (0, 0)) (heap_alloc_new w5 _)) (by simp [Value.oneCell'])) (.inr (by omega)) (by unfold maxLen; omega) (by omega) (by (try simp) <;> omega) _ rfl ?_; intro g8 c8 w8 hown8 hgrow8 hat8 hlt8 hcap8; have O8 := hid hown8; have L8 := hid ((L5.out.alloc s5 (.cells #[.int .i64 T, .int .i64 V] 40)).grown hgrow8 (by (try simp) <;> omega) (fun k hk => by have := (O5.out.lt k hk).1; omega)); have H8 : w8.heap[w.heap.size]? = some (.cells #[.int .i64 T, .int .i64 V] 40 (0, 0)) := (hgrow8.block _ (by (try simp) <;> omega) (own_ne_lt O5.out (show w.heap.size < w.heap.size + 1 by omega)).symm).trans (blk_alloc H5 (.cells #[.int .i64 T, .int .i64 V] 40)); have hS : w8.cell? ⟨w.heap.size, 0, none⟩ = some (.int .i64 T) ∧ w8.cell? ⟨w.heap.size, 1, none⟩ = some (.int .i64 V) := ⟨(blk2 H8).1, (blk2 H8).2.1⟩; clear hown8 hgrow8 hat8)
            | (refine step_append_put (by rfl) _ _ 22 22 (by rfl) (w.heap.size + 1) 40 inf (.agg #[.int .i64 0, .int .i64 0]) 2 16 Try.underlying22 hi hz0 hz1 hz2 rfl (.slice (some ⟨g5, 0, none⟩) s.length c5) s.length (sc s) (by rfl) O5.out (.slice (some ⟨W0.heap.size + 1, 0, none⟩) 1 1) 1 [.int .i64 T, .int .i64 V] (by rfl) (Src.ofSlice _ Try.underlying22 _ 1 1 [.int .i64 T, .int .i64 V] rfl (World.news_of_block (cs := #[.int .i64 T, .int .i64 V]) (t := 40) (fr := (0, 0)) eB) (by simp [Value.oneCell'])) (.inr (by omega)) (by unfold maxLen; omega) (by omega) (by (try simp) <;> omega) _ rfl ?_; intro g8 c8 w8 hown8 hgrow8 hat8 hlt8 hcap8; have O8 := hid hown8; have L8 := hid (L5.out.grown hgrow8 (by (try simp) <;> omega) (fun k hk => by have := (O5.out.lt k hk).1; omega)); have H8 : w8.heap[w.heap.size]? = some (.cells #[.int .i64 T, .int .i64 V] 40 (0, 0)) := (hgrow8.block _ (by (try simp) <;> omega) (own_ne_lt O5.out (show w.heap.size < w.heap.size + 1 by omega)).symm).trans H5; have hS : w8.cell? ⟨w.heap.size, 0, none⟩ = some (.int .i64 T) ∧ w8.cell? ⟨w.heap.size, 1, none⟩ = some (.int .i64 V) := ⟨(blk2 H8).1, (blk2 H8).2.1⟩; clear hown8 hgrow8 hat8)
            | (refine step_append_put (by rfl) _ _ 22 22 (by rfl) (w.heap.size + 1) 40 inf (.agg #[.int .i64 0, .int .i64 0]) 2 16 Try.underlying22 hi hz0 hz1 hz2 rfl (.slice (some ⟨g5, 0, none⟩) s.length c5) s.length (sc s) (by rfl) O5.out (.slice (some ⟨W0.heap.size, 0, none⟩) 1 1) 1 [.int .i64 T, .int .i64 V] (by rfl) (Src.ofSlice _ Try.underlying22 _ 1 1 [.int .i64 T, .int .i64 V] rfl (World.news_of_block (cs := #[.int .i64 T, .int .i64 V]) (t := 40) (fr := (0, 0)) eB) (by simp [Value.oneCell'])) (.inr (by omega)) (by unfold maxLen; omega) (by omega) (by (try simp) <;> omega) _ rfl ?_; intro g8 c8 w8 hown8 hgrow8 hat8 hlt8 hcap8; have O8 := hid hown8; have L8 := hid (L5.out.grown hgrow8 (by (try simp) <;> omega) (fun k hk => by have := (O5.out.lt k hk).1; omega)); have H8 : w8.heap[w.heap.size]? = some (.cells #[.int .i64 T, .int .i64 V] 40 (0, 0)) := (hgrow8.block _ (by (try simp) <;> omega) (own_ne_lt O5.out (show w.heap.size < w.heap.size + 1 by omega)).symm).trans H5; have hS : w8.cell? ⟨w.heap.size, 0, none⟩ = some (.int .i64 T) ∧ w8.cell? ⟨w.heap.size, 1, none⟩ = some (.int .i64 V) := ⟨(blk2 H8).1, (blk2 H8).2.1⟩; clear hown8 hgrow8 hat8)
            | (go_at_call 14; refine (refEncode_any (.slice (some ⟨g8, 0, none⟩) (s.length + 1) c8) (s ++ [(T, V)]) w8 (by simp; omega) (by have h := Sl.own O8.out; rw [show sc s ++ [.int .i64 T, .int .i64 V] = sc (s ++ [(T, V)]) from (sc_append s [(T, V)]).symm] at h; simpa using h)).mono ?_; rintro e w9 ⟨ao9, c9, rfl, hb9, hown9⟩; have L9 := hid (L8.out.trans (hb9.mono L8.out.size)); have O9 := hid (own_base hown9 L8.out.size); have hS : w9.cell? ⟨w.heap.size, 0, none⟩ = some (.int .i64 T) ∧ w9.cell? ⟨w.heap.size, 1, none⟩ = some (.int .i64 V) := (by (have hx := hb9.block w.heap.size (by have := L8.out.size; have := lt_of_blk H8; omega); exact ⟨(blk2 (hx.trans H8)).1, (blk2 (hx.trans H8)).2.1⟩)); clear hb9 hown9))
          all_goals
            go_wp2
            go_ret2
            exact ⟨ao9, c9, rfl, L9.out, O9.out⟩
      · rw [if_pos hm]
        go_enter Try.func22, Try.ntmps22
        go_wp2_with fail
        refine HD.out.mono ?_
        rintro e w1 ⟨ao1, c1, rfl, hb1, hown1⟩
        have L1 := hid (((Below.refl w.heap.size w).alloc (Nat.le_refl _) (.cells #[.int .i64 T, .int .i64 V] 40)).trans (hb1.mono (by simp)))
        have B1 := hid (blk_below BQ.out hb1 (by simp))
        obtain ⟨b0, b1, b2, b3, b4⟩ := blk2 B1.out
        clear hb1 hown1
        go_wp2_with fail
        refine (refMay_any T V w1).mono ?_
        rintro e w2 ⟨rfl, hb2⟩
        rw [hm]
        have L2 := hid (L1.out.trans (hb2.mono L1.out.size))
        clear hb2 b0 b1 b2 b3 b4
        go_wp2
        go_ret2
        exact ⟨none, 0, rfl, L2.out, World.ownsRow_nil _ _ _ _⟩


theorem app_len (b : List UInt8) (x : Int × Int) : (appV b x).1.length ≤ 10000000 := by
  unfold appV
  split
  · simp
  · split
    · simp
    · split
      · simp
      · split
        · simp
        · exact enc_len _

set_option maxRecDepth 100000 in
set_option maxHeartbeats 2000000 in
theorem walk_ChunkAppends (w : World) (v : Value) (l : List UInt8) (hb : Sl w 1 v l.length (bc l)) (hl : l.length ≤ 140737488351232) (T V : Int) (_hT : -9223372036854775808 ≤ T ∧ T ≤ 9223372036854775807) (_hV : -9223372036854775808 ≤ V ∧ V ≤ 9223372036854775807) :
    Calls Try.prog 8 #[v, .agg #[.int .i64 T, .int .i64 V]] w fun e w' => e = .returned (.bool true) ∧ Below w.heap.size w w' := by
  obtain ⟨inf, hi, hz0, hz1, hz2⟩ := info_parts infoU8
  have Hb := hid hb
  obtain ⟨ao, c, rfl, _, _, _⟩ := hb.shape
  have BQ := hid (blk_alloc (blk_new w (.cells #[.int .i64 T, .int .i64 V] 40) w.heap.size rfl) (.cells #[] 5))
  clear hb
  go_enter Try.func8, Try.ntmps8
  go_wp2_with (at_builtin; refine wpList_append_put rfl (.tmp 10) (.tmp 11) 24 24 rfl (w.heap.size + 1) 5 inf (.int .u8 0) 1 1 Try.underlying24 hi hz0 hz1 hz2 rfl (.slice (some ⟨w.heap.size + 1, 0, none⟩) 0 0) 0 [] rfl (own_made _ _ 0 (w.heap.size + 1) (by simp) (by simp) (by unfold maxLen; omega) (by simp)) (.slice ao l.length c) l.length (bc l) rfl (Src.ofSl Try.underlying24 ((Hb.out.alloc _).alloc _) (bc_one l)) (.inl (by simp)) (by unfold maxLen; omega) (by omega) (by simp <;> omega) _ rfl ?_; intro g1 cap1 w1 hown1 hgrow1 hat1 hlt1 hcap1; simp only [Nat.zero_add, List.nil_append] at hown1 hcap1 ⊢; have O1 := hid hown1; have L1 := hid ((((Below.refl w.heap.size w).alloc (Nat.le_refl _) (.cells #[.int .i64 T, .int .i64 V] 40)).alloc (by simp) (.cells #[] 5)).grown hgrow1 (by simp <;> omega) (by intro k hk; simp [Value.ownBlock] at hk; omega)); have B1 := hid (show w1.heap[w.heap.size]? = _ from (hgrow1.block _ (by simp <;> omega) (by simp [Value.ownBlock] <;> omega)).trans BQ.out); obtain ⟨b0, b1, b2, b3, b4⟩ := blk2 B1.out; clear hown1 hgrow1 hat1)
  refine (append_any _ l T V w1 (by omega) (Sl.own O1.out)).mono ?_
  rintro e w2 ⟨ao2, c2, rfl, hb2, hown2⟩
  have I2 := hid ((Sl.own O1.out).below hb2 (fun _ _ h => h))
  have L2 := hid (L1.out.trans (hb2.mono L1.out.size)); have S2 := hid (Sl.own hown2)
  have B2 := hid (blk_below B1.out hb2 b4)
  clear hb2 hown2 b0 b1 b2 b3 b4
  obtain ⟨b0, b1, b2, b3, b4⟩ := blk2 B2.out
  go_wp2_with fail
  refine (refAppend_any _ l T V w2 (by omega) (Hb.out.below L2.out (fun _ _ h => h))).mono ?_
  rintro e w3 ⟨ao3, c3, rfl, hb3, hown3⟩
  have L3 := hid (L2.out.trans (hb3.mono L2.out.size))
  have q1 := run_convert_sl (P := Try.prog) w3 24 9 5 Try.underlying24 Try.underlying5 Try.underlying9 (S2.out.below hb3 (fun _ _ h => h))
  have q2 := run_convert_sl (P := Try.prog) w3 24 9 5 Try.underlying24 Try.underlying5 Try.underlying9 (Sl.own hown3)
  have q3 := run_convert_sl (P := Try.prog) w3 24 9 5 Try.underlying24 Try.underlying5 Try.underlying9 (I2.out.below hb3 (fun _ _ h => h))
  have q4 := run_convert_sl (P := Try.prog) w3 24 9 5 Try.underlying24 Try.underlying5 Try.underlying9 (Hb.out.below L3.out (fun _ _ h => h))
  clear hb3 hown3 b0 b1 b2 b3 b4 S2 I2
  generalize appV l (T, V) = r at *
  go_wp2_with fail
  refine (lives_any w3).mono ?_
  rintro e w4 ⟨rfl, hb4⟩
  have L4 := hid (L3.out.trans (hb4.mono L3.out.size))
  clear hb4
  go_wp2
  go_ret
  exact ⟨rfl, L4.out⟩
end Go.Proofs.Ytcnfhabljogniaa
