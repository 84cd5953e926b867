/- The reference's Decode whole; chunk.Bounds; the reference's Seek; the walk of ChunkDecodes. -/
import Derived.Test.YtcnfhabljogniaaDi
import Derived.Test.YtcnfhabljogniaaDh
namespace Go.Proofs.Ytcnfhabljogniaa
open Go.RowKit
set_option linter.unusedSimpArgs false

set_option maxRecDepth 100000 in
set_option maxHeartbeats 2000000 in
/-- the reference's Decode. -/
theorem refDecode_any (bv : Value) (l : List UInt8) (w : World) (hl : l.length ≤ 150000000000000) (hb : Sl w 1 bv l.length (bc l)) :
    Calls Try.prog 24 #[bv] w (DecPost w (decV l)) := by
  have k8 : IntKind.i64.wrap (8 * (l.length : Int)) = 8 * (l.length : Int) := IntWalk.i64_in _ (by omega)
  cases hr : rdU l 0 with
  | none =>
    have Hb := hid hb
    obtain ⟨ao, c, rfl, hlc, _, _⟩ := hb.shape
    have HN := hid (fun wx hx => refgn_any (.slice ao l.length c) l 0 wx hl (by omega) hx)
    rw [hr] at HN
    rw [show decV l = ([], 5) by unfold decV; rw [hr]]
    clear hb hr
    go_enter Try.func24, Try.ntmps24
    go_wp2_with fail
    refine (HN.out _ (Hb.out.alloc _)).mono ?_
    rintro e w1 ⟨hb1, x, y, er, rfl, hne⟩
    have L1 := hid (((Below.refl w.heap.size w).alloc (Nat.le_refl _) (.cells #[.slice ao l.length c, .int .i64 (8 * (l.length : Int))] 58)).trans (hb1.mono (by simp)))
    clear hb1
    go_wp2
    go_ret2
    exact ⟨none, 0, rfl, L1.out, World.ownsRow_nil _ _ _ _⟩
  | some q =>
    obtain ⟨u, a0⟩ := q
    have hk := rdU_ok hr
    obtain ⟨many, rfl⟩ := Int.eq_ofNat_of_zero_le hk.1
    by_cases h1 : 1 ≤ many ∧ many ≤ 120
    · exact refDecode_main bv l w hl hb many a0 hr h1
    · have Hb := hid hb
      obtain ⟨ao, c, rfl, hlc, _, _⟩ := hb.shape
      have HN := hid (fun wx hx => refgn_any (.slice ao l.length c) l 0 wx hl (by omega) hx)
      rw [hr] at HN
      rw [show decV l = ([], 5) by unfold decV; rw [hr]; simp only; rw [if_pos (by omega)]]
      clear hb hr hk
      rcases Bool.eq_false_or_eq_true (decide ((many : Int) < 1)) with km1 | km1
      · go_enter Try.func24, Try.ntmps24
        go_wp2_with fail
        refine (HN.out _ (Hb.out.alloc _)).mono ?_
        rintro e w1 ⟨hb1, he⟩
        subst he
        have L1 := hid (((Below.refl w.heap.size w).alloc (Nat.le_refl _) (.cells #[.slice ao l.length c, .int .i64 (8 * (l.length : Int))] 58)).trans (hb1.mono (by simp)))
        clear hb1
        go_wp2
        go_ret2
        exact ⟨none, 0, rfl, L1.out, World.ownsRow_nil _ _ _ _⟩
      · have km2 : decide (120 < (many : Int)) = true := decide_eq_true (by have := of_decide_eq_false km1; omega)
        go_enter Try.func24, Try.ntmps24
        go_wp2_with fail
        refine (HN.out _ (Hb.out.alloc _)).mono ?_
        rintro e w1 ⟨hb1, he⟩
        subst he
        have L1 := hid (((Below.refl w.heap.size w).alloc (Nat.le_refl _) (.cells #[.slice ao l.length c, .int .i64 (8 * (l.length : Int))] 58)).trans (hb1.mono (by simp)))
        clear hb1
        go_wp2
        go_ret2
        exact ⟨none, 0, rfl, L1.out, World.ownsRow_nil _ _ _ _⟩

/-- chunk.Bounds in plain words -/
def bndV (b : List UInt8) : Int × Int × Int × Int := if (decV b).2 ≠ 0 then (0, 0, 0, 5) else (((decV b).1.length : Int), ((decV b).1.getD 0 (0, 0)).1, ((decV b).1.getD ((decV b).1.length - 1) (0, 0)).1, 0)

set_option maxRecDepth 100000 in
set_option maxHeartbeats 2000000 in
theorem bounds_any (v : Value) (b : List UInt8) (w : World) (hl : b.length ≤ 150000000000000) (hb : Sl w 1 v b.length (bc b)) :
    Calls Try.prog 25 #[v] w fun e w' => e = .returned (.tuple #[.int .i64 (bndV b).1, .int .i64 (bndV b).2.1, .int .i64 (bndV b).2.2.1, .int .i64 (bndV b).2.2.2]) ∧ Below w.heap.size w w' := by
  have HD := hid (decode_any v b w hl hb)
  clear hb
  rcases decV_err b with h5 | h0
  · rw [h5] at HD
    rw [show bndV b = (0, 0, 0, 5) by unfold bndV; rw [h5]; rfl]
    go_enter Try.func25, Try.ntmps25
    go_wp2_with fail
    refine HD.out.mono ?_
    rintro e w1 ⟨ao1, c1, rfl, hb1, hown1⟩
    have L1 := hid hb1
    clear hb1 hown1
    go_wp2
    refine bodyPost_ret (v := .tuple #[.int .i64 0, .int .i64 0, .int .i64 0, .int .i64 5]) (by simp [results, Try.results25, go_sem]) rfl ⟨rfl, L1.out⟩
  · obtain ⟨s, er, hs⟩ : ∃ s er, decV b = (s, er) := ⟨_, _, rfl⟩
    rw [hs] at h0
    simp only at h0
    subst h0
    have hcz := chkL_zero (dec_len hs)
    rw [hs] at HD
    rw [show bndV b = ((s.length : Int), (s.getD 0 (0, 0)).1, (s.getD (s.length - 1) (0, 0)).1, 0) by unfold bndV; rw [hs]; rfl]
    have hpos := hcz.1
    have h120 := hcz.2.1
    clear hs hcz
    have kw : IntKind.i64.wrap ((s.length : Int) - 1) = (s.length : Int) - 1 := IntWalk.i64_in _ (by omega)
    have kt : ((s.length : Int) - 1).toNat = s.length - 1 := by omega
    have i0 : (0 : Int) ≤ (s.length : Int) - 1 := by omega
    have i1 : (s.length : Int) - 1 < (s.length : Int) := by omega
    have i2 : (0 : Int) < (s.length : Int) := by omega
    go_enter Try.func25, Try.ntmps25
    go_wp2_with fail
    refine HD.out.mono ?_
    rintro e w1 ⟨ao1, c1, rfl, hb1, hown1⟩
    have L1 := hid hb1
    obtain ⟨b1, o1, hao, _, hcell⟩ := sc_cells (Sl.own hown1) hpos
    subst hao
    have hc0 := (hcell 0 hpos).1
    rw [Nat.zero_mul, Nat.add_zero] at hc0
    have hcl := (hcell (s.length - 1) (show s.length - 1 < s.length by omega)).1
    obtain ⟨t0, ht0⟩ : ∃ x, x = (s.getD 0 (0, 0)).1 := ⟨_, rfl⟩
    obtain ⟨t1, ht1⟩ : ∃ x, x = (s.getD (s.length - 1) (0, 0)).1 := ⟨_, rfl⟩
    rw [show (s, (0 : Int)).1 = s from rfl, ← ht0] at hc0
    rw [show (s, (0 : Int)).1 = s from rfl, ← ht1] at hcl
    have HT0 := hid ht0; have HT1 := hid ht1
    clear hb1 hown1 hcell ht0 ht1
    go_wp2
    go_quiet (fail)
    rename_i nq
    have L2 := hid (Below_drewN L1.out nq)
    generalize w1.drewN nq = W0 at *
    go_wp2
    refine bodyPost_ret (v := .tuple #[.int .i64 (s.length : Int), .int .i64 t0, .int .i64 t1, .int .i64 0]) (by simp [results, Try.results25, go_sem]) rfl ⟨by rw [HT0.out, HT1.out], L2.out⟩

set_option maxRecDepth 100000 in
set_option maxHeartbeats 2000000 in
theorem refSeek_any (v : Value) (l : List (Int × Int)) (t : Int) (w : World) (hl : l.length ≤ 1000000) (hb : Sl w 2 v l.length (sc l)) (hmono : ∀ x y, x ≤ y → y < l.length → (l.getD x (0, 0)).1 ≤ (l.getD y (0, 0)).1) :
    Calls Try.prog 26 #[v, .int .i64 t] w fun e w' => ∃ k, e = .returned (.int .i64 ((k : Nat) : Int)) ∧ Below w.heap.size w w' ∧ SkAt l t k := by
  have Hb := hid hb; have HM := hid hmono
  obtain ⟨ao, c, rfl, _, _, _⟩ := hb.shape
  have HC := hid (fun hk => sc_cells Hb.out hk)
  clear hb hmono
  go_enter Try.func26, Try.ntmps26
  go_wp2
  go_loopw [5] (fun i wr => ∃ k : Nat, k ≤ l.length ∧ i = .int .i64 (k : Int) ∧ Below w.heap.size w wr ∧ ∀ x, x < k → (l.getD x (0, 0)).1 < t)
    (fun i _ => l.length - (intOf i).toNat)
  case atStart => exact ⟨0, Nat.zero_le _, rfl, Below.refl _ _, fun x h => by omega⟩
  case round =>
    obtain ⟨k, hk, rfl, hbel, hlo⟩ := hrel
    have L := hid hbel; have LO := hid hlo
    clear hbel hlo
    by_cases hlt : k < l.length
    · obtain ⟨b, off, rfl, hbl, hcell⟩ := HC.out (by omega)
      have hcl : wr.cell? ⟨b, off + k * 2, none⟩ = some (.int .i64 (l.getD k (0, 0)).1) := by rw [World.cell?_of_block (L.out.block b hbl)]; exact (hcell k hlt).1
      have i0 : (0 : Int) ≤ (k : Int) := by omega
      have i1 : (k : Int) < (l.length : Int) := by omega
      obtain ⟨T, hT⟩ : ∃ T, T = (l.getD k (0, 0)).1 := ⟨_, rfl⟩
      rw [← hT] at hcl
      have HT := hid hT
      clear hT hcell
      rcases Bool.eq_false_or_eq_true (decide (T < t)) with hd | hd
      · have hT1 := hid (of_decide_eq_true hd)
        go_wp2
        go_roundw
        case rel => exact ⟨k + 1, hlt, by go_num, L.out, fun x hx => by
          by_cases hx2 : x < k
          · exact LO.out x hx2
          · obtain rfl : x = k := by omega
            rw [← HT.out]; exact hT1.out⟩
        case measure => simp [intOf]; omega
      · have hT1 := hid (of_decide_eq_false hd)
        go_wp2
        go_ret
        exact ⟨k, rfl, L.out, hk, LO.out, fun x h1 h2 => by have := HM.out k x h1 h2; have h3 := hT1.out; have h4 := HT.out; omega⟩
    · obtain rfl : k = l.length := by omega
      go_wp2
      go_ret
      exact ⟨l.length, rfl, L.out, Nat.le_refl _, LO.out, fun x h1 h2 => by omega⟩

theorem SkAt_eq {l : List (Int × Int)} {t : Int} {k j : Nat} (hk : SkAt l t k) (hj : SkAt l t j) : k = j := by
  rcases Nat.lt_trichotomy k j with h | h | h
  · have h1 := hk.2.2 k (Nat.le_refl _) (by have := hj.1; omega)
    have h2 := hj.2.1 k h
    omega
  · exact h
  · have h1 := hj.2.2 j (Nat.le_refl _) (by have := hk.1; omega)
    have h2 := hk.2.1 j h
    omega

set_option maxRecDepth 100000 in
set_option maxHeartbeats 2000000 in
theorem walk_ChunkDecodes (w : World) (v : Value) (l : List UInt8) (hb : Sl w 1 v l.length (bc l)) (hl : l.length ≤ 140737488351232) (t : Int) (_h0 : -9223372036854775808 ≤ t) (_h1 : t ≤ 9223372036854775807) :
    Calls Try.prog 11 #[v, .int .i64 t] w fun e w' => e = .returned (.bool true) ∧ Below w.heap.size w w' := by
  obtain ⟨i0, hi, hz0, hz1, hz2⟩ := info_parts infoU8
  have Hb := hid hb
  obtain ⟨ao, c, rfl, _, _, _⟩ := hb.shape
  clear hb
  go_enter Try.func11, Try.ntmps11
  go_wp2_with (at_builtin; refine wpList_append_put rfl (.tmp 16) (.tmp 17) 24 24 rfl w.heap.size 5 i0 (.int .u8 0) 1 1 Try.underlying24 hi hz0 hz1 hz2 rfl (.slice (some ⟨w.heap.size, 0, none⟩) 0 0) 0 [] rfl (own_made _ _ 0 w.heap.size rfl (Nat.le_refl _) (by unfold maxLen; omega) (by simp)) (.slice ao l.length c) l.length (bc l) rfl (Src.ofSl Try.underlying24 (Hb.out.alloc _) (bc_one l)) (.inl (by simp)) (by unfold maxLen; omega) (by omega) (by simp) _ rfl ?_; intro g1 cap1 w1 hown1 hgrow1 hat1 hlt1 hcap1; simp only [Nat.zero_add, List.nil_append] at hown1 hcap1; have O1 := hid hown1; have L1 := hid (((Below.refl w.heap.size w).alloc (Nat.le_refl _) _).grown hgrow1 (by simp) (by intro k hk; simp [Value.ownBlock] at hk; omega)); clear hown1 hgrow1 hat1)
  refine (decode_any _ l w1 (by omega) (Sl.own O1.out)).mono ?_
  rintro e w2 ⟨ao2, c2, rfl, hb2, hown2⟩
  have I2 := hid ((Sl.own O1.out).below hb2 (fun _ _ h => h))
  have L2 := hid (L1.out.trans (hb2.mono L1.out.size)); have S2 := hid (Sl.own hown2)
  clear hb2 hown2
  go_wp2_with fail
  refine (refDecode_any _ l w2 (by omega) (Hb.out.below L2.out (fun _ _ h => h))).mono ?_
  rintro e w3 ⟨ao3, c3, rfl, hb3, hown3⟩
  have I3 := hid (I2.out.below hb3 (fun _ _ h => h)); have S3 := hid (S2.out.below hb3 (fun _ _ h => h))
  have L3 := hid (L2.out.trans (hb3.mono L2.out.size)); have T3 := hid (Sl.own hown3)
  clear hb3 hown3 I2 S2
  go_wp2_with fail
  refine (bounds_any _ l w3 (by omega) I3.out).mono ?_
  rintro e w4 ⟨rfl, hb4⟩
  have I4 := hid (I3.out.below hb4 (fun _ _ h => h)); have S4 := hid (S3.out.below hb4 (fun _ _ h => h)); have T4 := hid (T3.out.below hb4 (fun _ _ h => h))
  have L4 := hid (L3.out.trans (hb4.mono L3.out.size))
  clear hb4 I3 S3 T3
  go_wp2_with fail
  refine (seek_any _ l t w4 (by omega) I4.out).mono ?_
  rintro e w5 ⟨k, rfl, hb5, hsk⟩
  have I5 := hid (I4.out.below hb5 (fun _ _ h => h)); have S5 := hid (S4.out.below hb5 (fun _ _ h => h)); have T5 := hid (T4.out.below hb5 (fun _ _ h => h))
  have L5 := hid (L4.out.trans (hb5.mono L4.out.size)); have K := hid hsk
  clear hb5 hsk I4 S4 T4
  go_wp2_with fail
  refine (same_any _ _ (decV l).1 (decV l).1 w5 S5.out T5.out).mono ?_
  rintro e w6 ⟨rfl, hb6⟩
  rw [decide_eq_true (rfl : (decV l).1 = (decV l).1)]
  have L6 := hid (L5.out.trans (hb6.mono L5.out.size)); have T6 := hid (T5.out.below hb6 (fun _ _ h => h))
  have q1 := run_convert_sl (P := Try.prog) w6 24 9 5 Try.underlying24 Try.underlying5 Try.underlying9 (I5.out.below hb6 (fun _ _ h => h))
  have q2 := run_convert_sl (P := Try.prog) w6 24 9 5 Try.underlying24 Try.underlying5 Try.underlying9 (Hb.out.below L6.out (fun _ _ h => h))
  clear hb6 I5 S5 T5
  rcases decV_err l with h5 | h0
  · have hbn : bndV l = (0, 0, 0, 5) := by unfold bndV; rw [h5]; rfl
    have hk0 : k = 0 := by have := K.out.1; rw [h5] at this; simpa using this
    rw [hbn, h5, hk0]
    clear h5 hbn hk0 K T6
    go_wp2_with fail
    refine (lives_any w6).mono ?_
    rintro e w7 ⟨rfl, hb7⟩
    have L7 := hid (L6.out.trans (hb7.mono L6.out.size))
    clear hb7
    go_wp2
    go_ret
    exact ⟨rfl, L7.out⟩
  · obtain ⟨s, er, hs⟩ : ∃ s er, decV l = (s, er) := ⟨_, _, rfl⟩
    rw [hs] at h0
    simp only at h0
    subst h0
    have hc := dec_len hs
    have hcz := chkL_zero hc
    have hbn : bndV l = ((s.length : Int), (s.getD 0 (0, 0)).1, (s.getD (s.length - 1) (0, 0)).1, 0) := by unfold bndV; rw [hs]; rfl
    rw [hs] at K T6 ⊢
    rw [hbn]
    have K' := hid (show SkAt s t k from K.out)
    have T6' := hid (show Sl w6 2 (.slice ao3 s.length c3) s.length (sc s) from T6.out)
    have hpos := hcz.1
    have h120 := hcz.2.1
    have HMO := hid (chk_mono hc)
    clear hs hc hcz hbn K T6
    obtain ⟨b3, o3, hao, hb3l, hcell⟩ := sc_cells T6'.out hpos
    subst hao
    have hc0 := (hcell 0 hpos).1
    rw [Nat.zero_mul, Nat.add_zero] at hc0
    have hcl := (hcell (s.length - 1) (by omega)).1
    have HSK := hid (fun wx (hx : Sl wx 2 (.slice (some ⟨b3, o3, none⟩) s.length c3) s.length (sc s)) => refSeek_any _ s t wx (by omega) hx HMO.out)
    obtain ⟨t0, ht0⟩ : ∃ x, x = (s.getD 0 (0, 0)).1 := ⟨_, rfl⟩
    obtain ⟨t1, ht1⟩ : ∃ x, x = (s.getD (s.length - 1) (0, 0)).1 := ⟨_, rfl⟩
    rw [← ht0] at hc0 ⊢
    rw [← ht1] at hcl ⊢
    clear ht0 ht1 hcell
    have kw : IntKind.i64.wrap ((s.length : Int) - 1) = (s.length : Int) - 1 := IntWalk.i64_in _ (by omega)
    have kt : ((s.length : Int) - 1).toNat = s.length - 1 := by omega
    have j0 : (0 : Int) ≤ (s.length : Int) - 1 := by omega
    have j1 : (s.length : Int) - 1 < (s.length : Int) := by omega
    have j2 : (0 : Int) < (s.length : Int) := by omega
    go_wp2_with fail
    refine (HSK.out w6 T6'.out).mono ?_
    rintro e w7 ⟨k2, rfl, hb7, hsk⟩
    have L7 := hid (L6.out.trans (hb7.mono L6.out.size))
    have hkk := SkAt_eq K'.out hsk
    subst hkk
    clear hb7 hsk K'
    go_wp2_with fail
    refine (lives_any w7).mono ?_
    rintro e w8 ⟨rfl, hb8⟩
    have L8 := hid (L7.out.trans (hb8.mono L7.out.size))
    clear hb8
    go_wp2
    go_ret
    exact ⟨rfl, L8.out⟩
end Go.Proofs.Ytcnfhabljogniaa
