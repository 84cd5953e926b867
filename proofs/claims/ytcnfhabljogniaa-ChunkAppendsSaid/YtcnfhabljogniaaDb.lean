/- The walk of chunk.Decode (the rounds printed by wip/gen_decode.py). -/
import Derived.Test.YtcnfhabljogniaaDa
import Derived.StillTailTactics
namespace Go.Proofs.Ytcnfhabljogniaa
open Go.RowKit
set_option linter.unusedSimpArgs false

theorem decV_none {l : List UInt8} {many a0 : Nat} {k : Nat} (hr : rdU l 0 = some ((many : Int), a0)) (h1 : 1 ≤ many ∧ many ≤ 120) (hk : k ≤ many) (hn : runD l a0 k = none) : decV l = ([], 5) := by
  unfold decV
  rw [hr]
  simp only
  rw [if_neg (by omega), Int.toNat_natCast, runD_none hn many hk]
theorem decV_some {l : List UInt8} {many a0 : Nat} {s : List (Int × Int)} {f : Int} {a : Nat} (hr : rdU l 0 = some ((many : Int), a0)) (h1 : 1 ≤ many ∧ many ≤ 120) (hn : runD l a0 many = some (s, f, a)) : decV l = if endBad l a = true then ([], 5) else (s, 0) := by
  unfold decV
  rw [hr]
  simp only
  rw [if_neg (by omega), Int.toNat_natCast, hn]
theorem runD_succ {l : List UInt8} {a0 k : Nat} {s : List (Int × Int)} {f : Int} {a : Nat} (h : runD l a0 k = some (s, f, a)) : runD l a0 (k + 1) = stepD l s f a := by simp only [runD, h, Option.bind_some]

theorem door_good {w wr : World} {bv : Value} {l : List UInt8} {a : Nat} {ao : Option Addr} {c : Nat} {s : List (Int × Int)} (h : DW w bv l a ao c s wr) (tmps : Array Value) (h2 : tmps[2]?.getD undef = .pointer (some ⟨w.heap.size, 0, none⟩)) (h3 : tmps[3]?.getD undef = .pointer (some ⟨w.heap.size + 1, 0, none⟩)) :
    Leaves Try.prog Try.f19 tmps (DecPost w (s, 0)) (dfr w.heap.size) .returning ((wr.setCell ⟨w.heap.size, 0, none⟩ (.slice ao s.length c)).setCell ⟨w.heap.size + 1, 0, none⟩ (.int .i64 0)) := by
  have hne : w.heap.size ≠ w.heap.size + 1 := by omega
  have hne' : w.heap.size + 1 ≠ w.heap.size := by omega
  have ho := h.2.2.2.2
  refine door_back w _ tmps ao c 0 s h2 h3 ((h.1.setCell (Nat.le_refl _) _).setCell (by simp) _) ?_ ?_ (own_base (own_setOther (own_setOther ho ⟨w.heap.size, 0, none⟩ _ (own_ne_lt ho (by show w.heap.size < w.heap.size + 3; omega))) ⟨w.heap.size + 1, 0, none⟩ _ (own_ne_lt ho (by show w.heap.size + 1 < w.heap.size + 3; omega))) (by omega))
  · exact blk_setCell_other (blk_setCell h.2.1 0 (.slice ao s.length c)) ⟨w.heap.size + 1, 0, none⟩ _ hne
  · exact blk_setCell (blk_setCell_other h.2.2.1 ⟨w.heap.size, 0, none⟩ _ hne') 0 (.int .i64 0)

set_option maxRecDepth 100000 in
set_option maxHeartbeats 2000000 in
theorem decode_many (bv : Value) (l : List UInt8) (w : World) (hl : l.length ≤ 150000000000000) (hb : Sl w 1 bv l.length (bc l)) (many a0 : Nat) (hr : rdU l 0 = some ((many : Int), a0)) (h1 : many < 1 ∨ 120 < many) :
    Calls Try.prog 19 #[bv] w (DecPost w ([], 5)) := by
  have hmf : ∀ (fn : Fn) (first cap : Array Value) (w : World), (Instr.makeFunc fn first cap).run Try.prog w = .ok (.func fn first cap) w := fun _ _ _ _ => rfl
  have HN := hid (fun wx hx h => rnum_any (w.heap.size + 1 + 1) bv l 0 wx hl (by omega) hx h)
  rw [hr] at HN
  have hu := (rdU_ok hr).2.1
  have Hb := hid hb
  obtain ⟨ao, c, rfl, hlc, _, _⟩ := hb.shape
  have k8 : IntKind.i64.wrap (8 * (l.length : Int)) = 8 * (l.length : Int) := IntWalk.i64_in _ (by omega)
  clear hb hr
  rcases Bool.eq_false_or_eq_true (decide ((many : Int) < 1)) with km1 | km1
  · go_enter_defers Try.func19, Try.ntmps19
    go_wp2_with fail
    have D0 : DW w (.slice ao l.length c) l 0 none 0 [] (((w.alloc (.cells #[.slice none 0 0] 22)).alloc (.cells #[.int .i64 0] 25)).alloc (.cells #[.slice ao l.length c, .int .i64 (8 * (l.length : Int)), .int .i64 0] 73)) := by
      refine ⟨(((Below.refl w.heap.size w).alloc (Nat.le_refl _) _).alloc (by simp) _).alloc (by simp; omega) _, blk_alloc (blk_alloc (blk_new w _ _ rfl) _) _, blk_alloc (blk_new (w.alloc _) _ (w.heap.size + 1) (by simp)) _, ?_, World.ownsRow_nil _ _ _ _⟩
      unfold Rd
      rw [blk_new ((w.alloc _).alloc _) _ (w.heap.size + 2) (by simp)]
      simp
    refine (HN.out _ (((Hb.out.alloc _).alloc _).alloc _) D0.2.2.2.1).mono ?_
    rintro e w1 ⟨hg, he, hrd⟩
    subst he
    have D1 := hid (D0.read hg hrd)
    clear D0 hg hrd
    obtain ⟨m0, m1, m2⟩ := blk1 D1.out.2.1
    obtain ⟨n0, n1, n2⟩ := blk1 D1.out.2.2.1
    go_wp2
    exact door_bad D1.out _ rfl rfl
  · have km2 : decide (120 < (many : Int)) = true := decide_eq_true (by have := of_decide_eq_false km1; omega)
    go_enter_defers Try.func19, Try.ntmps19
    go_wp2_with fail
    have D0 : DW w (.slice ao l.length c) l 0 none 0 [] (((w.alloc (.cells #[.slice none 0 0] 22)).alloc (.cells #[.int .i64 0] 25)).alloc (.cells #[.slice ao l.length c, .int .i64 (8 * (l.length : Int)), .int .i64 0] 73)) := by
      refine ⟨(((Below.refl w.heap.size w).alloc (Nat.le_refl _) _).alloc (by simp) _).alloc (by simp; omega) _, blk_alloc (blk_alloc (blk_new w _ _ rfl) _) _, blk_alloc (blk_new (w.alloc _) _ (w.heap.size + 1) (by simp)) _, ?_, World.ownsRow_nil _ _ _ _⟩
      unfold Rd
      rw [blk_new ((w.alloc _).alloc _) _ (w.heap.size + 2) (by simp)]
      simp
    refine (HN.out _ (((Hb.out.alloc _).alloc _).alloc _) D0.2.2.2.1).mono ?_
    rintro e w1 ⟨hg, he, hrd⟩
    subst he
    have D1 := hid (D0.read hg hrd)
    clear D0 hg hrd
    obtain ⟨m0, m1, m2⟩ := blk1 D1.out.2.1
    obtain ⟨n0, n1, n2⟩ := blk1 D1.out.2.2.1
    go_wp2
    exact door_bad D1.out _ rfl rfl

theorem DW.gave {w wr wr' : World} {bv : Value} {l : List UInt8} {a : Nat} {ao : Option Addr} {c : Nat} {s : List (Int × Int)} (h : DW w bv l a ao c s wr) (hg : wr.grownBy wr' (some (w.heap.size + 2))) :
    Below w.heap.size w wr' ∧ wr'.heap[w.heap.size]? = some (.cells #[.slice ao s.length c] 22 (0, 0)) ∧ wr'.heap[w.heap.size + 1]? = some (.cells #[.int .i64 0] 25 (0, 0)) := by
  have hs := h.size
  refine ⟨h.1.grown hg (by omega) (by intro k hk; simp at hk; omega), ?_, ?_⟩
  · rw [hg.block _ (by omega) (by simp)]; exact h.2.1
  · rw [hg.block _ (by omega) (by simp)]; exact h.2.2.1
theorem DW.cell {w wr : World} {bv : Value} {l : List UInt8} {a b1 off1 c : Nat} {s : List (Int × Int)} (h : DW w bv l a (some ⟨b1, off1, none⟩) c s wr) (j : Nat) (hj : j < s.length) :
    wr.cell? ⟨b1, off1 + j * 2, none⟩ = some (.int .i64 (s.getD j (0, 0)).1) ∧ wr.cell? ⟨b1, off1 + j * 2 + 1, none⟩ = some (.int .i64 (s.getD j (0, 0)).2) := by
  obtain ⟨b, off, hv, _, hc⟩ := sc_cells (Sl.own h.2.2.2.2) (by omega)
  simp only [Option.some.injEq, Addr.mk.injEq, and_true] at hv
  obtain ⟨rfl, rfl⟩ := hv
  exact hc j hj
theorem DW.push {w w7 w8 : World} {bv : Value} {l : List UInt8} {a c : Nat} {ao : Option Addr} {s : List (Int × Int)} (h : DW w bv l a ao c s w7) (x : Int × Int) {g cap : Nat} (hg : w7.grownBy w8 (Value.slice ao s.length c).ownBlock)
    (ho : w8.ownsRow (w.heap.size + 3) 40 2 (.slice (some ⟨g, 0, none⟩) (s.length + 1) cap) (s.length + 1) (sc (s ++ [x]))) :
    DW w bv l a (some ⟨g, 0, none⟩) cap (s ++ [x]) (w8.setCell ⟨w.heap.size, 0, none⟩ (.slice (some ⟨g, 0, none⟩) (s.length + 1) cap)) := by
  have hs := h.size
  have hn := fun k (hk : k < w.heap.size + 3) => own_ne_lt h.2.2.2.2 hk
  have e : (s ++ [x]).length = s.length + 1 := by simp
  unfold DW
  rw [e]
  refine ⟨(h.1.grown hg (by omega) (fun k hk => by have := (h.2.2.2.2.lt k hk).1; omega)).setCell (Nat.le_refl _) _, ?_, ?_, ?_, own_setOther ho _ _ (own_ne_lt ho (by show w.heap.size < w.heap.size + 3; omega))⟩
  · have := blk_setCell ((hg.block w.heap.size (by omega) (hn w.heap.size (by omega)).symm).trans h.2.1) 0 (.slice (some ⟨g, 0, none⟩) (s.length + 1) cap)
    simpa using this
  · exact blk_setCell_other ((hg.block (w.heap.size + 1) (by omega) (hn (w.heap.size + 1) (by omega)).symm).trans h.2.2.1) _ _ (by simp)
  · exact blk_setCell_other ((hg.block (w.heap.size + 2) (by omega) (hn (w.heap.size + 2) (by omega)).symm).trans h.2.2.2.1) _ _ (by simp)

set_option maxRecDepth 100000 in
set_option maxHeartbeats 8000000 in
theorem decode_main (bv : Value) (l : List UInt8) (w : World) (hl : l.length ≤ 150000000000000) (hb : Sl w 1 bv l.length (bc l)) (many a0 : Nat) (hr : rdU l 0 = some ((many : Int), a0)) (h1 : 1 ≤ many ∧ many ≤ 120) :
    Calls Try.prog 19 #[bv] w (DecPost w (decV l)) := by
  have hmf : ∀ (fn : Fn) (first cap : Array Value) (w : World), (Instr.makeFunc fn first cap).run Try.prog w = .ok (.func fn first cap) w := fun _ _ _ _ => rfl
  have HN := hid (fun wx hx h => rnum_any (w.heap.size + 1 + 1) bv l 0 wx hl (by omega) hx h)
  rw [hr] at HN
  have HR := hid hr
  have ha0 := (rdU_ok hr).2.2.1
  have Hb := hid hb
  obtain ⟨ao, c, rfl, hlc, _, _⟩ := hb.shape
  have k8 : IntKind.i64.wrap (8 * (l.length : Int)) = 8 * (l.length : Int) := IntWalk.i64_in _ (by omega)
  have km1 : decide ((many : Int) < 1) = false := decide_eq_false (by omega)
  have km2 : decide (120 < (many : Int)) = false := decide_eq_false (by omega)
  have kmw : IntKind.i64.wrap (many : Int) = (many : Int) := IntWalk.i64_in _ (by omega)
  clear hb hr
  go_enter_defers Try.func19, Try.ntmps19
  go_wp2_with fail
  have D0 : DW w (.slice ao l.length c) l 0 none 0 [] (((w.alloc (.cells #[.slice none 0 0] 22)).alloc (.cells #[.int .i64 0] 25)).alloc (.cells #[.slice ao l.length c, .int .i64 (8 * (l.length : Int)), .int .i64 0] 73)) := by
    refine ⟨(((Below.refl w.heap.size w).alloc (Nat.le_refl _) _).alloc (by simp) _).alloc (by simp; omega) _, blk_alloc (blk_alloc (blk_new w _ _ rfl) _) _, blk_alloc (blk_new (w.alloc _) _ (w.heap.size + 1) (by simp)) _, ?_, World.ownsRow_nil _ _ _ _⟩
    unfold Rd
    rw [blk_new ((w.alloc _).alloc _) _ (w.heap.size + 2) (by simp)]
    simp
  refine (HN.out _ (((Hb.out.alloc _).alloc _).alloc _) D0.2.2.2.1).mono ?_
  rintro e w1 ⟨hg, he, hrd⟩
  subst he
  have D1 := hid (D0.read hg hrd)
  clear D0 hg hrd
  go_wp2
  go_loopw [8, 9, 10, 34] (fun fv _ _ iv wr => ∃ k s far a ao1 c1, k ≤ many ∧ iv = .int .i64 ((k : Nat) : Int) ∧ fv = .int .i64 far ∧ runD l a0 k = some (s, far, a) ∧ DW w (.slice ao l.length c) l a ao1 c1 s wr)
    (fun _ _ _ iv _ => many - (intOf iv).toNat)
  case atStart => exact ⟨0, [], 0, a0, none, 0, Nat.zero_le _, rfl, rfl, rfl, D1.out⟩
  case round =>
    obtain ⟨k, s, far, a, ao1, c1, hk, rfl, rfl, hrun, hdw⟩ := hrel
    have hinv := runD_inv ha0 k s far a hrun
    have D := hid hdw; have RUN := hid hrun; have INV := hid hinv
    have hsl := hinv.len
    have hpl := hinv.place
    have hfb := hinv.bounds
    clear hdw hrun hinv
    by_cases hlt : k < many
    · have HP0 := hid (fun (x : stepD l s far a = none) => decV_none HR.out h1 hlt (by rw [runD_succ RUN.out]; exact x))
      have hq3 := D.out.size
      have DQ := hid (D.out.alloc (.cells #[.int .i64 0, .int .i64 0] 40))
      have BQ := hid (blk_new wr (.cells #[.int .i64 0, .int .i64 0] 40) wr.heap.size rfl)
      have hob : (Value.slice ao1 s.length c1).ownBlock ≠ some wr.heap.size := by intro h; have := (D.out.2.2.2.2.lt _ h).2; omega
      have SB := hid (fun wx a' (hx : DW w (.slice ao l.length c) l a' ao1 c1 s wx) => Hb.out.below hx.1 (fun _ _ h => h))
      rcases Nat.eq_zero_or_pos k with h0k | h0k
      · have h0 : s.length = 0 := by omega
        have hk0 : ((k : Int) == 0) = true := by simp; exact h0k
        have hk1 : decide ((0 : Int) < (k : Int)) = false := decide_eq_false (by omega)
        have hk1' : decide (0 < k) = false := decide_eq_false (by omega)
        have hk0' : (k == 0) = true := by simp; exact h0k
        obtain ⟨f, hf⟩ : ∃ f, f = far := ⟨_, rfl⟩
        have H0 := hid h0
        have HFF := hid hf
        clear h0 h0k hsl hf
        obtain ⟨b0, b1, b2, b3, b4⟩ := blk2 BQ.out
        go_wp2_with fail
        have HC := rtime_any (w.heap.size + 1 + 1) (.slice ao l.length c) l a _ hl (by omega) (SB.out _ a DQ.out) DQ.out.2.2.2.1
        cases HX : rdT l a with
        | none =>
          have hnone : stepD l s far a = none := by (unfold stepD tAt; rw [if_pos H0.out, HX]; rfl)
          have hdec := HP0.out hnone
          rw [HX] at HC
          refine HC.mono ?_
          rintro e w2 ⟨hg, he⟩
          cases he
          show Leaves _ _ _ (DecPost w (decV l)) _ _ _
          rw [hdec]
          obtain ⟨hx1, hx2, hx3⟩ := DW.gave DQ.out hg
          exact door_panic w w2 _ _ _ rfl rfl hx1 hx2 hx3
        | some qt =>
          obtain ⟨y, b⟩ := qt
          have hyr := rdT_ok HX
          have HTA := hid (show tAt l s far a = some (y, f, b) by unfold tAt; rw [if_pos H0.out, HX, HFF.out]; rfl)
          rw [HX] at HC
          refine HC.mono ?_
          rintro e w1 ⟨hg, he, hrd⟩
          subst he
          have D1 := hid (DQ.out.read hg hrd)
          have B1 := hid (show w1.heap[wr.heap.size]? = _ from (hg.block wr.heap.size (lt_of_blk BQ.out) (by simp; omega)).trans BQ.out)
          have D2 := hid (D1.out.setCell wr.heap.size 0 (.int .i64 y) (by omega) hob)
          have B2 := hid (show (w1.setCell ⟨wr.heap.size, 0, none⟩ (.int .i64 y)).heap[wr.heap.size]? = some (.cells #[.int .i64 y, .int .i64 0] 40 (0, 0)) from by have := blk_setCell B1.out 0 (.int .i64 y); simpa using this)
          clear b0 b1 b2 b3 b4 HC HX hg hrd
          obtain ⟨b0, b1, b2, b3, b4⟩ := blk2 B1.out
          go_wp2_with fail
          clear b0 b1 b2 b3 b4
          generalize w1.setCell ⟨wr.heap.size, 0, none⟩ (.int .i64 y) = w2 at *
          clear D1 B1
          obtain ⟨b0, b1, b2, b3, b4⟩ := blk2 B2.out
          have D2r := D2.out
          have HC := rsigned_any (w.heap.size + 1 + 1) (.slice ao l.length c) l b 2305843009213693952 w2 (by omega) (by omega) hl (by omega) (SB.out w2 b D2r) D2r.2.2.2.1
          cases HX : rdS 2305843009213693952 l b with
          | none =>
            clear b0 b1 b2 b3 b4
            have hnone : stepD l s far a = none := by (unfold stepD; rw [HTA.out]; simp only; rw [HX])
            have hdec := HP0.out hnone
            rw [HX] at HC
            refine HC.mono ?_
            rintro e w2 ⟨hg, he⟩
            cases he
            show Leaves _ _ _ (DecPost w (decV l)) _ _ _
            rw [hdec]
            obtain ⟨hx1, hx2, hx3⟩ := DW.gave D2r hg
            exact door_panic w w2 _ _ _ rfl rfl hx1 hx2 hx3
          | some qv =>
            obtain ⟨v, c2⟩ := qv
            have hvr := rdS_ok HX
            rw [HX] at HC
            refine HC.mono ?_
            rintro e w3 ⟨hg, he, hrd⟩
            subst he
            have D3 := hid (D2r.read hg hrd)
            have B3 := hid (show w3.heap[wr.heap.size]? = _ from (hg.block wr.heap.size (lt_of_blk B2.out) (by simp; omega)).trans B2.out)
            have HXV := hid HX
            clear HX HC hg hrd b0 b1 b2 b3 b4 D2r D2 B2
            obtain ⟨b0, b1, b2, b3, b4⟩ := blk2 B3.out
            have D4 := hid (D3.out.setCell wr.heap.size 1 (.int .i64 v) (by omega) hob)
            have B4 := hid (show (w3.setCell ⟨wr.heap.size, 1, none⟩ (.int .i64 v)).heap[wr.heap.size]? = some (.cells #[.int .i64 y, .int .i64 v] 40 (0, 0)) from by have := blk_setCell B3.out 1 (.int .i64 v); simpa using this)
            obtain ⟨V, hVe⟩ : ∃ V, V = v := ⟨_, rfl⟩
            have HVV := hid (show v + prevV s = V by unfold prevV; rw [if_pos H0.out, hVe]; omega)
            rw [← hVe] at B4 D4 ⊢
            clear hVe
            go_wp2_with fail
            clear b0 b1 b2 b3 b4
            generalize w3.setCell ⟨wr.heap.size, 1, none⟩ (.int .i64 V) = w6 at *
            have D6 := D4; have B6 := B4
            clear D4 B4 D3 B3
            refine (may_any y V w6).mono ?_
            rintro e w7 ⟨rfl, hb7⟩
            have D7 := hid (D6.out.below hb7)
            have B7 := hid (blk_below B6.out hb7 (lt_of_blk B6.out))
            clear hb7 D6 B6
            obtain ⟨b0, b1, b2, b3, b4⟩ := blk2 B7.out
            obtain ⟨m0, m1, m2⟩ := blk1 D7.out.2.1
            obtain ⟨n0, n1, n2⟩ := blk1 D7.out.2.2.1
            rcases Bool.eq_false_or_eq_true (mayB y V) with hm | hm
            · rw [hm]
              have hstep := hid (show stepD l s far a = some (s ++ [(y, V)], f, c2) from by unfold stepD; rw [HTA.out]; simp only; rw [HXV.out]; simp only; rw [HVV.out, if_neg (by rw [hm]; rw [H0.out]; simp)])
              have s7 := D7.out.size
              clear hm
              go_wp2_with (at_builtin; refine wpList_appM rfl _ _ rfl (w.heap.size + 3) (.slice ao1 s.length c1) s.length s rfl D7.out.2.2.2.2 (y, V) _ rfl rfl (by have := H0.out; omega) s7 ?_; intro g8 c8 w8 hown8 hgrow8 hbel8 sz8; have D8 := hid (DW.push D7.out (y, V) hgrow8 hown8); have hH8 : w8.heap[w.heap.size]? = _ := (hgrow8.block _ (by omega) (own_ne_lt D7.out.2.2.2.2 (show w.heap.size < w.heap.size + 3 by omega)).symm).trans D7.out.2.1; obtain ⟨n0, n1, n2⟩ := blk1 hH8; clear hown8 hgrow8 hbel8 hH8)
              go_roundw
              case rel => exact ⟨k + 1, s ++ [(y, V)], f, c2, some ⟨g8, 0, none⟩, c8, hlt, by go_num, by rw [HFF.out], (runD_succ RUN.out).trans hstep.out, D8.out⟩
              case measure => simp [intOf]; omega
            · rw [hm]
              have hdec := HP0.out (by unfold stepD; rw [HTA.out]; simp only; rw [HXV.out]; simp only; rw [HVV.out, if_pos (.inl hm)])
              go_wp2
              show Leaves _ _ _ (DecPost w (decV l)) _ _ _
              rw [hdec]
              exact door_bad D7.out _ rfl rfl
      obtain ⟨j, rfl⟩ : ∃ j, k = j + 1 := ⟨k - 1, by omega⟩
      have hjs : j < s.length := by omega
      obtain ⟨g1, o1, hao1, _, _⟩ := sc_cells (Sl.own D.out.2.2.2.2) (by omega)
      subst hao1
      have hlb := INV.out.last (by omega)
      have hlp : lastP s = s.getD j (0, 0) := by unfold lastP; rw [hsl]; rfl
      rw [hlp] at hlb
      obtain ⟨tp, htp⟩ : ∃ x, x = (s.getD j (0, 0)).1 := ⟨_, rfl⟩
      obtain ⟨vp, hvp⟩ : ∃ x, x = (s.getD j (0, 0)).2 := ⟨_, rfl⟩
      have HTP := hid htp; have HVP := hid hvp
      have HLT := hid (show (lastP s).1 = tp by rw [hlp, htp])
      have HLP := hid (show (lastP s).2 = vp by rw [hlp, hvp])
      rw [← htp, ← hvp] at hlb
      clear hlp htp hvp
      have hk0 : (((j : Int) + 1) == 0) = false := by simp; omega
      have hk1 : decide ((0 : Int) < (j : Int) + 1) = true := decide_eq_true (by omega)
      have i0 : (0 : Int) ≤ (j : Int) := by omega
      have i1 : (j : Int) < (s.length : Int) := by omega
      have i2 : (0 : Int) < (s.length : Int) := by omega
      have kj : IntKind.i64.wrap (j : Int) = (j : Int) := IntWalk.i64_in _ (by omega)
      have HSL := hid hsl
      by_cases hj0 : j = 0
      · have hk2 : (((j : Int) + 1) == 1) = true := by simp; omega
        have HJ0 := hid hj0
        have hs0 : ¬ s.length = 0 := by omega
        have HS1 := hid (show s.length = 1 by omega)
        clear hj0 hsl
        obtain ⟨b0, b1, b2, b3, b4⟩ := blk2 BQ.out
        go_wp2_with fail
        have HC := rtime_any (w.heap.size + 1 + 1) (.slice ao l.length c) l a _ hl (by omega) (SB.out _ a DQ.out) DQ.out.2.2.2.1
        cases HX : rdT l a with
        | none =>
          have hnone : stepD l s far a = none := by (unfold stepD tAt; rw [if_neg hs0, if_pos HS1.out, HX]; rfl)
          have hdec := HP0.out hnone
          rw [HX] at HC
          refine HC.mono ?_
          rintro e w2 ⟨hg, he⟩
          cases he
          show Leaves _ _ _ (DecPost w (decV l)) _ _ _
          rw [hdec]
          obtain ⟨hx1, hx2, hx3⟩ := DW.gave DQ.out hg
          exact door_panic w w2 _ _ _ rfl rfl hx1 hx2 hx3
        | some qt =>
          obtain ⟨f, b⟩ := qt
          have hyr := rdT_ok HX
          obtain ⟨y, hy⟩ : ∃ y, y = tp + f := ⟨_, rfl⟩
          have kT : IntKind.i64.wrap (tp + f) = y := by rw [hy]; exact IntWalk.i64_in _ (by omega)
          have HTA := hid (show tAt l s far a = some (y, f, b) by unfold tAt; rw [if_neg hs0, if_pos HS1.out, HX, HLT.out, hy]; rfl)
          clear hy
          rw [HX] at HC
          refine HC.mono ?_
          rintro e w1 ⟨hg, he, hrd⟩
          subst he
          have D1 := hid (DQ.out.read hg hrd)
          have B1 := hid (show w1.heap[wr.heap.size]? = _ from (hg.block wr.heap.size (lt_of_blk BQ.out) (by simp; omega)).trans BQ.out)
          have D2 := hid (D1.out.setCell wr.heap.size 0 (.int .i64 y) (by omega) hob)
          have B2 := hid (show (w1.setCell ⟨wr.heap.size, 0, none⟩ (.int .i64 y)).heap[wr.heap.size]? = some (.cells #[.int .i64 y, .int .i64 0] 40 (0, 0)) from by have := blk_setCell B1.out 0 (.int .i64 y); simpa using this)
          clear b0 b1 b2 b3 b4 HC HX hg hrd
          obtain ⟨b0, b1, b2, b3, b4⟩ := blk2 B1.out
          obtain ⟨m0, m1, m2⟩ := blk1 D1.out.2.1
          have hct := (D1.out.cell j hjs).1
          rw [← HTP.out] at hct
          rw [HJ0.out, Nat.zero_mul, Nat.add_zero] at hct
          go_wp2_with fail
          clear b0 b1 b2 b3 b4 m0 m1 m2 hct
          generalize w1.setCell ⟨wr.heap.size, 0, none⟩ (.int .i64 y) = w2 at *
          clear D1 B1
          obtain ⟨b0, b1, b2, b3, b4⟩ := blk2 B2.out
          have D2r := D2.out
          have HC := rsigned_any (w.heap.size + 1 + 1) (.slice ao l.length c) l b 2305843009213693952 w2 (by omega) (by omega) hl (by omega) (SB.out w2 b D2r) D2r.2.2.2.1
          cases HX : rdS 2305843009213693952 l b with
          | none =>
            clear b0 b1 b2 b3 b4
            have hnone : stepD l s far a = none := by (unfold stepD; rw [HTA.out]; simp only; rw [HX])
            have hdec := HP0.out hnone
            rw [HX] at HC
            refine HC.mono ?_
            rintro e w2 ⟨hg, he⟩
            cases he
            show Leaves _ _ _ (DecPost w (decV l)) _ _ _
            rw [hdec]
            obtain ⟨hx1, hx2, hx3⟩ := DW.gave D2r hg
            exact door_panic w w2 _ _ _ rfl rfl hx1 hx2 hx3
          | some qv =>
            obtain ⟨v, c2⟩ := qv
            have hvr := rdS_ok HX
            rw [HX] at HC
            refine HC.mono ?_
            rintro e w3 ⟨hg, he, hrd⟩
            subst he
            have D3 := hid (D2r.read hg hrd)
            have B3 := hid (show w3.heap[wr.heap.size]? = _ from (hg.block wr.heap.size (lt_of_blk B2.out) (by simp; omega)).trans B2.out)
            have HXV := hid HX
            clear HX HC hg hrd b0 b1 b2 b3 b4 D2r D2 B2
            obtain ⟨b0, b1, b2, b3, b4⟩ := blk2 B3.out
            have D4 := hid (D3.out.setCell wr.heap.size 1 (.int .i64 v) (by omega) hob)
            have B4 := hid (show (w3.setCell ⟨wr.heap.size, 1, none⟩ (.int .i64 v)).heap[wr.heap.size]? = some (.cells #[.int .i64 y, .int .i64 v] 40 (0, 0)) from by have := blk_setCell B3.out 1 (.int .i64 v); simpa using this)
            obtain ⟨V, hVe⟩ : ∃ V, V = v + vp := ⟨_, rfl⟩
            have kV : IntKind.i64.wrap (v + vp) = V := by rw [hVe]; exact IntWalk.i64_in _ (by omega)
            have HVV := hid (show v + prevV s = V by unfold prevV; rw [if_neg hs0, HLP.out, hVe])
            clear hVe
            go_wp2_with fail
            clear b0 b1 b2 b3 b4
            generalize w3.setCell ⟨wr.heap.size, 1, none⟩ (.int .i64 v) = w4 at *
            clear D3 B3
            obtain ⟨b0, b1, b2, b3, b4⟩ := blk2 B4.out
            obtain ⟨m0, m1, m2⟩ := blk1 D4.out.2.1
            have hcv := (D4.out.cell j hjs).2
            rw [← HVP.out] at hcv
            go_still_tail 10, (by kernel_rfl)
            change wpList _ _ _ _ _ w4.drew
            have D5 := hid (show DW w (.slice ao l.length c) l c2 (some ⟨g1, o1, none⟩) c1 s w4.drew from D4.out.drewN 1)
            have B5 := hid (show w4.drew.heap[wr.heap.size]? = _ from B4.out)
            clear b0 b1 b2 b3 b4 m0 m1 m2 hcv
            generalize w4.drew = w5 at *
            obtain ⟨b0, b1, b2, b3, b4⟩ := blk2 B5.out
            have D6 := hid (D5.out.setCell wr.heap.size 1 (.int .i64 V) (by omega) hob)
            have B6 := hid (show (w5.setCell ⟨wr.heap.size, 1, none⟩ (.int .i64 V)).heap[wr.heap.size]? = some (.cells #[.int .i64 y, .int .i64 V] 40 (0, 0)) from by have := blk_setCell B5.out 1 (.int .i64 V); simpa using this)
            go_wp2_with fail
            clear b0 b1 b2 b3 b4
            generalize w5.setCell ⟨wr.heap.size, 1, none⟩ (.int .i64 V) = w6 at *
            clear D4 B4 D5 B5
            refine (may_any y V w6).mono ?_
            rintro e w7 ⟨rfl, hb7⟩
            have D7 := hid (D6.out.below hb7)
            have B7 := hid (blk_below B6.out hb7 (lt_of_blk B6.out))
            clear hb7 D6 B6
            obtain ⟨b0, b1, b2, b3, b4⟩ := blk2 B7.out
            obtain ⟨m0, m1, m2⟩ := blk1 D7.out.2.1
            obtain ⟨n0, n1, n2⟩ := blk1 D7.out.2.2.1
            rcases Bool.eq_false_or_eq_true (mayB y V) with hm | hm
            · rw [hm]
              rcases Bool.eq_false_or_eq_true (decide (f < 1)) with hf1 | hf1
              · have hdec := HP0.out (by unfold stepD; rw [HTA.out]; simp only; rw [HXV.out]; simp only; rw [if_pos (.inr ⟨by omega, of_decide_eq_true hf1⟩)])
                go_wp2
                show Leaves _ _ _ (DecPost w (decV l)) _ _ _
                rw [hdec]
                exact door_bad D7.out _ rfl rfl
              · have hstep := hid (show stepD l s far a = some (s ++ [(y, V)], f, c2) from by unfold stepD; rw [HTA.out]; simp only; rw [HXV.out]; simp only; rw [HVV.out, if_neg (by rw [hm]; simp only [Bool.true_eq_false, false_or, not_and]; intro _; exact of_decide_eq_false hf1)])
                have s7 := D7.out.size
                clear hm
                go_wp2_with (at_builtin; refine wpList_appM rfl _ _ rfl (w.heap.size + 3) (.slice (some ⟨g1, o1, none⟩) s.length c1) s.length s rfl D7.out.2.2.2.2 (y, V) _ rfl rfl (by have := HSL.out; omega) s7 ?_; intro g8 c8 w8 hown8 hgrow8 hbel8 sz8; have D8 := hid (DW.push D7.out (y, V) hgrow8 hown8); have hH8 : w8.heap[w.heap.size]? = _ := (hgrow8.block _ (by omega) (own_ne_lt D7.out.2.2.2.2 (show w.heap.size < w.heap.size + 3 by omega)).symm).trans D7.out.2.1; obtain ⟨n0, n1, n2⟩ := blk1 hH8; clear hown8 hgrow8 hbel8 hH8)
                go_roundw
                case rel => exact ⟨j + 1 + 1, s ++ [(y, V)], f, c2, some ⟨g8, 0, none⟩, c8, hlt, by go_num, rfl, (runD_succ RUN.out).trans hstep.out, D8.out⟩
                case measure => simp [intOf]; omega
            · rw [hm]
              have hdec := HP0.out (by unfold stepD; rw [HTA.out]; simp only; rw [HXV.out]; simp only; rw [HVV.out, if_pos (.inl hm)])
              go_wp2
              show Leaves _ _ _ (DecPost w (decV l)) _ _ _
              rw [hdec]
              exact door_bad D7.out _ rfl rfl
      · have hk2 : (((j : Int) + 1) == 1) = false := by simp; omega
        have hs0 : ¬ s.length = 0 := by omega
        have HS1 := hid (show ¬ s.length = 1 by omega)
        clear hj0 hsl
        obtain ⟨b0, b1, b2, b3, b4⟩ := blk2 BQ.out
        go_wp2_with fail
        have HC := rsigned_any (w.heap.size + 1 + 1) (.slice ao l.length c) l a 1099511627776 _ (by omega) (by omega) hl (by omega) (SB.out _ a DQ.out) DQ.out.2.2.2.1
        cases HX : rdS 1099511627776 l a with
        | none =>
          have hnone : stepD l s far a = none := by (unfold stepD tAt; rw [if_neg hs0, if_neg HS1.out, HX]; rfl)
          have hdec := HP0.out hnone
          rw [HX] at HC
          refine HC.mono ?_
          rintro e w2 ⟨hg, he⟩
          cases he
          show Leaves _ _ _ (DecPost w (decV l)) _ _ _
          rw [hdec]
          obtain ⟨hx1, hx2, hx3⟩ := DW.gave DQ.out hg
          exact door_panic w w2 _ _ _ rfl rfl hx1 hx2 hx3
        | some qt =>
          obtain ⟨d, b⟩ := qt
          have hyr := rdS_ok HX
          obtain ⟨f, hf⟩ : ∃ f, f = far + d := ⟨_, rfl⟩
          have kf : IntKind.i64.wrap (far + d) = f := by rw [hf]; exact IntWalk.i64_in _ (by omega)
          obtain ⟨y, hy⟩ : ∃ y, y = tp + f := ⟨_, rfl⟩
          have kT : IntKind.i64.wrap (tp + f) = y := by rw [hy]; exact IntWalk.i64_in _ (by omega)
          have HTA := hid (show tAt l s far a = some (y, f, b) by unfold tAt; rw [if_neg hs0, if_neg HS1.out, HX, HLT.out, hy, hf]; rfl)
          clear hy hf
          rw [HX] at HC
          refine HC.mono ?_
          rintro e w1 ⟨hg, he, hrd⟩
          subst he
          have D1 := hid (DQ.out.read hg hrd)
          have B1 := hid (show w1.heap[wr.heap.size]? = _ from (hg.block wr.heap.size (lt_of_blk BQ.out) (by simp; omega)).trans BQ.out)
          have D2 := hid (D1.out.setCell wr.heap.size 0 (.int .i64 y) (by omega) hob)
          have B2 := hid (show (w1.setCell ⟨wr.heap.size, 0, none⟩ (.int .i64 y)).heap[wr.heap.size]? = some (.cells #[.int .i64 y, .int .i64 0] 40 (0, 0)) from by have := blk_setCell B1.out 0 (.int .i64 y); simpa using this)
          clear b0 b1 b2 b3 b4 HC HX hg hrd
          obtain ⟨b0, b1, b2, b3, b4⟩ := blk2 B1.out
          obtain ⟨m0, m1, m2⟩ := blk1 D1.out.2.1
          have hct := (D1.out.cell j hjs).1
          rw [← HTP.out] at hct
          go_wp2_with fail
          clear b0 b1 b2 b3 b4 m0 m1 m2 hct
          generalize w1.setCell ⟨wr.heap.size, 0, none⟩ (.int .i64 y) = w2 at *
          clear D1 B1
          obtain ⟨b0, b1, b2, b3, b4⟩ := blk2 B2.out
          have D2r := D2.out
          have HC := rsigned_any (w.heap.size + 1 + 1) (.slice ao l.length c) l b 2305843009213693952 w2 (by omega) (by omega) hl (by omega) (SB.out w2 b D2r) D2r.2.2.2.1
          cases HX : rdS 2305843009213693952 l b with
          | none =>
            clear b0 b1 b2 b3 b4
            have hnone : stepD l s far a = none := by (unfold stepD; rw [HTA.out]; simp only; rw [HX])
            have hdec := HP0.out hnone
            rw [HX] at HC
            refine HC.mono ?_
            rintro e w2 ⟨hg, he⟩
            cases he
            show Leaves _ _ _ (DecPost w (decV l)) _ _ _
            rw [hdec]
            obtain ⟨hx1, hx2, hx3⟩ := DW.gave D2r hg
            exact door_panic w w2 _ _ _ rfl rfl hx1 hx2 hx3
          | some qv =>
            obtain ⟨v, c2⟩ := qv
            have hvr := rdS_ok HX
            rw [HX] at HC
            refine HC.mono ?_
            rintro e w3 ⟨hg, he, hrd⟩
            subst he
            have D3 := hid (D2r.read hg hrd)
            have B3 := hid (show w3.heap[wr.heap.size]? = _ from (hg.block wr.heap.size (lt_of_blk B2.out) (by simp; omega)).trans B2.out)
            have HXV := hid HX
            clear HX HC hg hrd b0 b1 b2 b3 b4 D2r D2 B2
            obtain ⟨b0, b1, b2, b3, b4⟩ := blk2 B3.out
            have D4 := hid (D3.out.setCell wr.heap.size 1 (.int .i64 v) (by omega) hob)
            have B4 := hid (show (w3.setCell ⟨wr.heap.size, 1, none⟩ (.int .i64 v)).heap[wr.heap.size]? = some (.cells #[.int .i64 y, .int .i64 v] 40 (0, 0)) from by have := blk_setCell B3.out 1 (.int .i64 v); simpa using this)
            obtain ⟨V, hVe⟩ : ∃ V, V = v + vp := ⟨_, rfl⟩
            have kV : IntKind.i64.wrap (v + vp) = V := by rw [hVe]; exact IntWalk.i64_in _ (by omega)
            have HVV := hid (show v + prevV s = V by unfold prevV; rw [if_neg hs0, HLP.out, hVe])
            clear hVe
            go_wp2_with fail
            clear b0 b1 b2 b3 b4
            generalize w3.setCell ⟨wr.heap.size, 1, none⟩ (.int .i64 v) = w4 at *
            clear D3 B3
            obtain ⟨b0, b1, b2, b3, b4⟩ := blk2 B4.out
            obtain ⟨m0, m1, m2⟩ := blk1 D4.out.2.1
            have hcv := (D4.out.cell j hjs).2
            rw [← HVP.out] at hcv
            go_still_tail 10, (by kernel_rfl)
            change wpList _ _ _ _ _ w4.drew
            have D5 := hid (show DW w (.slice ao l.length c) l c2 (some ⟨g1, o1, none⟩) c1 s w4.drew from D4.out.drewN 1)
            have B5 := hid (show w4.drew.heap[wr.heap.size]? = _ from B4.out)
            clear b0 b1 b2 b3 b4 m0 m1 m2 hcv
            generalize w4.drew = w5 at *
            obtain ⟨b0, b1, b2, b3, b4⟩ := blk2 B5.out
            have D6 := hid (D5.out.setCell wr.heap.size 1 (.int .i64 V) (by omega) hob)
            have B6 := hid (show (w5.setCell ⟨wr.heap.size, 1, none⟩ (.int .i64 V)).heap[wr.heap.size]? = some (.cells #[.int .i64 y, .int .i64 V] 40 (0, 0)) from by have := blk_setCell B5.out 1 (.int .i64 V); simpa using this)
            go_wp2_with fail
            clear b0 b1 b2 b3 b4
            generalize w5.setCell ⟨wr.heap.size, 1, none⟩ (.int .i64 V) = w6 at *
            clear D4 B4 D5 B5
            refine (may_any y V w6).mono ?_
            rintro e w7 ⟨rfl, hb7⟩
            have D7 := hid (D6.out.below hb7)
            have B7 := hid (blk_below B6.out hb7 (lt_of_blk B6.out))
            clear hb7 D6 B6
            obtain ⟨b0, b1, b2, b3, b4⟩ := blk2 B7.out
            obtain ⟨m0, m1, m2⟩ := blk1 D7.out.2.1
            obtain ⟨n0, n1, n2⟩ := blk1 D7.out.2.2.1
            rcases Bool.eq_false_or_eq_true (mayB y V) with hm | hm
            · rw [hm]
              rcases Bool.eq_false_or_eq_true (decide (f < 1)) with hf1 | hf1
              · have hdec := HP0.out (by unfold stepD; rw [HTA.out]; simp only; rw [HXV.out]; simp only; rw [if_pos (.inr ⟨by omega, of_decide_eq_true hf1⟩)])
                go_wp2
                show Leaves _ _ _ (DecPost w (decV l)) _ _ _
                rw [hdec]
                exact door_bad D7.out _ rfl rfl
              · have hstep := hid (show stepD l s far a = some (s ++ [(y, V)], f, c2) from by unfold stepD; rw [HTA.out]; simp only; rw [HXV.out]; simp only; rw [HVV.out, if_neg (by rw [hm]; simp only [Bool.true_eq_false, false_or, not_and]; intro _; exact of_decide_eq_false hf1)])
                have s7 := D7.out.size
                clear hm
                go_wp2_with (at_builtin; refine wpList_appM rfl _ _ rfl (w.heap.size + 3) (.slice (some ⟨g1, o1, none⟩) s.length c1) s.length s rfl D7.out.2.2.2.2 (y, V) _ rfl rfl (by have := HSL.out; omega) s7 ?_; intro g8 c8 w8 hown8 hgrow8 hbel8 sz8; have D8 := hid (DW.push D7.out (y, V) hgrow8 hown8); have hH8 : w8.heap[w.heap.size]? = _ := (hgrow8.block _ (by omega) (own_ne_lt D7.out.2.2.2.2 (show w.heap.size < w.heap.size + 3 by omega)).symm).trans D7.out.2.1; obtain ⟨n0, n1, n2⟩ := blk1 hH8; clear hown8 hgrow8 hbel8 hH8)
                go_roundw
                case rel => exact ⟨j + 1 + 1, s ++ [(y, V)], f, c2, some ⟨g8, 0, none⟩, c8, hlt, by go_num, rfl, (runD_succ RUN.out).trans hstep.out, D8.out⟩
                case measure => simp [intOf]; omega
            · rw [hm]
              have hdec := HP0.out (by unfold stepD; rw [HTA.out]; simp only; rw [HXV.out]; simp only; rw [HVV.out, if_pos (.inl hm)])
              go_wp2
              show Leaves _ _ _ (DecPost w (decV l)) _ _ _
              rw [hdec]
              exact door_bad D7.out _ rfl rfl
    · obtain rfl : k = many := by omega
      have hdec := hid (decV_some HR.out h1 RUN.out)
      obtain ⟨left, hleft⟩ : ∃ m, m = 8 * l.length - a := ⟨_, rfl⟩
      have kl : IntKind.i64.wrap (8 * (l.length : Int) - (a : Int)) = (left : Int) := by rw [IntWalk.i64_in _ (by omega)]; omega
      have hRd := D.out.2.2.2.1
      unfold Rd at hRd
      obtain ⟨r0, r1, r2⟩ := rd_cells hRd
      have hrl := lt_of_blk hRd
      have HLE := hid hleft
      clear hRd hleft hsl hlt
      go_wp2
      go_quiet (fail)
      rename_i nq
      have DN := hid (D.out.drewN nq)
      clear r0 r1 r2 hrl
      generalize wr.drewN nq = w2 at *
      obtain ⟨m0, m1, m2⟩ := blk1 DN.out.2.1
      obtain ⟨n0, n1, n2⟩ := blk1 DN.out.2.2.1
      by_cases h7 : 7 < left
      · have e7 : decide (7 < (left : Int)) = true := decide_eq_true (by omega)
        have hd2 : decV l = ([], 5) := by rw [hdec.out, if_pos (by unfold endBad; rw [← HLE.out, decide_eq_true h7]; rfl)]
        go_wp2
        show Leaves _ _ _ (DecPost w (decV l)) _ _ _
        rw [hd2]
        exact door_bad DN.out _ rfl rfl
      · have e7 : decide (7 < (left : Int)) = false := decide_eq_false (by omega)
        by_cases h0 : left = 0
        · have e0 : decide (0 < (left : Int)) = false := decide_eq_false (by omega)
          have e0' : decide (0 < left) = false := decide_eq_false (by omega)
          have hd2 : decV l = (s, 0) := by rw [hdec.out, if_neg (by unfold endBad; rw [← HLE.out, decide_eq_false h7, h0]; simp)]
          have H0 := hid h0
          clear h0 h7
          go_wp2
          show Leaves _ _ _ (DecPost w (decV l)) _ _ _
          rw [hd2]
          exact door_good DN.out _ rfl rfl
        · have e0 : decide (0 < (left : Int)) = true := decide_eq_true (by omega)
          have e0' : decide (0 < left) = true := decide_eq_true (by omega)
          have hl0 : 0 < l.length := by have := HLE.out; omega
          obtain ⟨b9, off9, c9, hv9, _, _, hb9, hcell9⟩ := (Hb.out.below DN.out.1 (fun _ _ h => h)).form (by decide) hl0
          simp only [Value.slice.injEq] at hv9
          obtain ⟨rfl, _, rfl⟩ := hv9
          have hck := hcell9 (l.length - 1) (by omega)
          rw [bc_get l (l.length - 1) (by omega)] at hck
          obtain ⟨z, hz⟩ : ∃ z, z = (l.getD (l.length - 1) 0).toNat := ⟨_, rfl⟩
          have hz8 : z < 256 := by rw [hz]; exact UInt8.toNat_lt _
          rw [← hz] at hck
          have HZ := hid hz
          clear hz hcell9
          have kl1 : IntKind.i64.wrap ((l.length : Int) - 1) = ((l.length : Int) - 1) := IntWalk.i64_in _ (by omega)
          have kt1 : ((l.length : Int) - 1).toNat = l.length - 1 := by omega
          have i0 : (0 : Int) ≤ (l.length : Int) - 1 := by omega
          have i1 : (l.length : Int) - 1 < (l.length : Int) := by omega
          obtain ⟨m, hm⟩ : ∃ m, m = 8 - left := ⟨_, rfl⟩
          have km : IntKind.i64.wrap (8 - (left : Int)) = (m : Int) := by rw [IntWalk.i64_in _ (by omega)]; omega
          have hm8 : m < 8 := by omega
          have HM := hid hm
          clear hm
          have hE : endBad l a = decide (z * 2 ^ m % 256 ≠ 0) := by
            unfold endBad
            rw [← HLE.out, decide_eq_false h7, ← HZ.out, ← HM.out, decide_eq_true (show 0 < left by omega)]
            simp
          have HD := hid hdec.out
          rw [hE] at HD
          have hcast : ((z : Int) * 2 ^ m % 256 != 0) = decide (z * 2 ^ m % 256 ≠ 0) := by
            have e : (z : Int) * 2 ^ m % 256 = ((z * 2 ^ m % 256 : Nat) : Int) := by simp
            rw [e]
            generalize z * 2 ^ m % 256 = x
            cases x with
            | zero => rfl
            | succ x => rw [decide_eq_true (by omega)]; simp; omega
          rcases Bool.eq_false_or_eq_true ((z : Int) * 2 ^ m % 256 != 0) with hzz | hzz
          · have hd2 : decV l = ([], 5) := by rw [HD.out, if_pos (by rw [← hcast]; exact hzz)]
            clear hE hcast h0 h7
            go_wp2
            show Leaves _ _ _ (DecPost w (decV l)) _ _ _
            rw [hd2]
            exact door_bad DN.out _ rfl rfl
          · have hd2 : decV l = (s, 0) := by rw [HD.out, if_neg (by rw [← hcast, hzz]; simp)]
            clear hE hcast h0 h7
            go_wp2
            show Leaves _ _ _ (DecPost w (decV l)) _ _ _
            rw [hd2]
            exact door_good DN.out _ rfl rfl

/-- chunk.Decode. -/
theorem decode_any (bv : Value) (l : List UInt8) (w : World) (hl : l.length ≤ 150000000000000) (hb : Sl w 1 bv l.length (bc l)) :
    Calls Try.prog 19 #[bv] w (DecPost w (decV l)) := by
  cases hr : rdU l 0 with
  | none =>
    rw [show decV l = ([], 5) by unfold decV; rw [hr]]
    exact decode_none bv l w hl hb hr
  | some q =>
    obtain ⟨u, a0⟩ := q
    have hk := rdU_ok hr
    obtain ⟨many, rfl⟩ := Int.eq_ofNat_of_zero_le hk.1
    by_cases h1 : 1 ≤ many ∧ many ≤ 120
    · exact decode_main bv l w hl hb many a0 hr h1
    · rw [show decV l = ([], 5) by unfold decV; rw [hr]; simp only; rw [if_pos (by omega)]]
      exact decode_many bv l w hl hb many a0 hr (by omega)
end Go.Proofs.Ytcnfhabljogniaa
