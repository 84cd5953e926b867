/- The reference's Decode (the rounds printed by wip/gen_refdecode.py). -/
import Derived.Test.YtcnfhabljogniaaDf
import Derived.StillTailTactics
namespace Go.Proofs.Ytcnfhabljogniaa
open Go.RowKit
set_option linter.unusedSimpArgs false

def tR (k : Nat) (u : Int) : Int := if 1 < k then zag u else IntKind.i64.wrap u
def fR (s : List (Int × Int)) (far t : Int) : Int := if s.length = 0 then far else if s.length = 1 then t else far + t
def xR (s : List (Int × Int)) (far t n : Int) : Int × Int := if s.length = 0 then (t, n) else ((lastP s).1 + fR s far t, (lastP s).2 + n)
def badR (t n : Int) : Bool := decide (t < -1099511627776) || decide (1099511627776 < t) || decide (n < -2305843009213693952) || decide (2305843009213693952 < n)
/-- one sample more, by the reference -/
def stepR (l : List UInt8) (s : List (Int × Int)) (far : Int) (a : Nat) : Option (List (Int × Int) × Int × Nat) :=
  match rdU l a with
  | none => none
  | some (u, b) =>
    match rdU l b with
    | none => none
    | some (v, c) =>
      if badR (tR s.length u) (zag v) = true then none else
      if mayB (xR s far (tR s.length u) (zag v)).1 (xR s far (tR s.length u) (zag v)).2 = false then none else
      some (s ++ [xR s far (tR s.length u) (zag v)], fR s far (tR s.length u), c)
theorem badR_false {t n : Int} : badR t n = false ↔ -1099511627776 ≤ t ∧ t ≤ 1099511627776 ∧ -2305843009213693952 ≤ n ∧ n ≤ 2305843009213693952 := by
  unfold badR; simp [Int.not_lt, and_assoc]
theorem rdS_some {m : Int} {F : List UInt8} {a b : Nat} {v : Int} (h : rdS m F a = some (v, b)) : ∃ u, rdU F a = some (u, b) ∧ zag u = v := by
  unfold rdS at h
  cases hr : rdU F a with
  | none => rw [hr] at h; cases h
  | some q =>
    obtain ⟨x, y⟩ := q
    rw [hr] at h
    simp only at h
    split at h
    · cases h
    · simp only [Option.some.injEq, Prod.mk.injEq] at h
      obtain ⟨rfl, rfl⟩ := h
      exact ⟨x, rfl, rfl⟩
/-- what Decode takes the reference takes -/
theorem stepD_R {l : List UInt8} {s : List (Int × Int)} {far : Int} {a : Nat} {st : List (Int × Int) × Int × Nat} (h : stepD l s far a = some st) : stepR l s far a = some st := by
  obtain ⟨s', f', a'⟩ := st
  obtain ⟨T, b, v, ht, hv, hm, hf, rfl⟩ := stepD_ok h
  obtain ⟨w, hw, hzw⟩ := rdS_some hv
  have hvr := rdS_ok hv
  unfold tAt at ht
  have fin : ∀ u t, rdU l a = some (u, b) → tR s.length u = t → -1099511627776 ≤ t ∧ t ≤ 1099511627776 → xR s far t v = (T, v + prevV s) → fR s far t = f' → stepR l s far a = some (s ++ [(T, v + prevV s)], f', a') := by
    intro u t h1 h2 h3 h4 h5
    unfold stepR
    rw [h1]
    simp only
    rw [hw]
    simp only
    rw [h2, hzw, if_neg (by rw [badR_false.2 ⟨h3.1, h3.2, hvr.1, hvr.2.1⟩]; simp), h4, h5]
    simp only
    rw [if_neg (by rw [hm]; simp)]
  by_cases h0 : s.length = 0
  · rw [if_pos h0] at ht
    simp only [Option.map_eq_some_iff, Prod.mk.injEq] at ht
    obtain ⟨⟨u, b'⟩, hT, rfl, rfl, rfl⟩ := ht
    have hr := rdT_ok hT
    refine fin u u (rdT_U hT) ?_ ⟨by omega, hr.2.1⟩ ?_ ?_
    · unfold tR; rw [if_neg (by omega)]; exact IntWalk.i64_in _ (by omega)
    · unfold xR prevV; rw [if_pos h0, if_pos h0, Int.add_zero]
    · unfold fR; rw [if_pos h0]
  · rw [if_neg h0] at ht
    by_cases h1 : s.length = 1
    · rw [if_pos h1] at ht
      simp only [Option.map_eq_some_iff, Prod.mk.injEq] at ht
      obtain ⟨⟨u, b'⟩, hT, rfl, rfl, rfl⟩ := ht
      have hr := rdT_ok hT
      refine fin u u (rdT_U hT) ?_ ⟨by omega, hr.2.1⟩ ?_ ?_
      · unfold tR; rw [if_neg (by omega)]; exact IntWalk.i64_in _ (by omega)
      · unfold xR prevV fR; rw [if_neg h0, if_neg h0, if_neg h0, if_pos h1, Int.add_comm v]
      · unfold fR; rw [if_neg h0, if_pos h1]
    · rw [if_neg h1] at ht
      simp only [Option.map_eq_some_iff, Prod.mk.injEq] at ht
      obtain ⟨⟨d, b'⟩, hT, rfl, rfl, rfl⟩ := ht
      obtain ⟨u, hu, hz⟩ := rdS_some hT
      have hr := rdS_ok hT
      refine fin u d hu ?_ ⟨hr.1, hr.2.1⟩ ?_ ?_
      · unfold tR; rw [if_pos (by omega)]; exact hz
      · unfold xR prevV fR; rw [if_neg h0, if_neg h0, if_neg h0, if_neg h1, Int.add_comm v]
      · unfold fR; rw [if_neg h0, if_neg h1]

/-- the reference's GetNum, as the readers see it -/
theorem refgn_any (bv : Value) (l : List UInt8) (a : Nat) (w : World) (hl : l.length ≤ 150000000000000) (ha : a ≤ 1300000000000000) (hb : Sl w 1 bv l.length (bc l)) :
    Calls Try.prog 40 #[.agg #[bv, .int .i64 (8 * (l.length : Int))], .int .i64 (a : Int)] w fun e w' => Below w.heap.size w w' ∧ match rdU l a with
      | none => ∃ x y er, e = .returned (.tuple #[.int .u64 x, .int .i64 y, .int .i64 er]) ∧ (er != 0) = true
      | some (u, b) => e = .returned (.tuple #[.int .u64 u, .int .i64 (b : Int), .int .i64 0]) := by
  have h := refGetNum_any bv l w (by omega) hb ((8 * l.length : Nat) : Int) (a : Int) (by omega) (by omega) (by omega) (by omega)
  rw [show ((8 * l.length : Nat) : Int) = 8 * (l.length : Int) by omega] at h
  refine h.mono fun e w' ⟨he, hw⟩ => ⟨hw, ?_⟩
  cases hr : rdU l a with
  | none =>
    refine ⟨_, _, _, he, ?_⟩
    unfold rdU at hr
    split at hr
    · cases hr
    · rename_i h0
      rw [show ((8 * l.length : Nat) : Int) = 8 * (l.length : Int) by omega] at h0
      simpa using h0
  | some q =>
    obtain ⟨u, b⟩ := q
    have hk := rdU_ok hr
    have hg := hk.2.2.2
    rw [show ((8 * l.length : Nat) : Int) = 8 * (l.length : Int) by omega] at hg
    simp only
    rw [he, hg]
    simp only
    rw [Int.toNat_of_nonneg hk.1]

/-- What the world of the reference's Decode holds. -/
def RW (w : World) (bv : Value) (l : List UInt8) (ao : Option Addr) (c : Nat) (s : List (Int × Int)) (wr : World) : Prop :=
  Below w.heap.size w wr ∧ wr.heap[w.heap.size]? = some (.cells #[bv, .int .i64 (8 * (l.length : Int))] 58 (0, 0)) ∧ wr.ownsRow (w.heap.size + 1) 40 2 (.slice ao s.length c) s.length (sc s)
section
variable {w wr wr' : World} {bv : Value} {l : List UInt8} {ao : Option Addr} {c : Nat} {s : List (Int × Int)}
theorem RW.size (h : RW w bv l ao c s wr) : w.heap.size + 1 ≤ wr.heap.size := by have := lt_of_blk h.2.1; omega
theorem RW.below (h : RW w bv l ao c s wr) (hb : Below wr.heap.size wr wr') : RW w bv l ao c s wr' := by
  have hs := h.size
  exact ⟨h.1.trans (hb.mono (by omega)), blk_below h.2.1 hb (by omega), own_below h.2.2 hb (Nat.le_refl _)⟩
theorem RW.alloc (h : RW w bv l ao c s wr) (o : Obj) : RW w bv l ao c s (wr.alloc o) := h.below ((Below.refl _ _).alloc (Nat.le_refl _) o)
theorem RW.drewN (h : RW w bv l ao c s wr) (n : Nat) : RW w bv l ao c s (wr.drewN n) := h.below (Below_drewN (Below.refl _ _) n)
theorem RW.setCell (h : RW w bv l ao c s wr) (p : Nat) (j : Nat) (u : Value) (h1 : w.heap.size < p) (h2 : (Value.slice ao s.length c).ownBlock ≠ some p) : RW w bv l ao c s (wr.setCell ⟨p, j, none⟩ u) :=
  ⟨h.1.setCell (by simp; omega) u, blk_setCell_other h.2.1 ⟨p, j, none⟩ u (by simp; omega), own_setOther h.2.2 ⟨p, j, none⟩ u h2⟩
theorem RW.cell {b1 off1 : Nat} (h : RW w bv l (some ⟨b1, off1, none⟩) c s wr) (j : Nat) (hj : j < s.length) :
    wr.cell? ⟨b1, off1 + j * 2, none⟩ = some (.int .i64 (s.getD j (0, 0)).1) ∧ wr.cell? ⟨b1, off1 + j * 2 + 1, none⟩ = some (.int .i64 (s.getD j (0, 0)).2) := by
  obtain ⟨b, off, hv, _, hc⟩ := sc_cells (Sl.own h.2.2) (by omega)
  simp only [Option.some.injEq, Addr.mk.injEq, and_true] at hv
  obtain ⟨rfl, rfl⟩ := hv
  exact hc j hj
theorem RW.push {w8 : World} (h : RW w bv l ao c s wr) (x : Int × Int) {g cap : Nat} (hg : wr.grownBy w8 (Value.slice ao s.length c).ownBlock)
    (ho : w8.ownsRow (w.heap.size + 1) 40 2 (.slice (some ⟨g, 0, none⟩) (s.length + 1) cap) (s.length + 1) (sc (s ++ [x]))) : RW w bv l (some ⟨g, 0, none⟩) cap (s ++ [x]) w8 := by
  have hs := h.size
  have e : (s ++ [x]).length = s.length + 1 := by simp
  unfold RW
  rw [e]
  refine ⟨h.1.grown hg (by omega) (fun k hk => by have := (h.2.2.lt k hk).1; omega), ?_, ho⟩
  exact (hg.block w.heap.size (by omega) (own_ne_lt h.2.2 (show w.heap.size < w.heap.size + 1 by omega)).symm).trans h.2.1
end
/-- what the reference's rounds keep -/
structure InvR (l : List UInt8) (a0 k : Nat) (s : List (Int × Int)) (far : Int) (a : Nat) : Prop where
  run : runD l a0 k = some (s, far, a) ∨ decV l = ([], 5)
  len : s.length = k
  last : 0 < k → 0 ≤ (lastP s).1 ∧ (lastP s).1 ≤ 1099511627776 ∧ -1152921504606846976 ≤ (lastP s).2 ∧ (lastP s).2 ≤ 1152921504606846976
  far : -1099511627776 ≤ far ∧ far ≤ 1099511627776
  place : a ≤ 8 * l.length
theorem InvR.none {l : List UInt8} {many a0 k : Nat} {s : List (Int × Int)} {far : Int} {a : Nat} (h : InvR l a0 k s far a) (hr : rdU l 0 = some ((many : Int), a0)) (h1 : 1 ≤ many ∧ many ≤ 120) (hk : k < many) (hs : stepR l s far a = none) : decV l = ([], 5) := by
  rcases h.run with h | h
  · refine decV_none hr h1 hk ?_
    rw [runD_succ h]
    cases hd : stepD l s far a with
    | none => rfl
    | some st => rw [stepD_R hd] at hs; cases hs
  · exact h
theorem lastP_snoc (s : List (Int × Int)) (x : Int × Int) : lastP (s ++ [x]) = x := by
  unfold lastP
  rw [getD_snoc]
  simp
theorem InvR.next {l : List UInt8} {many a0 k : Nat} {s : List (Int × Int)} {far : Int} {a : Nat} (h : InvR l a0 k s far a) (hr : rdU l 0 = some ((many : Int), a0)) (h1 : 1 ≤ many ∧ many ≤ 120) (hk : k < many) {x : Int × Int} {f : Int} {c : Nat}
    (hs : stepR l s far a = some (s ++ [x], f, c)) (hm : mayB x.1 x.2 = true) (hf : -1099511627776 ≤ f ∧ f ≤ 1099511627776) (hc : c ≤ 8 * l.length) : InvR l a0 (k + 1) (s ++ [x]) f c := by
  refine ⟨?_, by simp [h.len], fun _ => by rw [lastP_snoc]; exact mayB_iff.1 hm, hf, hc⟩
  rcases h.run with h | h
  · rw [runD_succ h]
    cases hd : stepD l s far a with
    | none =>
      refine .inr (decV_none hr h1 hk ?_)
      rw [runD_succ h]; exact hd
    | some st => rw [stepD_R hd] at hs; exact .inl hs
  · exact .inr h
/-- the end -/
theorem InvR.fin {l : List UInt8} {many a0 : Nat} {s : List (Int × Int)} {far : Int} {a : Nat} (h : InvR l a0 many s far a) (hr : rdU l 0 = some ((many : Int), a0)) (h1 : 1 ≤ many ∧ many ≤ 120) :
    decV l = if encV s = (l, 0) then (s, 0) else ([], 5) := by
  by_cases hE : encV s = (l, 0)
  · rw [if_pos hE]
    unfold encV at hE
    split at hE
    · rename_i hc
      simp only [Prod.mk.injEq, and_true] at hE
      exact enc_dec hc hE.symm
    · rename_i hc; simp only [Prod.mk.injEq] at hE; exact absurd hE.2 hc
  · rw [if_neg hE]
    rcases h.run with h | h
    · rw [decV_some hr h1 h]
      split
      · rfl
      · rename_i hb
        have := decV_some hr h1 h
        rw [if_neg hb] at this
        exact absurd (dec_enc this) hE
    · exact h

set_option maxRecDepth 100000 in
set_option maxHeartbeats 8000000 in
theorem refDecode_main (bv : Value) (l : List UInt8) (w : World) (hl : l.length ≤ 150000000000000) (hb : Sl w 1 bv l.length (bc l)) (many a0 : Nat) (hr : rdU l 0 = some ((many : Int), a0)) (h1 : 1 ≤ many ∧ many ≤ 120) :
    Calls Try.prog 24 #[bv] w (DecPost w (decV l)) := by
  have HR := hid hr
  have ha0 := (rdU_ok hr).2.2.1
  have Hb := hid hb
  obtain ⟨ao, c, rfl, hlc, _, _⟩ := hb.shape
  have HN := hid (fun wx a ha hx => refgn_any (.slice ao l.length c) l a wx hl ha hx)
  have HN0 := hid (fun wx hx => HN.out wx 0 (by omega) hx)
  rw [hr] at HN0
  have k8 : IntKind.i64.wrap (8 * (l.length : Int)) = 8 * (l.length : Int) := IntWalk.i64_in _ (by omega)
  have km1 : decide ((many : Int) < 1) = false := decide_eq_false (by omega)
  have km2 : decide (120 < (many : Int)) = false := decide_eq_false (by omega)
  have kmw : IntKind.i64.wrap (many : Int) = (many : Int) := IntWalk.i64_in _ (by omega)
  clear hb hr
  go_enter Try.func24, Try.ntmps24
  go_wp2_with fail
  have D0 : RW w (.slice ao l.length c) l none 0 [] (w.alloc (.cells #[.slice ao l.length c, .int .i64 (8 * (l.length : Int))] 58)) :=
    ⟨(Below.refl w.heap.size w).alloc (Nat.le_refl _) _, blk_new w _ _ rfl, World.ownsRow_nil _ _ _ _⟩
  refine (HN0.out _ (Hb.out.alloc _)).mono ?_
  rintro e w1 ⟨hb1, he⟩
  subst he
  have D1 := hid (D0.below hb1)
  clear D0 hb1 HN0
  go_wp2
  go_loopw [6, 8, 9, 10, 11, 12, 13, 14, 15, 16, 17, 18] (fun av lv fv iv _ _ _ _ _ _ _ _ wr => ∃ k s far a ao1 c1, k ≤ many ∧ iv = .int .i64 ((k : Nat) : Int) ∧ fv = .int .i64 far ∧ av = .int .i64 ((a : Nat) : Int) ∧ lv = .slice ao1 s.length c1 ∧ InvR l a0 k s far a ∧ RW w (.slice ao l.length c) l ao1 c1 s wr)
    (fun _ _ _ iv _ _ _ _ _ _ _ _ _ => many - (intOf iv).toNat)
  case atStart => exact ⟨0, [], 0, a0, none, 0, Nat.zero_le _, rfl, rfl, rfl, rfl, ⟨.inl rfl, rfl, fun h => by omega, by decide, ha0⟩, D1.out⟩
  case round =>
    obtain ⟨k, s, far, a, ao1, c1, hk, rfl, rfl, rfl, rfl, hinv, hdw⟩ := hrel
    have D := hid hdw; have INV := hid hinv
    have HLN := hid hinv.len
    have hpl := hinv.place
    have hfb := hinv.far
    have hq3 := hdw.size
    clear hdw hinv
    by_cases hlt : k < many
    · have HP0 := hid (fun (x : stepR l s far a = none) => INV.out.none HR.out h1 hlt x)
      have SB := hid (fun wx (hx : RW w (.slice ao l.length c) l ao1 c1 s wx) => Hb.out.below hx.1 (fun _ _ h => h))
      obtain ⟨x0, x1, x2, x3, x4⟩ := blk2 D.out.2.1
      go_wp2_with fail
      have HC := HN.out wr a (by omega) (SB.out wr D.out)
      cases hU : rdU l a with
      | none =>
        have hdec := HP0.out (by unfold stepR; rw [hU])
        rw [hU] at HC
        refine HC.mono ?_
        rintro e w2 ⟨hb2, x, y, er, rfl, hne⟩
        have D2 := hid (D.out.below hb2)
        clear hb2 x0 x1 x2 x3 x4 HC
        go_wp2
        go_ret2
        show DecPost w (decV l) _ _
        rw [hdec]
        exact ⟨none, 0, rfl, D2.out.1, World.ownsRow_nil _ _ _ _⟩
      | some q1 =>
        obtain ⟨u, b⟩ := q1
        have hk1 := rdU_ok hU
        have hu0 := hk1.1
        have hu1 := hk1.2.1
        have hvb := hk1.2.2.1
        rw [hU] at HC
        refine HC.mono ?_
        rintro e w2 ⟨hb2, he⟩
        subst he
        have D2 := hid (D.out.below hb2)
        clear hb2 x0 x1 x2 x3 x4 HC hk1
        obtain ⟨x0, x1, x2, x3, x4⟩ := blk2 D2.out.2.1
        go_wp2_with fail
        have HC := HN.out w2 b (by omega) (SB.out w2 D2.out)
        cases hV : rdU l b with
        | none =>
          have hdec := HP0.out (by unfold stepR; rw [hU]; simp only; rw [hV])
          rw [hV] at HC
          refine HC.mono ?_
          rintro e w3 ⟨hb3, x, y, er, rfl, hne⟩
          have D3 := hid (D2.out.below hb3)
          clear hb3 x0 x1 x2 x3 x4 HC
          go_wp2
          go_ret2
          show DecPost w (decV l) _ _
          rw [hdec]
          exact ⟨none, 0, rfl, D3.out.1, World.ownsRow_nil _ _ _ _⟩
        | some q2 =>
          obtain ⟨v, c2⟩ := q2
          have hk2 := rdU_ok hV
          have hvc := hk2.2.2.1
          have zr := zag_range v hk2.1 hk2.2.1
          have HZ := hid (fun wx => refZag_any v wx hk2.1 hk2.2.1)
          rw [hV] at HC
          refine HC.mono ?_
          rintro e w3 ⟨hb3, he⟩
          subst he
          have D3 := hid (D2.out.below hb3)
          clear hb3 x0 x1 x2 x3 x4 HC D2 hk2
          obtain ⟨x0, x1, x2, x3, x4⟩ := blk2 D3.out.2.1
          obtain ⟨tu, htu⟩ : ∃ tu, tu = IntKind.i64.wrap u := ⟨_, rfl⟩
          have ktu : IntKind.i64.wrap u = tu := htu.symm
          have HTU := hid htu
          clear htu
          have HS := hid (show ∀ t, tR s.length u = t → stepR l s far a = if badR t (zag v) = true then none else if mayB (xR s far t (zag v)).1 (xR s far t (zag v)).2 = false then none else some (s ++ [xR s far t (zag v)], fR s far t, c2) from by
            intro t ht
            unfold stepR; rw [hU]; simp only; rw [hV]; simp only; rw [ht])
          go_wp2_with fail
          refine (HZ.out w3).mono ?_
          rintro e wz ⟨rfl, hwz⟩
          subst wz
          obtain ⟨n, hn⟩ : ∃ n, n = zag v := ⟨_, rfl⟩
          rw [← hn] at HS zr ⊢
          have HNV := hid hn
          clear hn HZ
          have hnone := fun t (ht : tR s.length u = t) (hb : badR t n = true) => (HS.out t ht).trans (if_pos hb)
          have hmayf := fun t (ht : tR s.length u = t) (hb : badR t n = false) (hm : mayB (xR s far t n).1 (xR s far t n).2 = false) => (HS.out t ht).trans ((if_neg (by rw [hb]; simp)).trans (if_pos hm))
          have hmayt := fun t (ht : tR s.length u = t) (hb : badR t n = false) (hm : mayB (xR s far t n).1 (xR s far t n).2 = true) => (HS.out t ht).trans ((if_neg (by rw [hb]; simp)).trans (if_neg (by rw [hm]; simp)))
          have HNO := hid hnone; have HMF := hid hmayf; have HMT := hid hmayt
          clear hnone hmayf hmayt
          rcases Nat.eq_zero_or_pos k with h0k | h0k
          · have h0 : s.length = 0 := by have := HLN.out; omega
            have hk1 : decide ((1 : Int) < (k : Int)) = false := decide_eq_false (by omega)
            have hk1' : decide (1 < k) = false := decide_eq_false (by omega)
            have hk2 : decide ((0 : Int) < (k : Int)) = false := decide_eq_false (by omega)
            have hk2' : decide (0 < k) = false := decide_eq_false (by omega)
            obtain ⟨t, ht⟩ : ∃ t, t = tu := ⟨_, rfl⟩
            subst ht
            have hTR : tR s.length u = t := by unfold tR; rw [if_neg (by omega)]; exact HTU.out.symm
            obtain ⟨f, hf⟩ : ∃ f, f = far := ⟨_, rfl⟩
            obtain ⟨X, hX⟩ : ∃ X, X = t := ⟨_, rfl⟩
            obtain ⟨Y, hY⟩ : ∃ Y, Y = n := ⟨_, rfl⟩
            have hxR : xR s far t n = (X, Y) := by unfold xR; rw [if_pos h0, hX, hY]
            have hfR : fR s far t = f := by unfold fR; rw [if_pos h0, hf]
            have HS1 := hid (fun hb => HNO.out t hTR hb)
            have HMF2 := hid (fun hb => HMF.out t hTR hb); have HMT2 := hid (fun hb => HMT.out t hTR hb)
            rw [hxR] at HMF2 HMT2
            rw [hfR] at HMT2
            have HFF := hid hf
            clear h0k h0 hTR hxR hfR hf
            rcases Bool.eq_false_or_eq_true (decide (t < -1099511627776)) with r1 | r1
            · have hdec := HP0.out (HS1.out (by unfold badR; rw [r1]; simp))
              go_wp2
              go_ret2
              show DecPost w (decV l) _ _
              rw [hdec]
              exact ⟨none, 0, rfl, D3.out.1, World.ownsRow_nil _ _ _ _⟩
            rcases Bool.eq_false_or_eq_true (decide (1099511627776 < t)) with r2 | r2
            · have hdec := HP0.out (HS1.out (by unfold badR; rw [r1, r2]; simp))
              go_wp2
              go_ret2
              show DecPost w (decV l) _ _
              rw [hdec]
              exact ⟨none, 0, rfl, D3.out.1, World.ownsRow_nil _ _ _ _⟩
            rcases Bool.eq_false_or_eq_true (decide (n < -2305843009213693952)) with r3 | r3
            · have hdec := HP0.out (HS1.out (by unfold badR; rw [r1, r2, r3]; simp))
              go_wp2
              go_ret2
              show DecPost w (decV l) _ _
              rw [hdec]
              exact ⟨none, 0, rfl, D3.out.1, World.ownsRow_nil _ _ _ _⟩
            rcases Bool.eq_false_or_eq_true (decide (2305843009213693952 < n)) with r4 | r4
            · have hdec := HP0.out (HS1.out (by unfold badR; rw [r1, r2, r3, r4]; simp))
              go_wp2
              go_ret2
              show DecPost w (decV l) _ _
              rw [hdec]
              exact ⟨none, 0, rfl, D3.out.1, World.ownsRow_nil _ _ _ _⟩
            have hbr := hid (badR_false.1 (show badR t n = false by unfold badR; rw [r1, r2, r3, r4]; rfl))
            have HS2 := hid (HMF2.out (badR_false.2 hbr.out)); have HS3 := hid (HMT2.out (badR_false.2 hbr.out))
            have B6 := hid (show (w3.alloc (.cells #[.int .i64 X, .int .i64 Y] 40)).heap[w3.heap.size]? = _ from blk_new w3 _ _ rfl)
            have D6 := hid (D3.out.alloc (.cells #[.int .i64 X, .int .i64 Y] 40))
            rw [hX, hY] at B6 D6
            go_wp2_with fail
            rw [← hX, ← hY] at B6 D6 ⊢
            clear x0 x1 x2 x3 x4 hX hY
            generalize w3.alloc (.cells #[.int .i64 X, .int .i64 Y] 40) = w6 at *
            refine (refMay_any X Y w6).mono ?_
            rintro e w7 ⟨rfl, hb7⟩
            have D7 := hid (D6.out.below hb7)
            have B7 := hid (blk_below B6.out hb7 (lt_of_blk B6.out))
            clear hb7 D6 B6
            obtain ⟨b0, b1, b2, b3, b4⟩ := blk2 B7.out
            rcases Bool.eq_false_or_eq_true (mayB X Y) with hm | hm
            · rw [hm]
              have hmm := mayB_iff.1 hm
              have hnx := hid (INV.out.next HR.out h1 hlt (HS3.out hm) hm (by have := hbr.out; have := HFF.out; omega) hvc)
              have s7 := D7.out.size
              clear hm hmm
              go_wp2_with (at_builtin; refine wpList_appM rfl _ _ rfl (w.heap.size + 1) (.slice ao1 s.length c1) s.length s rfl D7.out.2.2 (X, Y) _ rfl rfl (by have := HLN.out; omega) s7 ?_; intro g8 c8 w8 hown8 hgrow8 hbel8 sz8; have D8 := hid (RW.push D7.out (X, Y) hgrow8 hown8); clear hown8 hgrow8 hbel8)
              go_roundw
              case rel => exact ⟨k + 1, s ++ [(X, Y)], f, c2, some ⟨g8, 0, none⟩, c8, hlt, by go_num, by rw [HFF.out], rfl, by simp, hnx.out, D8.out⟩
              case measure => simp [intOf]; omega
            · rw [hm]
              have hdec := HP0.out (HS2.out hm)
              go_wp2
              go_ret2
              show DecPost w (decV l) _ _
              rw [hdec]
              exact ⟨none, 0, rfl, D7.out.1, World.ownsRow_nil _ _ _ _⟩
          obtain ⟨j, rfl⟩ : ∃ j, k = j + 1 := ⟨k - 1, by omega⟩
          have hjs : j < s.length := by have := HLN.out; omega
          obtain ⟨g1, o1, hao1, _, _⟩ := sc_cells (Sl.own D.out.2.2) (by omega)
          subst hao1
          have hlb := INV.out.last (by omega)
          have hlp : lastP s = s.getD j (0, 0) := by unfold lastP; rw [HLN.out]; rfl
          rw [hlp] at hlb
          obtain ⟨tp, htp⟩ : ∃ x, x = (s.getD j (0, 0)).1 := ⟨_, rfl⟩
          obtain ⟨vp, hvp⟩ : ∃ x, x = (s.getD j (0, 0)).2 := ⟨_, rfl⟩
          have HTP := hid htp; have HVP := hid hvp
          have HLT := hid (show (lastP s).1 = tp by rw [hlp, htp])
          have HLP := hid (show (lastP s).2 = vp by rw [hlp, hvp])
          rw [← htp, ← hvp] at hlb
          clear hlp htp hvp
          have hk2 : decide ((0 : Int) < (j : Int) + 1) = true := decide_eq_true (by omega)
          have i0 : (0 : Int) ≤ (j : Int) := by omega
          have i1 : (j : Int) < (s.length : Int) := by omega
          have hln : s.length = j + 1 := HLN.out
          have kj : IntKind.i64.wrap (j : Int) = (j : Int) := IntWalk.i64_in _ (by omega)
          have kz : IntKind.i64.wrap 0 = 0 := by decide
          have kfar : IntKind.i64.wrap far = far := IntWalk.i64_in _ (by omega)
          by_cases hj0 : j = 0
          · have hk1 : decide ((1 : Int) < (j : Int) + 1) = false := decide_eq_false (by omega)
            obtain ⟨t, ht⟩ : ∃ t, t = tu := ⟨_, rfl⟩
            subst ht
            have hTR : tR s.length u = t := by unfold tR; rw [if_neg (by omega)]; exact HTU.out.symm
            obtain ⟨f, hf⟩ : ∃ f, f = t := ⟨_, rfl⟩
            have hfR : fR s far t = f := by unfold fR; rw [if_neg (by omega), if_pos (by omega), hf]
            have hmin : min (j : Int) 1 = 0 := by omega
            have HTF := hid hf
            have htr : -9223372036854775808 ≤ t ∧ t ≤ 9223372036854775807 := by rw [HTU.out, IntKind.wrap_i64]; omega
            obtain ⟨X, hX⟩ : ∃ X, X = tp + f := ⟨_, rfl⟩
            obtain ⟨Y, hY⟩ : ∃ Y, Y = vp + n := ⟨_, rfl⟩
            have hxR : xR s far t n = (X, Y) := by unfold xR; rw [if_neg (by omega), hfR, HLT.out, HLP.out, hX, hY]
            have HS1 := hid (fun hb => HNO.out t hTR hb)
            have HMF2 := hid (fun hb => HMF.out t hTR hb); have HMT2 := hid (fun hb => HMT.out t hTR hb)
            rw [hxR] at HMF2 HMT2
            rw [hfR] at HMT2
            have HX := hid hX; have HY := hid hY
            clear hln hj0 hTR hxR hfR hf  hX hY
            rcases Bool.eq_false_or_eq_true (decide (t < -1099511627776)) with r1 | r1
            · have hdec := HP0.out (HS1.out (by unfold badR; rw [r1]; simp))
              go_wp2
              go_ret2
              show DecPost w (decV l) _ _
              rw [hdec]
              exact ⟨none, 0, rfl, D3.out.1, World.ownsRow_nil _ _ _ _⟩
            rcases Bool.eq_false_or_eq_true (decide (1099511627776 < t)) with r2 | r2
            · have hdec := HP0.out (HS1.out (by unfold badR; rw [r1, r2]; simp))
              go_wp2
              go_ret2
              show DecPost w (decV l) _ _
              rw [hdec]
              exact ⟨none, 0, rfl, D3.out.1, World.ownsRow_nil _ _ _ _⟩
            rcases Bool.eq_false_or_eq_true (decide (n < -2305843009213693952)) with r3 | r3
            · have hdec := HP0.out (HS1.out (by unfold badR; rw [r1, r2, r3]; simp))
              go_wp2
              go_ret2
              show DecPost w (decV l) _ _
              rw [hdec]
              exact ⟨none, 0, rfl, D3.out.1, World.ownsRow_nil _ _ _ _⟩
            rcases Bool.eq_false_or_eq_true (decide (2305843009213693952 < n)) with r4 | r4
            · have hdec := HP0.out (HS1.out (by unfold badR; rw [r1, r2, r3, r4]; simp))
              go_wp2
              go_ret2
              show DecPost w (decV l) _ _
              rw [hdec]
              exact ⟨none, 0, rfl, D3.out.1, World.ownsRow_nil _ _ _ _⟩
            have hbr := hid (badR_false.1 (show badR t n = false by unfold badR; rw [r1, r2, r3, r4]; rfl))
            have HS2 := hid (HMF2.out (badR_false.2 hbr.out)); have HS3 := hid (HMT2.out (badR_false.2 hbr.out))
            have kt : IntKind.i64.wrap t = t := IntWalk.i64_in _ htr
            have hft : f = t := HTF.out
            have kX : IntKind.i64.wrap (tp + t) = X := by rw [HX.out, HTF.out]; exact IntWalk.i64_in _ (by have := hbr.out; omega)
            have kY : IntKind.i64.wrap (vp + n) = Y := by rw [HY.out]; exact IntWalk.i64_in _ (by have := hbr.out; omega)
            have B4 := hid (show (w3.alloc (.cells #[.int .i64 t, .int .i64 n] 40)).heap[w3.heap.size]? = _ from blk_new w3 _ _ rfl)
            have D4 := hid (D3.out.alloc (.cells #[.int .i64 t, .int .i64 n] 40))
            have hob : (Value.slice (some ⟨g1, o1, none⟩) s.length c1).ownBlock ≠ some w3.heap.size := by intro h; have := (D3.out.2.2.lt _ h).2; omega
            have hq4 := D3.out.size
            clear hft
            go_wp2_with fail
            clear x0 x1 x2 x3 x4
            obtain ⟨b0, b1, b2, b3, b4⟩ := blk2 B4.out
            have hct := D4.out.cell j hjs
            rw [← HTP.out, ← HVP.out] at hct
            have hct0 := hct.1; have hct1 := hct.2
            generalize w3.alloc (.cells #[.int .i64 t, .int .i64 n] 40) = w4 at *
            go_still_tail 17, (by kernel_rfl)
            change wpList _ _ _ _ _ w4.drew
            have D5 := hid (show RW w (.slice ao l.length c) l (some ⟨g1, o1, none⟩) c1 s w4.drew from D4.out.drewN 1)
            have B5 := hid (show w4.drew.heap[w3.heap.size]? = _ from B4.out)
            clear b0 b1 b2 b3 b4 hct hct0 hct1
            generalize w4.drew = w5 at *
            obtain ⟨b0, b1, b2, b3, b4⟩ := blk2 B5.out
            have D6 := hid ((D5.out.setCell w3.heap.size 0 (.int .i64 X) (by omega) hob).setCell w3.heap.size 1 (.int .i64 Y) (by omega) hob)
            have B6 := hid (show ((w5.setCell ⟨w3.heap.size, 0, none⟩ (.int .i64 X)).setCell ⟨w3.heap.size, 1, none⟩ (.int .i64 Y)).heap[w3.heap.size]? = some (.cells #[.int .i64 X, .int .i64 Y] 40 (0, 0)) from by have := blk_setCell (blk_setCell B5.out 0 (.int .i64 X)) 1 (.int .i64 Y); simpa using this)
            go_wp2_with fail
            clear b0 b1 b2 b3 b4
            generalize (w5.setCell ⟨w3.heap.size, 0, none⟩ (.int .i64 X)).setCell ⟨w3.heap.size, 1, none⟩ (.int .i64 Y) = w6 at *
            refine (refMay_any X Y w6).mono ?_
            rintro e w7 ⟨rfl, hb7⟩
            have D7 := hid (D6.out.below hb7)
            have B7 := hid (blk_below B6.out hb7 (lt_of_blk B6.out))
            clear hb7 D6 B6
            obtain ⟨b0, b1, b2, b3, b4⟩ := blk2 B7.out
            rcases Bool.eq_false_or_eq_true (mayB X Y) with hm | hm
            · rw [hm]
              have hmm := mayB_iff.1 hm
              have hnx := hid (INV.out.next HR.out h1 hlt (HS3.out hm) hm (by have := hbr.out; have := HX.out; have := HTF.out; omega) hvc)
              have s7 := D7.out.size
              clear hm hmm
              go_wp2_with (at_builtin; refine wpList_appM rfl _ _ rfl (w.heap.size + 1) (.slice (some ⟨g1, o1, none⟩) s.length c1) s.length s rfl D7.out.2.2 (X, Y) _ rfl rfl (by have := HLN.out; omega) s7 ?_; intro g8 c8 w8 hown8 hgrow8 hbel8 sz8; have D8 := hid (RW.push D7.out (X, Y) hgrow8 hown8); clear hown8 hgrow8 hbel8)
              go_roundw
              case rel => exact ⟨j + 1 + 1, s ++ [(X, Y)], f, c2, some ⟨g8, 0, none⟩, c8, hlt, by go_num, by rw [HTF.out], rfl, by simp, hnx.out, D8.out⟩
              case measure => simp [intOf]; omega
            · rw [hm]
              have hdec := HP0.out (HS2.out hm)
              go_wp2
              go_ret2
              show DecPost w (decV l) _ _
              rw [hdec]
              exact ⟨none, 0, rfl, D7.out.1, World.ownsRow_nil _ _ _ _⟩
          · have hk1 : decide ((1 : Int) < (j : Int) + 1) = true := decide_eq_true (by omega)
            obtain ⟨t, ht⟩ : ∃ t, t = zag u := ⟨_, rfl⟩
            have HZU := hid (fun wx => refZag_any u wx hu0 hu1)
            have zru := zag_range u hu0 hu1
            rw [← ht] at HZU zru
            have hTR : tR s.length u = t := by unfold tR; rw [if_pos (by omega), ht]
            obtain ⟨f, hf⟩ : ∃ f, f = far + t := ⟨_, rfl⟩
            have hfR : fR s far t = f := by unfold fR; rw [if_neg (by omega), if_neg (by omega), hf]
            have hmin : min (j : Int) 1 = 1 := by omega
            have HTF := hid hf
            have htr := zru
            obtain ⟨X, hX⟩ : ∃ X, X = tp + f := ⟨_, rfl⟩
            obtain ⟨Y, hY⟩ : ∃ Y, Y = vp + n := ⟨_, rfl⟩
            have hxR : xR s far t n = (X, Y) := by unfold xR; rw [if_neg (by omega), hfR, HLT.out, HLP.out, hX, hY]
            have HS1 := hid (fun hb => HNO.out t hTR hb)
            have HMF2 := hid (fun hb => HMF.out t hTR hb); have HMT2 := hid (fun hb => HMT.out t hTR hb)
            rw [hxR] at HMF2 HMT2
            rw [hfR] at HMT2
            have HX := hid hX; have HY := hid hY
            clear hln hj0 hTR hxR hfR hf ht hX hY
            go_wp2_with fail
            refine (HZU.out w3).mono ?_
            rintro e wz ⟨rfl, hwz⟩
            subst wz
            clear HZU
            rcases Bool.eq_false_or_eq_true (decide (t < -1099511627776)) with r1 | r1
            · have hdec := HP0.out (HS1.out (by unfold badR; rw [r1]; simp))
              go_wp2
              go_ret2
              show DecPost w (decV l) _ _
              rw [hdec]
              exact ⟨none, 0, rfl, D3.out.1, World.ownsRow_nil _ _ _ _⟩
            rcases Bool.eq_false_or_eq_true (decide (1099511627776 < t)) with r2 | r2
            · have hdec := HP0.out (HS1.out (by unfold badR; rw [r1, r2]; simp))
              go_wp2
              go_ret2
              show DecPost w (decV l) _ _
              rw [hdec]
              exact ⟨none, 0, rfl, D3.out.1, World.ownsRow_nil _ _ _ _⟩
            rcases Bool.eq_false_or_eq_true (decide (n < -2305843009213693952)) with r3 | r3
            · have hdec := HP0.out (HS1.out (by unfold badR; rw [r1, r2, r3]; simp))
              go_wp2
              go_ret2
              show DecPost w (decV l) _ _
              rw [hdec]
              exact ⟨none, 0, rfl, D3.out.1, World.ownsRow_nil _ _ _ _⟩
            rcases Bool.eq_false_or_eq_true (decide (2305843009213693952 < n)) with r4 | r4
            · have hdec := HP0.out (HS1.out (by unfold badR; rw [r1, r2, r3, r4]; simp))
              go_wp2
              go_ret2
              show DecPost w (decV l) _ _
              rw [hdec]
              exact ⟨none, 0, rfl, D3.out.1, World.ownsRow_nil _ _ _ _⟩
            have hbr := hid (badR_false.1 (show badR t n = false by unfold badR; rw [r1, r2, r3, r4]; rfl))
            have HS2 := hid (HMF2.out (badR_false.2 hbr.out)); have HS3 := hid (HMT2.out (badR_false.2 hbr.out))
            have kt : IntKind.i64.wrap t = t := IntWalk.i64_in _ htr
            have kf : IntKind.i64.wrap (far + t) = f := by rw [HTF.out]; exact IntWalk.i64_in _ (by have := hbr.out; omega)
            have kX : IntKind.i64.wrap (tp + f) = X := by rw [HX.out]; exact IntWalk.i64_in _ (by have := hbr.out; have hF := HTF.out; omega)
            have kY : IntKind.i64.wrap (vp + n) = Y := by rw [HY.out]; exact IntWalk.i64_in _ (by have := hbr.out; omega)
            have B4 := hid (show (w3.alloc (.cells #[.int .i64 t, .int .i64 n] 40)).heap[w3.heap.size]? = _ from blk_new w3 _ _ rfl)
            have D4 := hid (D3.out.alloc (.cells #[.int .i64 t, .int .i64 n] 40))
            have hob : (Value.slice (some ⟨g1, o1, none⟩) s.length c1).ownBlock ≠ some w3.heap.size := by intro h; have := (D3.out.2.2.lt _ h).2; omega
            have hq4 := D3.out.size
            go_wp2_with fail
            clear x0 x1 x2 x3 x4
            obtain ⟨b0, b1, b2, b3, b4⟩ := blk2 B4.out
            have hct := D4.out.cell j hjs
            rw [← HTP.out, ← HVP.out] at hct
            have hct0 := hct.1; have hct1 := hct.2
            generalize w3.alloc (.cells #[.int .i64 t, .int .i64 n] 40) = w4 at *
            go_still_tail 17, (by kernel_rfl)
            change wpList _ _ _ _ _ w4.drew
            have D5 := hid (show RW w (.slice ao l.length c) l (some ⟨g1, o1, none⟩) c1 s w4.drew from D4.out.drewN 1)
            have B5 := hid (show w4.drew.heap[w3.heap.size]? = _ from B4.out)
            clear b0 b1 b2 b3 b4 hct hct0 hct1
            generalize w4.drew = w5 at *
            obtain ⟨b0, b1, b2, b3, b4⟩ := blk2 B5.out
            have D6 := hid ((D5.out.setCell w3.heap.size 0 (.int .i64 X) (by omega) hob).setCell w3.heap.size 1 (.int .i64 Y) (by omega) hob)
            have B6 := hid (show ((w5.setCell ⟨w3.heap.size, 0, none⟩ (.int .i64 X)).setCell ⟨w3.heap.size, 1, none⟩ (.int .i64 Y)).heap[w3.heap.size]? = some (.cells #[.int .i64 X, .int .i64 Y] 40 (0, 0)) from by have := blk_setCell (blk_setCell B5.out 0 (.int .i64 X)) 1 (.int .i64 Y); simpa using this)
            go_wp2_with fail
            clear b0 b1 b2 b3 b4
            generalize (w5.setCell ⟨w3.heap.size, 0, none⟩ (.int .i64 X)).setCell ⟨w3.heap.size, 1, none⟩ (.int .i64 Y) = w6 at *
            refine (refMay_any X Y w6).mono ?_
            rintro e w7 ⟨rfl, hb7⟩
            have D7 := hid (D6.out.below hb7)
            have B7 := hid (blk_below B6.out hb7 (lt_of_blk B6.out))
            clear hb7 D6 B6
            obtain ⟨b0, b1, b2, b3, b4⟩ := blk2 B7.out
            rcases Bool.eq_false_or_eq_true (mayB X Y) with hm | hm
            · rw [hm]
              have hmm := mayB_iff.1 hm
              have hnx := hid (INV.out.next HR.out h1 hlt (HS3.out hm) hm (by have := hbr.out; have := HX.out; have := HTF.out; omega) hvc)
              have s7 := D7.out.size
              clear hm hmm
              go_wp2_with (at_builtin; refine wpList_appM rfl _ _ rfl (w.heap.size + 1) (.slice (some ⟨g1, o1, none⟩) s.length c1) s.length s rfl D7.out.2.2 (X, Y) _ rfl rfl (by have := HLN.out; omega) s7 ?_; intro g8 c8 w8 hown8 hgrow8 hbel8 sz8; have D8 := hid (RW.push D7.out (X, Y) hgrow8 hown8); clear hown8 hgrow8 hbel8)
              go_roundw
              case rel => exact ⟨j + 1 + 1, s ++ [(X, Y)], f, c2, some ⟨g8, 0, none⟩, c8, hlt, by go_num, rfl, rfl, by simp, hnx.out, D8.out⟩
              case measure => simp [intOf]; omega
            · rw [hm]
              have hdec := HP0.out (HS2.out hm)
              go_wp2
              go_ret2
              show DecPost w (decV l) _ _
              rw [hdec]
              exact ⟨none, 0, rfl, D7.out.1, World.ownsRow_nil _ _ _ _⟩
    · obtain rfl : k = many := by omega
      have hfin := INV.out.fin HR.out h1
      have hso := D.out.2.2
      have hE := refEncode_any (.slice ao1 s.length c1) s wr (by have := HLN.out; omega) (Sl.own hso)
      have hEl := enc_len s
      have HF := hid hfin; have HE := hid hE
      clear hfin hE hso hlt
      obtain ⟨F, er, hFe⟩ : ∃ F er, encV s = (F, er) := ⟨_, _, rfl⟩
      rw [hFe] at HF HE hEl
      simp only at hEl
      rcases Bool.eq_false_or_eq_true (er != 0) with he | he
      · have hd2 : decV l = ([], 5) := by rw [HF.out, if_neg]; intro hh; simp only [Prod.mk.injEq] at hh; rw [hh.2] at he; simp at he
        clear hFe
        go_wp2_with fail
        refine HE.out.mono ?_
        rintro e w9 ⟨ao9, c9, rfl, hb9, hown9⟩
        have L9 := hid (D.out.below hb9)
        clear hb9 hown9
        go_wp2
        go_ret2
        show DecPost w (decV l) _ _
        rw [hd2]
        exact ⟨none, 0, rfl, L9.out.1, World.ownsRow_nil _ _ _ _⟩
      · have her : er = 0 := by simpa using he
        subst her
        clear he hFe
        by_cases hFl : F = l
        · have hd2 : decV l = (s, 0) := by rw [HF.out, if_pos (by rw [hFl])]
          have HD2 := hid hd2
          clear hd2
          go_wp2_with fail
          refine HE.out.mono ?_
          rintro e w9 ⟨ao9, c9, rfl, hb9, hown9⟩
          have D9 := hid (D.out.below hb9)
          have q1 := run_convert_sl (P := Try.prog) w9 24 9 5 Try.underlying24 Try.underlying5 Try.underlying9 (Sl.own hown9)
          have q2 := run_convert_sl (P := Try.prog) w9 24 9 5 Try.underlying24 Try.underlying5 Try.underlying9 (Hb.out.below D9.out.1 (fun _ _ h => h))
          subst hFl
          clear hb9 hown9
          go_wp2
          go_ret2
          show DecPost w (decV F) _ _
          rw [HD2.out]
          exact ⟨ao1, c1, rfl, D9.out.1, own_base D9.out.2.2 (show w.heap.size ≤ w.heap.size + 1 by omega)⟩
        · have hd2 : decV l = ([], 5) := by rw [HF.out, if_neg]; intro hh; simp only [Prod.mk.injEq] at hh; exact hFl hh.1
          have hne : (F == l) = false := by simpa using hFl
          have HD2 := hid hd2
          clear hd2 hFl
          go_wp2_with fail
          refine HE.out.mono ?_
          rintro e w9 ⟨ao9, c9, rfl, hb9, hown9⟩
          have D9 := hid (D.out.below hb9)
          have q1 := run_convert_sl (P := Try.prog) w9 24 9 5 Try.underlying24 Try.underlying5 Try.underlying9 (Sl.own hown9)
          have q2 := run_convert_sl (P := Try.prog) w9 24 9 5 Try.underlying24 Try.underlying5 Try.underlying9 (Hb.out.below D9.out.1 (fun _ _ h => h))
          clear hb9 hown9
          go_wp2
          go_ret2
          show DecPost w (decV l) _ _
          rw [HD2.out]
          exact ⟨none, 0, rfl, D9.out.1, World.ownsRow_nil _ _ _ _⟩
end Go.Proofs.Ytcnfhabljogniaa
