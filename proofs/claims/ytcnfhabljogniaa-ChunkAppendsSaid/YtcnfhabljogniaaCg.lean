/- chunk's reader, where there is nothing to read; chunk.Decode(nil). -/
import Derived.Test.YtcnfhabljogniaaCe
import Derived.Recover
import Derived.Deep.RegionHeld3
namespace Go.Proofs.Ytcnfhabljogniaa
open Go.RowKit
set_option linter.unusedSimpArgs false

/-- what a reader gives up with -/
def brk : List PanicEntry := [{ v := .iface 69 (.agg #[]), recovered := false }]

/-- a reader at block p -/
def Rd (p : Nat) (bv : Value) (l : List UInt8) (at_ : Nat) (w : World) : Prop :=
  w.heap[p]? = some (.cells #[bv, .int .i64 ((8 * l.length : Nat) : Int), .int .i64 (at_ : Int)] 73 (0, 0))

theorem rd_cells {p : Nat} {a b c : Value} {t : TypeId} {w : World} (h : w.heap[p]? = some (.cells #[a, b, c] t (0, 0))) : w.cell? ⟨p, 0, none⟩ = some a ∧ w.cell? ⟨p, 1, none⟩ = some b ∧ w.cell? ⟨p, 2, none⟩ = some c := by
  have c0 := cell_of_blk h 0; have c1 := cell_of_blk h 1; have c2 := cell_of_blk h 2
  simp only [List.getElem?_toArray, List.getElem?_cons_zero, List.getElem?_cons_succ] at c0 c1 c2
  exact ⟨c0, c1, c2⟩

set_option maxRecDepth 100000 in
set_option maxHeartbeats 1000000 in
theorem rnum_bad (p : Nat) (bv : Value) (l : List UInt8) (at_ : Nat) (u : Nat) (a : Int) (er : Int) (w : World) (hl : l.length ≤ 150000000000000) (ha : at_ ≤ 1300000000000000) (hb : Sl w 1 bv l.length (bc l)) (h : Rd p bv l at_ w)
    (hg : getNumV l ((8 * l.length : Nat) : Int) (at_ : Int) = (u, a, er)) (he : er ≠ 0) :
    Calls Try.prog 36 #[.pointer (some ⟨p, 0, none⟩)] w fun e w' => e = .panicked brk ∧ Below w.heap.size w w' := by
  unfold Rd at h
  have HP := hid h
  have HG := hid (fun wx (hx : Sl wx 1 bv l.length (bc l)) => by have h := getNum_any bv l wx (by omega) hx ((8 * l.length : Nat) : Int) (at_ : Int) (by omega) (by omega) (by omega) (by omega); rw [hg] at h; exact h)
  have Hb := hid hb
  have hd : (er != 0) = true := by simpa using he
  have c0 := cell_of_blk h 0; have c1 := cell_of_blk h 1; have c2 := cell_of_blk h 2
  have f0 := free_of_blk h 0; have f1 := free_of_blk h 1; have f2 := free_of_blk h 2
  simp only [List.getElem?_toArray, List.getElem?_cons_zero, List.getElem?_cons_succ] at c0 c1 c2
  clear h hb hg he
  go_enter Try.func36, Try.ntmps36
  have hlp := lt_of_blk HP.out
  have Hd := hid Hb.out.drew
  go_wp2_with fail
  go_region_held3 (fun w' => w'.cell? ⟨p, 0, none⟩ = some bv ∧ w'.cell? ⟨p, 1, none⟩ = some (.int .i64 ((8 * l.length : Nat) : Int)) ∧ w'.cell? ⟨p, 2, none⟩ = some (.int .i64 (at_ : Int)))
    (first | exact hS | go_keep)
    ((go_at_call 47; refine (HG.out w.drew Hd.out).mono ?_; rintro e w1 ⟨rfl, hb1⟩; have L1 := hid (show Below w.heap.size w w1 from (Below_drewN (Below.refl w.heap.size w) 1).trans hb1); have hS : w1.cell? ⟨p, 0, none⟩ = some bv ∧ w1.cell? ⟨p, 1, none⟩ = some (.int .i64 ((8 * l.length : Nat) : Int)) ∧ w1.cell? ⟨p, 2, none⟩ = some (.int .i64 (at_ : Int)) := rd_cells (blk_below HP.out L1.out hlp); clear hb1))
  go_wp2
  exact ⟨rfl, rfl, L1.out⟩

set_option maxRecDepth 100000 in
set_option maxHeartbeats 1000000 in
theorem rnum_good (p : Nat) (bv : Value) (l : List UInt8) (at_ : Nat) (u : Nat) (a : Nat) (w : World) (hl : l.length ≤ 150000000000000) (ha : at_ ≤ 1300000000000000) (hb : Sl w 1 bv l.length (bc l)) (h : Rd p bv l at_ w)
    (hg : getNumV l ((8 * l.length : Nat) : Int) (at_ : Int) = (u, (a : Int), 0)) :
    Calls Try.prog 36 #[.pointer (some ⟨p, 0, none⟩)] w fun e w' => e = .returned (.int .u64 (u : Int)) ∧ w.grownBy w' (some p) ∧ Rd p bv l a w' := by
  unfold Rd at h ⊢
  have HP := hid h
  have HG := hid (fun wx (hx : Sl wx 1 bv l.length (bc l)) => by have h := getNum_any bv l wx (by omega) hx ((8 * l.length : Nat) : Int) (at_ : Int) (by omega) (by omega) (by omega) (by omega); rw [hg] at h; exact h)
  have Hb := hid hb
  have c0 := cell_of_blk h 0; have c1 := cell_of_blk h 1; have c2 := cell_of_blk h 2
  have f0 := free_of_blk h 0; have f1 := free_of_blk h 1; have f2 := free_of_blk h 2
  simp only [List.getElem?_toArray, List.getElem?_cons_zero, List.getElem?_cons_succ] at c0 c1 c2
  clear h hb hg
  go_enter Try.func36, Try.ntmps36
  have hlp := lt_of_blk HP.out
  have Hd := hid Hb.out.drew
  go_wp2_with fail
  go_region_held3 (fun w' => w'.cell? ⟨p, 0, none⟩ = some bv ∧ w'.cell? ⟨p, 1, none⟩ = some (.int .i64 ((8 * l.length : Nat) : Int)) ∧ w'.cell? ⟨p, 2, none⟩ = some (.int .i64 (at_ : Int)))
    (first | exact hS | go_keep)
    ((go_at_call 47; refine (HG.out w.drew Hd.out).mono ?_; rintro e w1 ⟨rfl, hb1⟩; have L1 := hid (show Below w.heap.size w w1 from (Below_drewN (Below.refl w.heap.size w) 1).trans hb1); have hS : w1.cell? ⟨p, 0, none⟩ = some bv ∧ w1.cell? ⟨p, 1, none⟩ = some (.int .i64 ((8 * l.length : Nat) : Int)) ∧ w1.cell? ⟨p, 2, none⟩ = some (.int .i64 (at_ : Int)) := rd_cells (blk_below HP.out L1.out hlp); clear hb1))
  have P1 := blk_below HP.out L1.out hlp
  have g2 := free_of_blk P1 2
  have P1' := hid P1; clear P1
  clear f0 f1 f2 c0 c1 c2
  go_wp2
  go_ret
  refine ⟨rfl, grown_setCell ⟨L1.out.os, L1.out.tape, L1.out.output, L1.out.size, fun k hk _ => L1.out.block k hk⟩ _ _ rfl, ?_⟩
  have := blk_setCell P1'.out 2 (.int .i64 (a : Int))
  simpa using this

/-- the next number of a row of bytes, and the place behind it -/
def rdU (l : List UInt8) (a : Nat) : Option (Int × Nat) :=
  if (getNumV l ((8 * l.length : Nat) : Int) (a : Int)).2.2 = 0 then some (((getNumV l ((8 * l.length : Nat) : Int) (a : Int)).1 : Int), (getNumV l ((8 * l.length : Nat) : Int) (a : Int)).2.1.toNat) else none
def rdS (most : Int) (l : List UInt8) (a : Nat) : Option (Int × Nat) :=
  match rdU l a with
  | none => none
  | some (u, b) => if zag u < -most ∨ most < zag u then none else some (zag u, b)
def rdT (l : List UInt8) (a : Nat) : Option (Int × Nat) :=
  match rdU l a with
  | none => none
  | some (u, b) => if 1099511627776 < u then none else some (u, b)
def RPost (k : IntKind) (p : Nat) (bv : Value) (l : List UInt8) (w : World) (r : Option (Int × Nat)) (e : Ending) (w' : World) : Prop :=
  w.grownBy w' (some p) ∧ match r with
    | none => e = .panicked brk
    | some (x, a) => e = .returned (.int k x) ∧ Rd p bv l a w'

theorem getNumV_ok {l : List UInt8} {N a : Int} (h : (getNumV l N a).2.2 = 0) : 0 ≤ a ∧ a + 7 ≤ (getNumV l N a).2.1 ∧ (getNumV l N a).2.1 ≤ N ∧ (getNumV l N a).1 < 18446744073709551616 := by
  unfold getNumV at h ⊢
  by_cases h1 : (getV l N a 7).2 ≠ 0
  · rw [if_pos h1] at h; exact absurd h h1
  rw [if_neg h1] at h ⊢
  by_cases h2 : 64 < (getV l N a 7).1
  · rw [if_pos h2] at h; exact absurd h (by decide)
  rw [if_neg h2] at h ⊢
  by_cases h3 : (getV l N (a + 7) (getV l N a 7).1).2 ≠ 0
  · rw [if_pos h3] at h; exact absurd h h3
  rw [if_neg h3] at h ⊢
  by_cases h4 : Lib.bitLen (getV l N (a + 7) (getV l N a 7).1).1 ≠ (getV l N a 7).1
  · rw [if_pos h4] at h; exact absurd h (by decide)
  rw [if_neg h4]
  have k1 := getV_ok (Decidable.not_not.1 h1)
  have k2 := getV_ok (Decidable.not_not.1 h3)
  refine ⟨by omega, ?_, ?_, getV_lt _ _ _ _⟩
  · show a + 7 ≤ a + 7 + _; omega
  · show a + 7 + _ ≤ N; omega
theorem rdU_ok {l : List UInt8} {a b : Nat} {u : Int} (h : rdU l a = some (u, b)) : 0 ≤ u ∧ u < 18446744073709551616 ∧ b ≤ 8 * l.length ∧ getNumV l ((8 * l.length : Nat) : Int) (a : Int) = (u.toNat, (b : Int), 0) := by
  unfold rdU at h
  split at h
  · rename_i h0
    have := getNumV_ok h0
    simp only [Option.some.injEq, Prod.mk.injEq] at h
    obtain ⟨h1, h2⟩ := h
    refine ⟨by omega, by omega, by omega, ?_⟩
    rw [← h1, ← h2, Int.toNat_natCast, Int.toNat_of_nonneg (by omega), ← h0]
  · cases h

theorem grown_below {w w' : World} {row : Option Nat} (h : Below w.heap.size w w') : w.grownBy w' row := ⟨h.os, h.tape, h.output, h.size, fun k hk _ => h.block k hk⟩

theorem rnum_any (p : Nat) (bv : Value) (l : List UInt8) (a : Nat) (w : World) (hl : l.length ≤ 150000000000000) (ha : a ≤ 1300000000000000) (hb : Sl w 1 bv l.length (bc l)) (h : Rd p bv l a w) :
    Calls Try.prog 36 #[.pointer (some ⟨p, 0, none⟩)] w (RPost .u64 p bv l w (rdU l a)) := by
  cases hr : rdU l a with
  | none =>
    unfold rdU at hr
    split at hr
    · cases hr
    · rename_i h0
      exact (rnum_bad p bv l a _ _ _ w hl ha hb h rfl h0).mono fun e w' ⟨he, hw⟩ => ⟨grown_below hw, he⟩
  | some q =>
    obtain ⟨u, b⟩ := q
    have hk := rdU_ok hr
    refine (rnum_good p bv l a u.toNat b w hl ha hb h hk.2.2.2).mono fun e w' ⟨he, hw, hrd⟩ => ⟨hw, ?_, hrd⟩
    rw [he, Int.toNat_of_nonneg hk.1]

set_option maxRecDepth 100000 in
set_option maxHeartbeats 1000000 in
theorem rsigned_any (p : Nat) (bv : Value) (l : List UInt8) (a : Nat) (most : Int) (w : World) (hm0 : 0 ≤ most) (hm1 : most ≤ 9223372036854775807) (hl : l.length ≤ 150000000000000) (ha : a ≤ 1300000000000000) (hb : Sl w 1 bv l.length (bc l)) (h : Rd p bv l a w) :
    Calls Try.prog 35 #[.pointer (some ⟨p, 0, none⟩), .int .i64 most] w (RPost .i64 p bv l w (rdS most l a)) := by
  have HN := hid (rnum_any p bv l a w hl ha hb h)
  clear hb h
  cases hr : rdU l a with
  | none =>
    rw [show rdS most l a = none by unfold rdS; rw [hr]]
    rw [hr] at HN
    go_enter Try.func35, Try.ntmps35
    go_wp2_with fail
    refine HN.out.mono ?_
    rintro e w1 ⟨hg, he⟩
    cases he
    exact ⟨rfl, hg, rfl⟩
  | some q =>
    obtain ⟨u, b⟩ := q
    have hk := rdU_ok hr
    have HZ := hid (fun wx => zag_any u wx hk.1 hk.2.1)
    have zr := zag_range u hk.1 hk.2.1
    rw [hr] at HN
    have hS : rdS most l a = if zag u < -most ∨ most < zag u then none else some (zag u, b) := by unfold rdS; rw [hr]
    rw [hS]
    clear hr hk hS
    have kn : IntKind.i64.wrap (-most) = -most := IntWalk.i64_in _ (by omega)
    by_cases h1 : zag u < -most
    · have d1 : decide (zag u < -most) = true := decide_eq_true h1
      rw [if_pos (.inl h1)]
      generalize zag u = n at *
      clear h1
      go_enter Try.func35, Try.ntmps35
      go_wp2_with fail
      refine HN.out.mono ?_
      rintro e w1 ⟨hg, he, hrd⟩
      subst he
      have HG := hid hg; clear hg hrd
      go_wp2_with fail
      refine (HZ.out w1).mono ?_
      rintro e wz ⟨rfl, hwz⟩
      subst wz
      go_wp2
      exact ⟨rfl, HG.out, rfl⟩
    · have d1 : decide (zag u < -most) = false := decide_eq_false h1
      by_cases h2 : most < zag u
      · have d2 : decide (most < zag u) = true := decide_eq_true h2
        rw [if_pos (.inr h2)]
        generalize zag u = n at *
        clear h1 h2
        go_enter Try.func35, Try.ntmps35
        go_wp2_with fail
        refine HN.out.mono ?_
        rintro e w1 ⟨hg, he, hrd⟩
        subst he
        have HG := hid hg; clear hg hrd
        go_wp2_with fail
        refine (HZ.out w1).mono ?_
        rintro e wz ⟨rfl, hwz⟩
        subst wz
        go_wp2
        exact ⟨rfl, HG.out, rfl⟩
      · have d2 : decide (most < zag u) = false := decide_eq_false h2
        rw [if_neg (by omega)]
        generalize zag u = n at *
        clear h1 h2
        go_enter Try.func35, Try.ntmps35
        go_wp2_with fail
        refine HN.out.mono ?_
        rintro e w1 ⟨hg, he, hrd⟩
        subst he
        have HG := hid hg; have HR := hid hrd; clear hg hrd
        go_wp2_with fail
        refine (HZ.out w1).mono ?_
        rintro e wz ⟨rfl, hwz⟩
        subst wz
        go_wp2
        go_ret
        exact ⟨HG.out, rfl, HR.out⟩

set_option maxRecDepth 100000 in
set_option maxHeartbeats 1000000 in
theorem rtime_any (p : Nat) (bv : Value) (l : List UInt8) (a : Nat) (w : World) (hl : l.length ≤ 150000000000000) (ha : a ≤ 1300000000000000) (hb : Sl w 1 bv l.length (bc l)) (h : Rd p bv l a w) :
    Calls Try.prog 34 #[.pointer (some ⟨p, 0, none⟩)] w (RPost .i64 p bv l w (rdT l a)) := by
  have HN := hid (rnum_any p bv l a w hl ha hb h)
  clear hb h
  cases hr : rdU l a with
  | none =>
    rw [show rdT l a = none by unfold rdT; rw [hr]]
    rw [hr] at HN
    go_enter Try.func34, Try.ntmps34
    go_wp2_with fail
    refine HN.out.mono ?_
    rintro e w1 ⟨hg, he⟩
    cases he
    exact ⟨rfl, hg, rfl⟩
  | some q =>
    obtain ⟨u, b⟩ := q
    have hk := rdU_ok hr
    rw [hr] at HN
    have hS : rdT l a = if 1099511627776 < u then none else some (u, b) := by unfold rdT; rw [hr]
    rw [hS]
    have hu0 := hk.1
    clear hr hk hS
    by_cases h1 : 1099511627776 < u
    · have d1 : decide (1099511627776 < u) = true := decide_eq_true h1
      rw [if_pos h1]
      clear h1
      go_enter Try.func34, Try.ntmps34
      go_wp2_with fail
      refine HN.out.mono ?_
      rintro e w1 ⟨hg, he, hrd⟩
      subst he
      have HG := hid hg; clear hg hrd
      go_wp2
      exact ⟨rfl, HG.out, rfl⟩
    · have d1 : decide (1099511627776 < u) = false := decide_eq_false h1
      have kn : IntKind.i64.wrap u = u := IntWalk.i64_in _ (by omega)
      rw [if_neg h1]
      clear h1
      go_enter Try.func34, Try.ntmps34
      go_wp2_with fail
      refine HN.out.mono ?_
      rintro e w1 ⟨hg, he, hrd⟩
      subst he
      have HG := hid hg; have HR := hid hrd; clear hg hrd
      go_wp2
      go_ret
      exact ⟨HG.out, rfl, HR.out⟩
end Go.Proofs.Ytcnfhabljogniaa
