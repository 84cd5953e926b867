/- the reference's within, Range; both Instants. -/
import Derived.Test.YtebjdiiogihcdaaWl
namespace Go.Proofs.Ytebjdiiogihcdaa
open Go.RowKit
set_option linter.unusedSimpArgs false

set_option maxRecDepth 100000 in
set_option maxHeartbeats 1000000 in
theorem within_any (T en r : Int) {V : Int} (w : World) (hT0 : 0 ≤ T) (hT1 : T ≤ 9223372036854775807) (he : en ≤ 9223372036854775807) (hr1 : r ≤ 9223372036854775807) :
    Calls Try.prog 32 #[.int .i64 T, .int .i64 en, .int .i64 r] w fun e w' => e = .returned (.bool (inR en r (T, V))) ∧ w' = w := by
  unfold inR
  rcases Bool.eq_false_or_eq_true (decide (en < T)) with d1 | d1
  · have h1 : ¬ T ≤ en := by have := of_decide_eq_true d1; omega
    rw [decide_eq_false h1, Bool.and_false, Bool.false_and]
    clear h1
    go_enter Try.func32, Try.ntmps32
    go_wp2
    go_ret
    exact ⟨rfl, rfl⟩
  · have h1 : T ≤ en := by have := of_decide_eq_false d1; omega
    rw [decide_eq_true h1, Bool.and_true]
    rcases Bool.eq_false_or_eq_true (decide (0 < r)) with d2 | d2
    · have h2 := of_decide_eq_true d2
      rw [d2, Bool.true_and]
      have u1 : IntKind.u64.wrap en = en := by rw [IntKind.wrap_u64]; omega
      have u2 : IntKind.u64.wrap T = T := by rw [IntKind.wrap_u64]; omega
      have u3 : IntKind.u64.wrap (en - T) = en - T := by rw [IntKind.wrap_u64]; omega
      have u4 : IntKind.u64.wrap r = r := by rw [IntKind.wrap_u64]; omega
      clear h1 h2
      go_enter Try.func32, Try.ntmps32
      go_wp2
      go_ret
      exact ⟨rfl, rfl⟩
    · rw [d2, Bool.false_and]
      clear h1
      go_enter Try.func32, Try.ntmps32
      go_wp2
      go_ret
      exact ⟨rfl, rfl⟩

theorem rangeL_take (l : List (Int × Int)) (e r : Int) (k : Nat) (hk : k < l.length) : rangeL (l.take (k + 1)) e r = if inR e r (l.getD k (0, 0)) = true then rangeL (l.take k) e r ++ [l.getD k (0, 0)] else rangeL (l.take k) e r := by
  unfold rangeL
  rw [take_next l k hk, List.filter_append]
  split
  · rename_i h; rw [List.filter_cons_of_pos h]; rfl
  · rename_i h; rw [List.filter_cons_of_neg h]; simp
theorem rangeL_take_len (l : List (Int × Int)) (e r : Int) (k : Nat) : (rangeL (l.take k) e r).length ≤ l.length := by
  have := rangeL_len (l.take k) e r
  simp at this; omega

set_option maxRecDepth 100000 in
set_option maxHeartbeats 2000000 in
theorem refRange_any (v : Value) (l : List (Int × Int)) (en r : Int) (w : World) (hch : chkA none l = 0) (hl : l.length ≤ 10000000000000) (he : en ≤ 9223372036854775807) (hr1 : r ≤ 9223372036854775807) (hb : Sl w 2 v l.length (sc l)) :
    Calls Try.prog 19 #[v, .int .i64 en, .int .i64 r] w fun e w' => ∃ ao cap, e = .returned (.slice ao (rangeL l en r).length cap) ∧ Below w.heap.size w w' ∧
      w'.ownsRow w.heap.size 37 2 (.slice ao (rangeL l en r).length cap) (rangeL l en r).length (sc (rangeL l en r)) := by
  obtain ⟨ao, c, rfl, hlc, hcm, hao⟩ := hb.shape
  have Hb := hid hb
  have HCH := hid hch
  clear hb hch hao
  go_enter Try.func19, Try.ntmps19
  go_wp2
  go_loopw [7, 8] (fun ov i wr => ∃ (k : Nat) (oo : Option Addr) (cc : Nat), k ≤ l.length ∧ i = .int .i64 ((k : Nat) : Int) ∧ ov = .slice oo (rangeL (l.take k) en r).length cc ∧ Below w.heap.size w wr ∧ wr.ownsRow w.heap.size 37 2 (.slice oo (rangeL (l.take k) en r).length cc) (rangeL (l.take k) en r).length (sc (rangeL (l.take k) en r)))
    (fun _ i _ => l.length - (intOf i).toNat)
  case atStart => exact ⟨0, none, 0, Nat.zero_le _, rfl, rfl, Below.refl _ _, World.ownsRow_nil _ _ _ _⟩
  case round =>
    obtain ⟨k, oo, cc, hk, rfl, rfl, hbel, hown⟩ := hrel
    have L := hid hbel; have O := hid hown
    clear hbel hown
    by_cases hlt : k < l.length
    · obtain ⟨b, off, rfl, hbl, hcell⟩ := sc_cells Hb.out (by omega)
      have hc0 : wr.cell? ⟨b, off + k * 2, none⟩ = some (.int .i64 (l.getD k (0, 0)).1) := by rw [World.cell?_of_block (L.out.block b hbl)]; exact (hcell k hlt).1
      have hc1 : wr.cell? ⟨b, off + k * 2 + 1, none⟩ = some (.int .i64 (l.getD k (0, 0)).2) := by rw [World.cell?_of_block (L.out.block b hbl)]; exact (hcell k hlt).2
      have i1 : (k : Int) < (l.length : Int) := by omega
      have HAt := rise_at HCH.out k hlt
      have HN := hid (rangeL_take l en r k hlt)
      have HW := hid (within_any (l.getD k (0, 0)).1 en r (V := (l.getD k (0, 0)).2) wr HAt.1 (by omega) he hr1)
      have HLEN := rangeL_take_len l en r k
      rw [show ((l.getD k (0, 0)).1, (l.getD k (0, 0)).2) = l.getD k (0, 0) from rfl] at HW
      clear hcell HAt
      rcases Bool.eq_false_or_eq_true (inR en r (l.getD k (0, 0))) with hd | hd
      · rw [hd, if_pos rfl] at HN
        rw [hd] at HW
        obtain ⟨p, hp⟩ : ∃ p, p = l.getD k (0, 0) := ⟨_, rfl⟩
        rw [← hp] at HN HW hc0 hc1
        clear hd hp
        obtain ⟨y, hy⟩ : ∃ y, y = rangeL (l.take k) en r := ⟨_, rfl⟩
        rw [← hy] at HN O HLEN
        rw [← hy]
        clear hy
        go_wp2_with fail
        refine HW.out.mono ?_
        rintro e wz ⟨rfl, hwz⟩
        subst wz
        go_wp2_with (at_builtin; refine wpList_appM rfl (.tmp 23) (.tmp 28) rfl w.heap.size (.slice oo y.length cc) y.length y rfl O.out p wr.heap.size rfl rfl (by omega) L.out.size ?_; intro g1 c1 w1 hown1 hgrow1 hat1 hlt1; have O1 := hid hown1; have L1 := hid (hat1 w L.out); clear hown1 hgrow1 hat1)
        go_roundw
        case rel => exact ⟨k + 1, some ⟨g1, 0, none⟩, c1, hlt, by go_num, by rw [HN.out]; simp, L1.out, by rw [HN.out, List.length_append]; exact O1.out⟩
        case measure => simp [intOf]; omega
      · rw [hd, if_neg (by simp)] at HN
        rw [hd] at HW
        obtain ⟨p, hp⟩ : ∃ p, p = l.getD k (0, 0) := ⟨_, rfl⟩
        rw [← hp] at HW hc0 hc1
        clear hd hp
        obtain ⟨y, hy⟩ : ∃ y, y = rangeL (l.take k) en r := ⟨_, rfl⟩
        rw [← hy] at HN O HLEN
        rw [← hy]
        clear hy
        go_wp2_with fail
        refine HW.out.mono ?_
        rintro e wz ⟨rfl, hwz⟩
        subst wz
        go_wp2
        go_roundw
        case rel => exact ⟨k + 1, oo, cc, hlt, by go_num, by rw [HN.out], L.out, by rw [HN.out]; exact O.out⟩
        case measure => simp [intOf]; omega
    · obtain rfl : k = l.length := by omega
      rw [List.take_length] at O
      rw [List.take_length]
      go_wp2
      go_ret
      exact ⟨oo, cc, rfl, L.out, O.out⟩

/-- what is told of a moment -/
def instV (l : List (Int × Int)) (e : Int) : (Int × Int) × Bool := if (rangeL l e 300000).length = 0 then ((0, 0), false) else ((rangeL l e 300000).getD ((rangeL l e 300000).length - 1) (0, 0), true)
def retI (x : (Int × Int) × Bool) : Ending := .returned (.tuple #[.agg #[.int .i64 x.1.1, .int .i64 x.1.2], .bool x.2])

set_option maxRecDepth 100000 in
set_option maxHeartbeats 2000000 in
theorem instant_any (v : Value) (l : List (Int × Int)) (en : Int) (w : World) (hch : chkA none l = 0) (hl : l.length ≤ 10000000000000) (he0 : -9223372036854775808 ≤ en) (he : en ≤ 9223372036854775807) (hb : Sl w 2 v l.length (sc l)) :
    Calls Try.prog 17 #[v, .int .i64 en] w fun e w' => e = retI (instV l en) ∧ Below w.heap.size w w' := by
  have HS := hid (range_any v l en 300000 (w.alloc (.cells #[.int .i64 0, .int .i64 0] 37)) hch hl he0 he (by decide) (hb.alloc _))
  have B0 := hid (blk_new w (.cells #[.int .i64 0, .int .i64 0] 37) _ rfl)
  have L0 := hid ((Below.refl w.heap.size w).alloc (Nat.le_refl _) (.cells #[.int .i64 0, .int .i64 0] 37))
  obtain ⟨x, hx⟩ : ∃ x, x = instV l en := ⟨_, rfl⟩
  rw [← hx]
  have HX := hid hx
  unfold instV at HX
  have HLEN := rangeL_len l en 300000
  generalize rangeL l en 300000 = y at *
  clear hx hb hch
  go_enter Try.func17, Try.ntmps17
  go_wp2_with fail
  refine HS.out.mono ?_
  rintro e w1 ⟨ao1, c1, rfl, hb1, hown1⟩
  have L1 := hid (L0.out.trans (hb1.mono (by simp)))
  have B1 := hid (blk_below B0.out hb1 (by simp))
  have O1 := hid hown1
  obtain ⟨b0, b1, b2, b3, b4⟩ := blk2 B1.out
  clear hb1 hown1
  by_cases h0 : y.length = 0
  · have d1 : ((y.length : Int) == 0) = true := by simp; exact List.eq_nil_of_length_eq_zero h0
    rw [if_pos h0] at HX
    clear h0
    go_wp2
    refine bodyPost_ret (v := .tuple #[.agg #[.int .i64 0, .int .i64 0], .bool false]) (by simp [results, Try.results17, go_sem, b0, b1, b2, b3, b4]) rfl ⟨by rw [HX.out]; rfl, ?_⟩
    exact (L1.out.setCell (by simp) _).setCell (by simp) _
  · have d1 : ((y.length : Int) == 0) = false := by simp; intro h; exact h0 (by rw [h]; rfl)
    rw [if_neg h0] at HX
    obtain ⟨g, off, rfl, _, hcell⟩ := sc_cells (Sl.own O1.out) (by omega)
    obtain ⟨hc0, hc1⟩ := hcell (y.length - 1) (by omega)
    obtain ⟨p, hp⟩ : ∃ p, p = y.getD (y.length - 1) (0, 0) := ⟨_, rfl⟩
    rw [← hp] at HX hc0 hc1
    have kw : IntKind.i64.wrap ((y.length : Int) - 1) = (y.length : Int) - 1 := IntWalk.i64_in _ (by omega)
    have kt : ((y.length : Int) - 1).toNat = y.length - 1 := by omega
    have i0 : (0 : Int) ≤ (y.length : Int) - 1 := by omega
    have i1 : (y.length : Int) - 1 < (y.length : Int) := by omega
    clear h0 hp hcell
    go_wp2
    refine bodyPost_ret (v := .tuple #[.agg #[.int .i64 p.1, .int .i64 p.2], .bool true]) (by simp [results, Try.results17, go_sem, b0, b1, b2, b3, b4]) rfl ⟨by rw [HX.out]; rfl, ?_⟩
    exact (L1.out.setCell (by simp) _).setCell (by simp) _

set_option maxRecDepth 100000 in
set_option maxHeartbeats 2000000 in
theorem refInstant_any (v : Value) (l : List (Int × Int)) (en : Int) (w : World) (hch : chkA none l = 0) (hl : l.length ≤ 10000000000000) (he : en ≤ 9223372036854775807) (hb : Sl w 2 v l.length (sc l)) :
    Calls Try.prog 18 #[v, .int .i64 en] w fun e w' => e = retI (instV l en) ∧ Below w.heap.size w w' := by
  have HS := hid (refRange_any v l en 300000 (w.alloc (.cells #[.int .i64 0, .int .i64 0] 37)) hch hl he (by decide) (hb.alloc _))
  have B0 := hid (blk_new w (.cells #[.int .i64 0, .int .i64 0] 37) _ rfl)
  have L0 := hid ((Below.refl w.heap.size w).alloc (Nat.le_refl _) (.cells #[.int .i64 0, .int .i64 0] 37))
  obtain ⟨x, hx⟩ : ∃ x, x = instV l en := ⟨_, rfl⟩
  rw [← hx]
  have HX := hid hx
  unfold instV at HX
  have HLEN := rangeL_len l en 300000
  generalize rangeL l en 300000 = y at *
  clear hx hb hch
  go_enter Try.func18, Try.ntmps18
  go_wp2_with fail
  refine HS.out.mono ?_
  rintro e w1 ⟨ao1, c1, rfl, hb1, hown1⟩
  have L1 := hid (L0.out.trans (hb1.mono (by simp)))
  have B1 := hid (blk_below B0.out hb1 (by simp))
  have O1 := hid hown1
  obtain ⟨b0, b1, b2, b3, b4⟩ := blk2 B1.out
  clear hb1 hown1
  by_cases h0 : y.length = 0
  · have d1 : ((y.length : Int) == 0) = true := by simp; exact List.eq_nil_of_length_eq_zero h0
    rw [if_pos h0] at HX
    clear h0
    go_wp2
    refine bodyPost_ret (v := .tuple #[.agg #[.int .i64 0, .int .i64 0], .bool false]) (by simp [results, Try.results18, go_sem, b0, b1, b2, b3, b4]) rfl ⟨by rw [HX.out]; rfl, ?_⟩
    exact (L1.out.setCell (by simp) _).setCell (by simp) _
  · have d1 : ((y.length : Int) == 0) = false := by simp; intro h; exact h0 (by rw [h]; rfl)
    rw [if_neg h0] at HX
    obtain ⟨g, off, rfl, _, hcell⟩ := sc_cells (Sl.own O1.out) (by omega)
    obtain ⟨hc0, hc1⟩ := hcell (y.length - 1) (by omega)
    obtain ⟨p, hp⟩ : ∃ p, p = y.getD (y.length - 1) (0, 0) := ⟨_, rfl⟩
    rw [← hp] at HX hc0 hc1
    have kw : IntKind.i64.wrap ((y.length : Int) - 1) = (y.length : Int) - 1 := IntWalk.i64_in _ (by omega)
    have kt : ((y.length : Int) - 1).toNat = y.length - 1 := by omega
    have i0 : (0 : Int) ≤ (y.length : Int) - 1 := by omega
    have i1 : (y.length : Int) - 1 < (y.length : Int) := by omega
    clear h0 hp hcell
    go_wp2
    refine bodyPost_ret (v := .tuple #[.agg #[.int .i64 p.1, .int .i64 p.2], .bool true]) (by simp [results, Try.results18, go_sem, b0, b1, b2, b3, b4]) rfl ⟨by rw [HX.out]; rfl, ?_⟩
    exact (L1.out.setCell (by simp) _).setCell (by simp) _
end Go.Proofs.Ytebjdiiogihcdaa
