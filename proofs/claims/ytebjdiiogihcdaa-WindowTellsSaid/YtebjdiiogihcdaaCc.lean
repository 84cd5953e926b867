/- append of samples; the laws' own, the reference's Same. -/
import Derived.Test.YtebjdiiogihcdaaCb
namespace Go.Proofs.Ytebjdiiogihcdaa
open Go.RowKit
set_option linter.unusedSimpArgs false

theorem infoSmp : (Try.prog.info? 37).map (fun i => (i.zero, i.size, i.bytes)) = some (some (.agg #[.int .i64 0, .int .i64 0]), 2, 16) := by kernel_rfl

theorem wpList_appM {ops : Array Oper} {rest : List Oper} {o : Oper} {a : Act} {w : World} {Q : Exit → Act → World → Prop} (hgd : o.guard = none) (s x : Operand) (ho : o.op = .call { callee := .builtin .append, args := #[s, x], argTypes := #[22, 22] })
    (base : Nat) (v : Value) (n : Nat) (l : List (Int × Int)) (hsv : a.eval s = v) (hown : w.ownsRow base 37 2 v n (sc l)) (y : Int × Int) (H0 : Nat) (hH0 : w.heap.size = H0) (hxv : a.eval x = .slice (some ⟨H0, 0, none⟩) 1 1)
    (hn : n ≤ 11000000000000) (hbase : base ≤ w.heap.size)
    (h : ∀ g cap w', w'.ownsRow base 37 2 (.slice (some ⟨g, 0, none⟩) (n + 1) cap) (n + 1) (sc (l ++ [y])) → w.grownBy w' v.ownBlock → (∀ W, Below base W w → Below base W w') → base ≤ w'.heap.size →
      wpList Try.prog ops Q rest (a.put o.dst (.slice (some ⟨g, 0, none⟩) (n + 1) cap)) w') : wpList Try.prog ops Q (o :: rest) a (w.alloc (.cells #[.int .i64 y.1, .int .i64 y.2] 37)) := by
  subst hH0
  obtain ⟨i0, hi, hz0, hz1, hz2⟩ := info_parts infoSmp
  have hsrc : Src Try.prog 2 22 (.slice (some ⟨w.heap.size, 0, none⟩) 1 1) 1 (sc [y]) (w.alloc (.cells #[.int .i64 y.1, .int .i64 y.2] 37)) :=
    Src.ofSlice _ Try.underlying22 _ 1 1 [.int .i64 y.1, .int .i64 y.2] rfl (World.news_of_block (cs := #[.int .i64 y.1, .int .i64 y.2]) (t := 37) (fr := (0, 0)) (heap_alloc_new w _)) (by simp [Value.oneCell'])
  refine wpList_append_put hgd s x 22 22 ho base 37 i0 (.agg #[.int .i64 0, .int .i64 0]) 2 16 Try.underlying22 hi hz0 hz1 hz2 rfl v n (sc l) hsv (hown.alloc _) _ 1 _ hxv hsrc (.inr (by omega)) (by unfold maxLen; omega) (by omega) (by simp; omega) (w.heap.size + 1) (by simp) ?_
  intro g cap w' h1 h2 h3 _ _
  rw [← sc_append] at h1
  refine h g cap w' h1 ⟨h2.os, h2.tape, h2.output, by have := h2.size; simp at this; omega, fun k hk hne => ?_⟩ (fun W hW => (hW.alloc hbase _).grown h2 (by simp; omega) (fun k hk => (hown.lt k hk).1)) (by have := h2.size; simp at this; omega)
  rw [h2.block k (by simp; omega) hne]
  exact Below.heap_alloc w _ k hk
/-- append of ints out of any slice -/
theorem wpList_appMS {ops : Array Oper} {rest : List Oper} {o : Oper} {a : Act} {w : World} {Q : Exit → Act → World → Prop} (hgd : o.guard = none) (s x : Operand) (ho : o.op = .call { callee := .builtin .append, args := #[s, x], argTypes := #[22, 22] })
    (base : Nat) (v : Value) (n : Nat) (l : List (Int × Int)) (hsv : a.eval s = v) (hown : w.ownsRow base 37 2 v n (sc l)) (xv : Value) (m : Nat) (l2 : List (Int × Int)) (hxv : a.eval x = xv) (hx : Sl w 2 xv m (sc l2))
    (hn : n + m ≤ 11000000000000) (hbase : base ≤ w.heap.size)
    (h : ∀ ao cap w', w'.ownsRow base 37 2 (.slice ao (n + m) cap) (n + m) (sc (l ++ l2)) → w.grownBy w' v.ownBlock → (∀ W, Below base W w → Below base W w') → base ≤ w'.heap.size →
      wpList Try.prog ops Q rest (a.put o.dst (.slice ao (n + m) cap)) w') : wpList Try.prog ops Q (o :: rest) a w := by
  obtain ⟨i0, hi, hz0, hz1, hz2⟩ := info_parts infoSmp
  refine wpList_plain hgd fun K hK => ?_
  obtain ⟨v', w', hr, h2, h3, h4, _⟩ := run_append_src (P := Try.prog) w base 22 22 o.type 37 i0 (.agg #[.int .i64 0, .int .i64 0]) 2 16 Try.underlying22 hi hz0 hz1 hz2 rfl v n (sc l) hown xv m (sc l2) (Src.ofSl Try.underlying22 hx (sc_one l2)) (by unfold maxLen; omega) (by omega) hbase
  obtain ⟨ao, cap, rfl, _⟩ := (Sl.own h2).shape
  unfold Oper.wp execOp
  simp only [ho, resolve, invoke, builtin, Sem.run_bind, Sem.run_pure, Result.andThen_ok, List.map_toArray, List.map_cons, List.map_nil, hsv, hxv, hr]
  rw [← sc_append] at h2
  exact hK _ _ (h ao cap w' h2 h3 (fun W hW => hW.grown h3 hbase (fun k hk => (hown.lt k hk).1)) (Nat.le_trans hbase h3.size))



theorem take_next (l : List (Int × Int)) (k : Nat) (h : k < l.length) : l.take (k + 1) = l.take k ++ [l.getD k (0, 0)] := by
  rw [List.take_add_one]; simp [h]
theorem pair_eq {a b : Int × Int} (h1 : a.1 = b.1) (h2 : a.2 = b.2) : a = b := by cases a; cases b; simp_all

set_option maxRecDepth 100000 in
set_option maxHeartbeats 1000000 in
theorem same_any (va vb : Value) (a b : List (Int × Int)) (w : World) (ha : Sl w 2 va a.length (sc a)) (hb : Sl w 2 vb b.length (sc b)) :
    Calls Try.prog 11 #[va, vb] w fun e w' => e = .returned (.bool (decide (a = b))) ∧ Below w.heap.size w w' := by
  obtain ⟨ao, ca, rfl, _, hma, _⟩ := ha.shape
  obtain ⟨bo, cb, rfl, _, hmb, _⟩ := hb.shape
  unfold maxLen at hma hmb
  have Ha := hid ha; have Hb := hid hb
  clear ha hb
  by_cases hn : a.length = b.length
  · have HC := hid (fun k (hk : k < a.length) => (show ∃ b1 off1 b2 off2, ao = some ⟨b1, off1, none⟩ ∧ bo = some ⟨b2, off2, none⟩ ∧ (w.cell? ⟨b1, off1 + k * 2, none⟩ = some (.int .i64 (a.getD k (0, 0)).1) ∧ w.cell? ⟨b1, off1 + k * 2 + 1, none⟩ = some (.int .i64 (a.getD k (0, 0)).2)) ∧ w.cell? ⟨b2, off2 + k * 2, none⟩ = some (.int .i64 (b.getD k (0, 0)).1) ∧ w.cell? ⟨b2, off2 + k * 2 + 1, none⟩ = some (.int .i64 (b.getD k (0, 0)).2) from by
      obtain ⟨b1, off1, hv1, _, hcell1⟩ := sc_cells Ha.out (by omega)
      obtain ⟨b2, off2, hv2, _, hcell2⟩ := sc_cells Hb.out (by omega)
      exact ⟨b1, off1, b2, off2, hv1, hv2, hcell1 k hk, hcell2 k (by omega)⟩))
    have HN := hid hn
    rw [← hn]
    obtain ⟨r, hr⟩ : ∃ r, r = decide (a = b) := ⟨_, rfl⟩
    have HR := hid hr
    rw [← hr]
    clear hn hr
    go_enter Try.func11, Try.ntmps11
    go_wp2
    go_loopw [5] (fun i wr => ∃ k q, k ≤ a.length ∧ i = .int .i64 ((k : Nat) : Int) ∧ a.take k = b.take k ∧ wr = w.drewN q)
      (fun i _ => a.length - (intOf i).toNat)
    case atStart => exact ⟨0, 0, Nat.zero_le _, rfl, rfl, rfl⟩
    case round =>
      obtain ⟨k, q0, hk, rfl, hch, rfl⟩ := hrel
      have HCh := hid hch; clear hch
      by_cases hlt : k < a.length
      · obtain ⟨b1, off1, b2, off2, rfl, rfl, ⟨hc1, hc1'⟩, hc2, hc2'⟩ := HC.out k hlt
        have i1 : (k : Int) < (a.length : Int) := by omega
        by_cases hq : a.getD k (0, 0) = b.getD k (0, 0)
        · have HK := hid (show a.take (k + 1) = b.take (k + 1) by rw [take_next a k hlt, take_next b k (by have := HN.out; omega), HCh.out, hq])
          rw [← hq] at hc2 hc2'
          generalize (a.getD k (0, 0)).1 = n at *
          generalize (a.getD k (0, 0)).2 = m at *
          clear hq
          go_wp2
          go_quiet (fail)
          go_wp2
          go_roundw
          case rel => exact ⟨k + 1, _, by omega, by go_num, HK.out, rfl⟩
          case measure => simp [intOf]; omega
        · have hR := hid (show r = false by rw [HR.out]; refine decide_eq_false ?_; rintro rfl; exact hq rfl)
          have hne : ¬ ((a.getD k (0, 0)).1 = (b.getD k (0, 0)).1 ∧ (a.getD k (0, 0)).2 = (b.getD k (0, 0)).2) := fun h => hq (pair_eq h.1 h.2)
          generalize (a.getD k (0, 0)).1 = n at *
          generalize (b.getD k (0, 0)).1 = m at *
          generalize (a.getD k (0, 0)).2 = n' at *
          generalize (b.getD k (0, 0)).2 = m' at *
          clear hq
          by_cases hnm : n = m
          · have hm' : (n' == m') = false := by simp; exact fun h => hne ⟨hnm, h⟩
            subst hnm
            clear hne
            go_wp2
            go_quiet (fail)
            go_wp2
            go_ret
            exact ⟨by rw [hR.out]; rfl, by first | exact Below_drewN (Below.refl _ _) _ | exact Below_drewN (Below_drewN (Below.refl _ _) _) _⟩
          · have hm' : (n == m) = false := by simpa using hnm
            clear hne
            go_wp2
            go_quiet (fail)
            go_wp2
            go_ret
            exact ⟨by rw [hR.out]; rfl, by first | exact Below_drewN (Below.refl _ _) _ | exact Below_drewN (Below_drewN (Below.refl _ _) _) _⟩
      · obtain rfl : k = a.length := by omega
        have hR := hid (show r = true by rw [HR.out]; refine decide_eq_true ?_; have h := HCh.out; rw [List.take_length, HN.out, List.take_length] at h; exact h)
        go_wp2
        go_ret
        exact ⟨by rw [hR.out]; rfl, by first | exact Below_drewN (Below.refl _ _) _ | exact Below_drewN (Below_drewN (Below.refl _ _) _) _⟩
  · have hR := hid (show decide (a = b) = false from decide_eq_false (by rintro rfl; exact hn rfl))
    have hne : ((a.length : Int) == (b.length : Int)) = false := by simp; omega
    rw [hR.out]
    clear hn
    go_enter Try.func11, Try.ntmps11
    go_wp2
    go_ret
    exact ⟨rfl, Below.refl _ _⟩
end Go.Proofs.Ytebjdiiogihcdaa
