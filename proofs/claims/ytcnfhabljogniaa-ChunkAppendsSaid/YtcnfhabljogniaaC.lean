/- Contracts of package bits: writer, Put. -/
import Derived.Test.YtcnfhabljogniaaB
import Derived.Test.YtcnfhabljogniaaLen
import Derived.Deep.RegionHeld3
namespace Go.Proofs.Ytcnfhabljogniaa
open Go.RowKit

set_option maxRecDepth 100000 in
set_option maxHeartbeats 1000000 in
theorem writer_any (bv : Value) (l : List UInt8) (N : Int) (w : World) (hl : l.length ≤ 180000000000000) (hb : Sl w 1 bv l.length (bc l)) :
    Calls Try.prog 50 #[.agg #[bv, .int .i64 N]] w fun e w' => ∃ Bo v, e = .returned (.tuple #[.func (Fn.func 58) #[] #[.pointer (some ⟨Bo, 0, none⟩)], .func (Fn.func 59) #[] #[.pointer (some ⟨Bo, 0, none⟩)]]) ∧ Below w.heap.size w w' ∧ w.heap.size ≤ Bo ∧
      w'.heap[Bo]? = some (.cells #[v, .int .i64 N] 58 (0, 0)) ∧ w'.ownsRow w.heap.size 5 1 v l.length (bc l) := by
  obtain ⟨i0, hi, hz0, hz1, hz2⟩ := info_parts infoU8
  obtain ⟨ao, c, rfl, hnc, hcm, h0⟩ := hb.shape
  have hmk : ∀ wx : World, (Instr.makeSlice 24 (.int .i64 0) (.int .i64 ((l.length : Int) + 17))).run Try.prog wx = .ok (.slice (some ⟨wx.heap.size, 0, none⟩) 0 (l.length + 17)) (wx.alloc (.cells (madeCells #[.int .u8 0] (l.length + 17)) 5)) := by
    intro wx
    have h := run_make (P := Try.prog) wx 24 5 i0 (.int .u8 0) Try.underlying24 hi hz0 .i64 .i64 0 ((l.length : Int) + 17) (by omega) (by omega) (by rw [hz2]; omega) (by omega)
    rw [h, hz1, show ((l.length : Int) + 17).toNat = l.length + 17 by omega, Nat.mul_one]
    rfl
  have hl' : (l.length : Int) ≤ 180000000000000 := by omega
  have hwr : IntKind.i64.wrap ((l.length : Int) + 17) = (l.length : Int) + 17 := IntWalk.i64_in _ (by omega)
  have hbH := hid hb
  clear hb
  go_enter Try.func50, Try.ntmps50
  go_wp2
  go_region_held3 (fun w' => w'.cell? ⟨w.heap.size, 0, none⟩ = some (.slice ao l.length c) ∧ w'.cell? ⟨w.heap.size, 1, none⟩ = some (.int .i64 N))
    (simp [go_sem, *])
    (first
      | (refine step_append_put (by rfl) _ _ 24 24 (by rfl) w.heap.size 5 i0 (.int .u8 0) 1 1 Try.underlying24 hi hz0 hz1 hz2 rfl _ 0 [] (by rfl) ((own_made _ _ (l.length + 17) (w.heap.size + 1) (by simp) (by simp) (by unfold maxLen; omega) (by simp [size_madeCells])).drew) (.slice ao l.length c) l.length (bc l) (by rfl) (Src.ofSl Try.underlying24 (((hbH.out.alloc _).alloc _).drew) (bc_one l)) (.inl (by simp)) (by unfold maxLen; omega) (by omega) (by simp <;> omega) _ rfl ?_; intro g cap w1 hown hgrow hat hlt hcap; simp only [Nat.zero_add, List.nil_append] at hown hcap; have hsz : w.heap.size < w1.heap.size := (by (have hq := hgrow.size; simp at hq; omega)); have k0 : w1.cell? ⟨w.heap.size, 0, none⟩ = some (.slice ao l.length c) := (by (rw [hgrow.cell_far _ (by simp <;> omega) (by simp [Value.ownBlock] <;> omega)]; simp [go_sem])); have k1 : w1.cell? ⟨w.heap.size, 1, none⟩ = some (.int .i64 N) := (by (rw [hgrow.cell_far _ (by simp <;> omega) (by simp [Value.ownBlock] <;> omega)]; simp [go_sem])); have hO := hid hown; have hB := hid (((((Below.refl w.heap.size w).alloc (Nat.le_refl _) (.cells #[.slice ao l.length c, .int .i64 N] 58)).alloc (by simp <;> omega) (.cells (madeCells #[.int .u8 0] (l.length + 17)) 5)).drew).grown hgrow (by simp <;> omega) (by intro k hk; simp [Value.ownBlock] at hk; omega)); clear hown hgrow hat)
      | (refine step_append_put (by rfl) _ _ 24 24 (by rfl) w.heap.size 5 i0 (.int .u8 0) 1 1 Try.underlying24 hi hz0 hz1 hz2 rfl _ 0 [] (by rfl) (((own_made _ _ (l.length + 17) (w.heap.size + 1) (by simp) (by simp) (by unfold maxLen; omega) (by simp [size_madeCells])).alloc _).drew) (.slice ao l.length c) l.length (bc l) (by rfl) (Src.ofSl Try.underlying24 ((((hbH.out.alloc _).alloc _).alloc _).drew) (bc_one l)) (.inl (by simp)) (by unfold maxLen; omega) (by omega) (by simp <;> omega) _ rfl ?_; intro g cap w1 hown hgrow hat hlt hcap; simp only [Nat.zero_add, List.nil_append] at hown hcap; have hsz : w.heap.size < w1.heap.size := (by (have hq := hgrow.size; simp at hq; omega)); have k0 : w1.cell? ⟨w.heap.size, 0, none⟩ = some (.slice ao l.length c) := (by (rw [hgrow.cell_far _ (by simp <;> omega) (by simp [Value.ownBlock] <;> omega)]; simp [go_sem])); have k1 : w1.cell? ⟨w.heap.size, 1, none⟩ = some (.int .i64 N) := (by (rw [hgrow.cell_far _ (by simp <;> omega) (by simp [Value.ownBlock] <;> omega)]; simp [go_sem])); have hO := hid hown; have hB := hid ((((((Below.refl w.heap.size w).alloc (Nat.le_refl _) (.cells #[.slice ao l.length c, .int .i64 N] 58)).alloc (by simp <;> omega) (.cells (madeCells #[.int .u8 0] (l.length + 17)) 5)).alloc (by simp <;> omega) (.cells #[.slice none 0 0, .int .i64 0] 58)).drew).grown hgrow (by simp <;> omega) (by intro k hk; simp [Value.ownBlock] at hk; omega)); have b0 : w1.heap[w.heap.size + 1 + 1]? = some (.cells #[.slice none 0 0, .int .i64 0] 58 (0, 0)) := (by (rw [hgrow.block _ (by simp <;> omega) (by simp [Value.ownBlock] <;> omega)]; exact blk_new _ _ (w.heap.size + 1 + 1) (by simp))); have d0 := cell_of_blk b0 0; have d1 := cell_of_blk b0 1; have e0 := free_of_blk b0 0; have e1 := free_of_blk b0 1; simp only [List.getElem?_toArray, List.getElem?_cons_zero, List.getElem?_cons_succ] at d0 d1; have hb0 := hid b0; clear b0; clear hown hgrow hat)
      | (refine step_append_put (by rfl) _ _ 24 24 (by rfl) w.heap.size 5 i0 (.int .u8 0) 1 1 Try.underlying24 hi hz0 hz1 hz2 rfl _ 0 [] (by rfl) ((own_made _ _ (l.length + 17) (w.heap.size + 1 + 1) (by simp) (by simp <;> omega) (by unfold maxLen; omega) (by simp [size_madeCells])).drew) (.slice ao l.length c) l.length (bc l) (by rfl) (Src.ofSl Try.underlying24 ((((hbH.out.alloc _).alloc _).alloc _).drew) (bc_one l)) (.inl (by simp)) (by unfold maxLen; omega) (by omega) (by simp <;> omega) _ rfl ?_; intro g cap w1 hown hgrow hat hlt hcap; simp only [Nat.zero_add, List.nil_append] at hown hcap; have hsz : w.heap.size < w1.heap.size := (by (have hq := hgrow.size; simp at hq; omega)); have k0 : w1.cell? ⟨w.heap.size, 0, none⟩ = some (.slice ao l.length c) := (by (rw [hgrow.cell_far _ (by simp <;> omega) (by simp [Value.ownBlock] <;> omega)]; simp [go_sem])); have k1 : w1.cell? ⟨w.heap.size, 1, none⟩ = some (.int .i64 N) := (by (rw [hgrow.cell_far _ (by simp <;> omega) (by simp [Value.ownBlock] <;> omega)]; simp [go_sem])); have hO := hid hown; have hB := hid ((((((Below.refl w.heap.size w).alloc (Nat.le_refl _) (.cells #[.slice ao l.length c, .int .i64 N] 58)).alloc (by simp <;> omega) (.cells #[.slice none 0 0, .int .i64 0] 58)).alloc (by simp <;> omega) (.cells (madeCells #[.int .u8 0] (l.length + 17)) 5)).drew).grown hgrow (by simp <;> omega) (by intro k hk; simp [Value.ownBlock] at hk; omega)); have b0 : w1.heap[w.heap.size + 1]? = some (.cells #[.slice none 0 0, .int .i64 0] 58 (0, 0)) := (by (rw [hgrow.block _ (by simp <;> omega) (by simp [Value.ownBlock] <;> omega)]; exact blk_alloc (blk_new _ _ (w.heap.size + 1) (by simp)) _)); have d0 := cell_of_blk b0 0; have d1 := cell_of_blk b0 1; have e0 := free_of_blk b0 0; have e1 := free_of_blk b0 1; simp only [List.getElem?_toArray, List.getElem?_cons_zero, List.getElem?_cons_succ] at d0 d1; have hb0 := hid b0; clear b0; clear hown hgrow hat))
  · go_wp2
    go_ret2
    exact ⟨_, .slice (some ⟨g, 0, none⟩) l.length cap, rfl, hB.out.alloc (by omega) _, by omega, blk_new w1 _ _ rfl, hO.out.alloc _⟩
  · go_wp2
    go_ret2
    have hne := own_ne_blk hO.out hb0.out (by decide)
    exact ⟨_, .slice (some ⟨g, 0, none⟩) l.length cap, rfl, (hB.out.setCell (by simp <;> omega) _).setCell (by simp <;> omega) _, by omega, blk_setCell (blk_setCell hb0.out 0 (.slice (some ⟨g, 0, none⟩) l.length cap)) 1 (.int .i64 N), own_setOther (own_setOther hO.out _ _ hne) _ _ hne⟩
  · go_wp2
    go_ret2
    have hne := own_ne_blk hO.out hb0.out (by decide)
    exact ⟨_, .slice (some ⟨g, 0, none⟩) l.length cap, rfl, (hB.out.setCell (by simp <;> omega) _).setCell (by simp <;> omega) _, by omega, blk_setCell (blk_setCell hb0.out 0 (.slice (some ⟨g, 0, none⟩) l.length cap)) 1 (.int .i64 N), own_setOther (own_setOther hO.out _ _ hne) _ _ hne⟩
end Go.Proofs.Ytcnfhabljogniaa
