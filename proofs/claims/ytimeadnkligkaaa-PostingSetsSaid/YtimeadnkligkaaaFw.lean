/- Contracts of package frame: own. -/
import Derived.Test.YtimeadnkligkaaaAp
import Derived.Laws.BitsAllLaws
import Derived.Lib.Zigzag
namespace Go.Proofs.Ytimeadnkligkaaa
open Go.RowKit

set_option maxHeartbeats 1000000 in
theorem own_any (v : Value) (l : List UInt8) (more : Nat) (w : World) (hl : l.length + more ≤ 200000000000000) (hb : Sl w 1 v l.length (bc l)) :
    Calls Try.prog 36 #[v, .int .i64 more] w fun e w' => ∃ g cap, e = .returned (.slice (some ⟨g, 0, none⟩) l.length cap) ∧ Below w.heap.size w w' ∧
      w'.ownsRow w.heap.size 5 1 (.slice (some ⟨g, 0, none⟩) l.length cap) l.length (bc l) := by
  obtain ⟨i0, hi, hz0, hz1, hz2⟩ := info_parts infoU8
  obtain ⟨ao, c, rfl, _, _, _⟩ := hb.shape
  have hmk : ∀ wx : World, (Instr.makeSlice 36 (.int .i64 0) (.int .i64 ((l.length : Int) + more))).run Try.prog wx = .ok (.slice (some ⟨wx.heap.size, 0, none⟩) 0 (l.length + more)) (wx.alloc (.cells (madeCells #[.int .u8 0] (l.length + more)) 5)) := by
    intro wx
    have h := run_make (P := Try.prog) wx 36 5 i0 (.int .u8 0) Try.underlying36 hi hz0 .i64 .i64 0 ((l.length : Int) + more) (by omega) (by omega) (by rw [hz2]; omega) (by omega)
    rw [h, hz1, show ((l.length : Int) + more).toNat = l.length + more by omega, Nat.mul_one]
    rfl
  have Hb := hid hb; clear hb
  go_enter Try.func36, Try.ntmps36
  go_wp2_with (at_builtin; refine wpList_append_put rfl (.tmp 9) (.tmp 10) 36 36 rfl w.heap.size 5 i0 (.int .u8 0) 1 1 Try.underlying36 hi hz0 hz1 hz2 rfl (.slice (some ⟨w.heap.size, 0, none⟩) 0 (l.length + more)) 0 [] rfl (own_made _ _ (l.length + more) w.heap.size rfl (Nat.le_refl _) (by unfold maxLen; omega) (by simp [size_madeCells])) (.slice ao l.length c) l.length (bc l) rfl (Src.ofSl Try.underlying36 (Hb.out.alloc _) (bc_one l)) (.inl (by simp)) (by unfold maxLen; omega) (by omega) (by simp) _ rfl ?_; intro g cap w1 hown hgrow hat hlt hcap; simp only [Nat.zero_add, List.nil_append] at hown hcap)
  go_wp2
  go_ret
  exact ⟨g, cap, by simp, ((Below.refl _ _).alloc (Nat.le_refl _) _).grown hgrow (by simp) (by intro k hk; simp [Value.ownBlock] at hk; omega), hown⟩
end Go.Proofs.Ytimeadnkligkaaa
