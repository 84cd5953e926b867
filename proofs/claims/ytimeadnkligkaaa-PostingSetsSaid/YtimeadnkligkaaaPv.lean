/- The laws' kept over ints. -/
import Derived.Test.YtimeadnkligkaaaPu
namespace Go.Proofs.Ytimeadnkligkaaa
open Go.RowKit

set_option maxHeartbeats 1000000 in
theorem kept77_any (g cap : Nat) (v : Value) (l : List Int) (w : World) (hl : l.length ≤ 19000000000000) (hx : Sl w 1 (.slice (some ⟨g, 0, none⟩) (l.length + 1) cap) (l.length + 1) (ic (l ++ [77]))) (hb : Sl w 1 v l.length (ic l)) :
    Calls Try.prog 20 #[.slice (some ⟨g, 0, none⟩) l.length cap, v] w fun e w' => e = .returned (.bool true) ∧ Below w.heap.size w w' := by
  have H1 := hid (same_any (.slice (some ⟨g, 0, none⟩) l.length cap) v l l w (Sl.cut hx l.length (by omega) (ys := ic l) (by rw [ic_append, List.take_left' (by simp)])) hb)
  obtain ⟨b, off, c, hv, hc1, hm, hbl, hcell⟩ := hx.form (by decide) (by omega)
  simp only [Value.slice.injEq, Option.some.injEq, Addr.mk.injEq] at hv
  obtain ⟨⟨rfl, rfl, _⟩, _, rfl⟩ := hv
  have hc0 := hcell l.length (by omega)
  rw [show (ic (l ++ [77]))[l.length]? = some (.int .i64 77) by simp [ic]] at hc0
  obtain ⟨ao, cv, rfl, _⟩ := hb.shape
  clear hx hb hcell
  unfold maxLen at hm
  have i1 : (l.length : Int) + 1 ≤ (cap : Int) := by omega
  have kw : IntKind.i64.wrap ((l.length : Int) + 1) = (l.length : Int) + 1 := IntWalk.i64_in _ (by omega)
  rw [show decide (l = l) = true from decide_eq_true rfl] at H1
  go_enter Try.func20, Try.ntmps20
  go_wp2_with fail
  refine H1.out.mono ?_
  rintro e w1 ⟨rfl, hb1⟩
  have hc2 : w1.cell? ⟨g, 0 + l.length, none⟩ = some (.int .i64 77) := (hb1.cell (p := ⟨g, 0 + l.length, none⟩) hbl).trans hc0
  rw [Nat.zero_add] at hc2
  have L1 := hid hb1; clear hb1 hc0
  go_wp2
  go_ret
  exact ⟨rfl, L1.out⟩
end Go.Proofs.Ytimeadnkligkaaa
