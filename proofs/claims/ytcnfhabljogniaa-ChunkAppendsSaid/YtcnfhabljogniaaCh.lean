/- chunk.Decode's deferred closure. -/
import Derived.Test.YtcnfhabljogniaaCg
namespace Go.Proofs.Ytcnfhabljogniaa
open Go.RowKit
set_option linter.unusedSimpArgs false

set_option maxRecDepth 100000 in
set_option maxHeartbeats 1000000 in
theorem catch_idle (p q : Addr) (w : World) :
    CallsD Try.prog 33 #[.pointer (some p), .pointer (some q)] .returning w fun e u' w' => e = .returned (.tuple #[]) ∧ u' = .returning ∧ w' = w := by
  refine callsD_of_wpS Try.func33 rfl fun c₀ cs hu => ?_
  apply wpS_seq
  apply wpS_region
  simp [wpOpsS, go_sem, recoverD, hu, Try.ntmps33, Exit.thenS]
  refine wpS_of_wp ?_
  go_wp2
  cases c₀
  simp_all [bodyPostS, results, Try.results33]

set_option maxRecDepth 100000 in
set_option maxHeartbeats 1000000 in
theorem catch_panicking (p q : Nat) (hpq : p < q) (older : List PanicEntry) (x y : Value) (w : World) (hp : w.heap[p]? = some (.cells #[x] 22 (0, 0))) (hq : w.heap[q]? = some (.cells #[y] 25 (0, 0))) :
    CallsD Try.prog 33 #[.pointer (some ⟨p, 0, none⟩), .pointer (some ⟨q, 0, none⟩)] (.panicking ({ v := .iface 69 (.agg #[]), recovered := false } :: older)) w fun e u' w' =>
      e = .returned (.tuple #[]) ∧ u' = .panicking ({ v := .iface 69 (.agg #[]), recovered := true } :: older) ∧ w'.heap[p]? = some (.cells #[.slice none 0 0] 22 (0, 0)) ∧ w'.heap[q]? = some (.cells #[.int .i64 5] 25 (0, 0)) ∧ Below p w w' := by
  refine callsD_of_wpS Try.func33 rfl fun c₀ cs hu => ?_
  apply wpS_seq
  apply wpS_region
  simp [wpOpsS, go_sem, recoverD, hu, Try.ntmps33, Exit.thenS]
  obtain ⟨p0, p1, p2⟩ := blk1 hp
  obtain ⟨q0, q1, q2⟩ := blk1 hq
  have hne : p ≠ q := by omega
  have hne' : q ≠ p := by omega
  have HP := hid hp; have HQ := hid hq
  clear hp hq
  have hta : ∀ w : World, (Instr.typeAssert (.iface 69 (.agg #[])) 20 69 true).run Try.prog w = .ok (.tuple #[.agg #[], .bool true]) w := fun _ => by simp [Instr.typeAssert, run_underlying Try.underlying69, go_sem, Result.andThen]
  change Code.wpS _ _ _ { tmps := #[.pointer (some ⟨p, 0, none⟩), .pointer (some ⟨q, 0, none⟩), .iface 69 (.agg #[]), undef, undef, .iface 69 (.agg #[]), undef, undef, undef, undef, undef, undef, undef, undef, undef, undef], defers := [] } _ _
  refine wpS_of_wp ?_
  go_wp2
  cases c₀
  refine ⟨rfl, _, rfl, .tuple #[], by simp [results, Try.results33], rfl, rfl, ?_, ?_, ?_⟩
  · exact blk_alloc (blk_setCell_other (blk_setCell HP.out 0 (.slice none 0 0)) ⟨q, 0, none⟩ _ hne) _
  · exact blk_alloc (blk_setCell (blk_setCell_other HQ.out ⟨p, 0, none⟩ _ hne') 0 (.int .i64 5)) _
  · exact (((Below.refl p w).setCell (Nat.le_refl p) _).setCell (Nat.le_of_lt hpq) _).alloc (by simp; omega) _
end Go.Proofs.Ytcnfhabljogniaa
