/- The law's own helpers over bits: kept, spoil; gaugeref01.Same. -/
import Derived.Test.YtpipgiacmkeinaaJ
import Derived.Laws.Concat
namespace Go.Proofs.Ytpipgiacmkeinaa
open Go.RowKit

theorem str_snoc (l : List UInt8) (b : UInt8) : (ByteArray.mk l.toArray ++ ByteArray.mk #[b]) = ByteArray.mk (l ++ [b]).toArray := by
  have := ByteArray.mk_append_mk l [b]
  simpa using this

set_option maxHeartbeats 1000000 in
theorem kept_any (g cap : Nat) (bv : Value) (l : List UInt8) (N : Int) (w : World) (hl : l.length ≤ 140737488355000) (hx : Sl w 1 (.slice (some ⟨g, 0, none⟩) (l.length + 1) cap) (l.length + 1) (bc (l ++ [90]))) (hb : Sl w 1 bv l.length (bc l)) :
    Calls Try.prog 16 #[.agg #[.slice (some ⟨g, 0, none⟩) l.length cap, .int .i64 N], .agg #[bv, .int .i64 N]] w fun e w' => e = .returned (.bool true) ∧ Below w.heap.size w w' := by
  obtain ⟨ao, c, rfl, _, _, _⟩ := hb.shape
  have hcap : l.length + 1 ≤ cap := by
    obtain ⟨_, c', hv, hc', _⟩ := hx.shape
    simp only [Value.slice.injEq] at hv
    omega
  obtain ⟨W, hW⟩ : ∃ W, W = (w.alloc (.cells #[.slice (some ⟨g, 0, none⟩) l.length cap, .int .i64 N] 24)).alloc (.cells #[.slice ao l.length c, .int .i64 N] 24) := ⟨_, rfl⟩
  have hxW : Sl W 1 (.slice (some ⟨g, 0, none⟩) (l.length + 1) cap) (l.length + 1) (bc (l ++ [90])) := by rw [hW]; exact (hx.alloc _).alloc _
  have hbW : Sl W 1 (.slice ao l.length c) l.length (bc l) := by rw [hW]; exact (hb.alloc _).alloc _
  have q1 : ∀ nq, (convert 22 9 (.slice (some ⟨g, 0, none⟩) (l.length + 1) cap)).run Try.prog (W.drewN nq) = .ok (.string ⟨(l ++ [90]).toArray⟩) (W.drewN nq) := fun nq =>
    run_convert_sl (P := Try.prog) (W.drewN nq) 22 9 5 Try.underlying22 Try.underlying5 Try.underlying9 (hxW.keep fun _ _ _ => rfl)
  have q2 : ∀ nq, (convert 22 9 (.slice ao l.length c)).run Try.prog (W.drewN nq) = .ok (.string ⟨l.toArray⟩) (W.drewN nq) := fun nq =>
    run_convert_sl (P := Try.prog) (W.drewN nq) 22 9 5 Try.underlying22 Try.underlying5 Try.underlying9 (hbW.keep fun _ _ _ => rfl)
  subst hW
  have q3 : ∀ wx : World, (Op.stringOp .add (ByteArray.mk l.toArray) (ByteArray.mk #[90])).run Try.prog wx = .ok (.string ⟨(l ++ [90]).toArray⟩) wx := fun wx => by
    rw [run_string_add_sum _ _ _ (by simp [ByteArray.size]; omega), str_snoc]
  clear hx hb hxW hbW
  have hl1 : (l.length : Int) + 1 ≤ cap := by omega
  have hwr : IntKind.i64.wrap ((l.length : Int) + 1) = (l.length : Int) + 1 := IntWalk.i64_in _ (by omega)
  have hnn : (0 : Int) ≤ (l.length : Int) + 1 := by omega
  have htn : ((l.length : Int) + 1).toNat = l.length + 1 := by omega
  go_enter Try.func16, Try.ntmps16
  go_wp2
  go_quiet (fail)
  go_wp2
  go_ret
  exact ⟨rfl, Below_drewN (((Below.refl _ _).alloc (Nat.le_refl _) _).alloc (by simp) _) _⟩

theorem same_any (v1 v2 : Value) (l : List UInt8) (N : Int) (w : World) (h1 : Sl w 1 v1 l.length (bc l)) (h2 : Sl w 1 v2 l.length (bc l)) :
    Calls Try.prog 15 #[.agg #[v1, .int .i64 N], .agg #[v2, .int .i64 N]] w fun e w' => e = .returned (.bool true) ∧ Below w.heap.size w w' := by
  have q1 := run_convert_sl (P := Try.prog) ((w.alloc (.cells #[v1, .int .i64 N] 24)).alloc (.cells #[v2, .int .i64 N] 24)) 22 9 5 Try.underlying22 Try.underlying5 Try.underlying9 ((h1.alloc _).alloc _)
  have q2 := run_convert_sl (P := Try.prog) ((w.alloc (.cells #[v1, .int .i64 N] 24)).alloc (.cells #[v2, .int .i64 N] 24)) 22 9 5 Try.underlying22 Try.underlying5 Try.underlying9 ((h2.alloc _).alloc _)
  clear h1 h2
  go_enter Try.func15, Try.ntmps15
  go_wp2
  go_ret
  exact ⟨rfl, ((Below.refl _ _).alloc (Nat.le_refl _) _).alloc (by simp) _⟩

set_option maxHeartbeats 1000000 in
theorem spoil_any (v : Value) (l : List UInt8) (base : Nat) (w : World) (hl : l.length ≤ 200000000000000) (hb : w.ownsRow base 5 1 v l.length (bc l)) :
    Calls Try.prog 17 #[v] w fun e w' => e = .returned (.tuple #[]) ∧ w.grownBy w' v.ownBlock ∧ ∃ l', l'.length = l.length ∧ w'.ownsRow base 5 1 v l.length (bc l') := by
  obtain ⟨ao, c, rfl, hlc, _, _⟩ := (Sl.own hb).shape
  have Hb := hid hb; clear hb
  go_enter Try.func17, Try.ntmps17
  go_wp2
  go_loopw [2] (fun i wr => ∃ k : Nat, k ≤ l.length ∧ i = .int .i64 k ∧ w.grownBy wr (Value.slice ao l.length c).ownBlock ∧ ∃ l', l'.length = l.length ∧ wr.ownsRow base 5 1 (.slice ao l.length c) l.length (bc l'))
    (fun i _ => l.length - (intOf i).toNat)
  case atStart => exact ⟨0, Nat.zero_le _, rfl, World.grownBy.refl _ _, l, rfl, Hb.out⟩
  case round =>
    obtain ⟨k, hk, rfl, hg, l', hl', ho⟩ := hrel
    have G := hid hg; have O := hid ho; have HL := hid hl'; clear hg ho hl'
    by_cases hlt : k < l.length
    · obtain ⟨g, cap, hv, _, hgl, _, _⟩ := ownsRow_form O.out (by
        rintro h
        simp only [Value.slice.injEq] at h
        omega)
      simp only [Value.slice.injEq] at hv
      obtain ⟨rfl, _, rfl⟩ := hv
      have hcb : wr.cell? ⟨g, k, none⟩ = some (.int .u8 ((l'.getD k 0).toNat : Int)) := by
        rw [O.out.cellAt k (by omega), bc_get _ _ (by rw [HL.out]; exact hlt)]
      have hfb : wr.frozen? ⟨g, k, none⟩ = false := O.out.frozenAt k
      obtain ⟨B, hBB⟩ : ∃ B, B = l'.getD k 0 := ⟨_, rfl⟩
      rw [← hBB] at hcb
      have hB8 : B.toNat < 256 := UInt8.toNat_lt B
      have HB := hid hBB; clear hBB
      go_wp2
      go_roundw
      case rel =>
        refine ⟨k + 1, by omega, by go_num, grown_setCell G.out _ _ rfl, l'.set k (UInt8.ofNat (((B.toNat : Int) + 1) % 256).toNat), by rw [List.length_set]; exact HL.out, ?_⟩
        rw [← bc_set' _ _ _ (by omega) (by omega)]
        exact own_store O.out k hlt _
      case measure => simp [intOf]; omega
    · go_wp2
      go_end0
      exact ⟨rfl, G.out, l', HL.out, O.out⟩
end Go.Proofs.Ytpipgiacmkeinaa
