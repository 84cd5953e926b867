/- The laws' own helpers over bytes: lent, kept, spoil; frame.own. -/
import Derived.Test.YtecnjgiodnphcaaFs
import Derived.Test.YtecnjgiodnphcaaFw
import Derived.Laws.Concat
namespace Go.Proofs.Ytecnjgiodnphcaa
open Go.RowKit

set_option maxHeartbeats 1000000 in
theorem lent_any (v : Value) (l : List UInt8) (w : World) (hl : l.length ≤ 140737488355000) (hb : Sl w 1 v l.length (bc l)) :
    Calls Try.prog 13 #[v] w fun e w' => ∃ g cap, e = .returned (.slice (some ⟨g, 0, none⟩) l.length cap) ∧ Below w.heap.size w w' ∧
      w'.ownsRow w.heap.size 5 1 (.slice (some ⟨g, 0, none⟩) (l.length + 1) cap) (l.length + 1) (bc (l ++ [90])) := by
  obtain ⟨i0, hi, hz0, hz1, hz2⟩ := info_parts infoU8
  obtain ⟨ao, c, rfl, _, _, _⟩ := hb.shape
  have Hb := hid hb; clear hb
  go_enter Try.func13, Try.ntmps13
  go_wp2_with (first
    | (at_builtin; refine wpList_append_put rfl (.tmp 3) (.tmp 4) 22 22 rfl w.heap.size 5 i0 (.int .u8 0) 1 1 Try.underlying22 hi hz0 hz1 hz2 rfl (.slice (some ⟨w.heap.size, 0, none⟩) 0 0) 0 [] rfl (own_made _ _ 0 w.heap.size rfl (Nat.le_refl _) (by unfold maxLen; omega) (by simp)) (.slice ao l.length c) l.length (bc l) rfl (Src.ofSl Try.underlying22 (Hb.out.alloc _) (bc_one l)) (.inl (by simp)) (by unfold maxLen; omega) (by omega) (by simp) _ rfl ?_; intro g1 cap1 w1 hown1 hgrow1 hat1 hlt1 hcap1; simp only [Nat.zero_add, List.nil_append] at hown1 hcap1; have O1 := hid hown1; have L1 := hid (((Below.refl w.heap.size w).alloc (Nat.le_refl _) _).grown hgrow1 (by simp) (by intro k hk; simp [Value.ownBlock] at hk; omega)); clear hown1 hgrow1 hat1)
    | (at_builtin; refine wpList_append_put rfl (.tmp 5) (.tmp 6) 22 22 rfl w.heap.size 5 i0 (.int .u8 0) 1 1 Try.underlying22 hi hz0 hz1 hz2 rfl (.slice (some ⟨g1, 0, none⟩) l.length cap1) l.length (bc l) rfl (O1.out.alloc _) (.slice (some ⟨w1.heap.size, 0, none⟩) 1 1) 1 [.int .u8 90] rfl (Src.ofSlice _ Try.underlying22 _ 1 1 [.int .u8 90] rfl (World.news_of_block (cs := #[.int .u8 90]) (t := 5) (fr := (0, 0)) (heap_alloc_new w1 _)) (by simp [Value.oneCell'])) (.inr (by omega)) (by unfold maxLen; omega) (by omega) (by have := L1.out.size; simp; omega) _ rfl ?_; intro g cap w2 hown hgrow hat hlt hcap; have O2 := hid hown; have L2 := hid ((L1.out.alloc L1.out.size _).grown hgrow (by have := L1.out.size; simp; omega) (by intro k hk; exact (O1.out.lt k hk).1)); clear hown hgrow hat))
  go_wp2
  go_ret
  refine ⟨g, cap, rfl, L2.out, ?_⟩
  rw [bc_append]
  exact O2.out

theorem str_snoc (l : List UInt8) (b : UInt8) : (ByteArray.mk l.toArray ++ ByteArray.mk #[b]) = ByteArray.mk (l ++ [b]).toArray := by
  have := ByteArray.mk_append_mk l [b]
  simpa using this

set_option maxHeartbeats 1000000 in
theorem kept_any (g cap : Nat) (v : Value) (l : List UInt8) (w : World) (hl : l.length ≤ 140737488355000) (hx : Sl w 1 (.slice (some ⟨g, 0, none⟩) (l.length + 1) cap) (l.length + 1) (bc (l ++ [90]))) (hb : Sl w 1 v l.length (bc l)) :
    Calls Try.prog 16 #[.slice (some ⟨g, 0, none⟩) l.length cap, v] w fun e w' => e = .returned (.bool true) ∧ Below w.heap.size w w' := by
  obtain ⟨ao, c, rfl, _, _, _⟩ := hb.shape
  have hcap : l.length + 1 ≤ cap := by
    obtain ⟨_, c', hv, hc', _⟩ := hx.shape
    simp only [Value.slice.injEq] at hv
    omega
  have q1 : ∀ nq, (convert 22 9 (.slice (some ⟨g, 0, none⟩) (l.length + 1) cap)).run Try.prog (w.drewN nq) = .ok (.string ⟨(l ++ [90]).toArray⟩) (w.drewN nq) := fun nq =>
    run_convert_sl (P := Try.prog) (w.drewN nq) 22 9 5 Try.underlying22 Try.underlying5 Try.underlying9 (hx.keep fun _ _ _ => rfl)
  have q2 : ∀ nq, (convert 22 9 (.slice ao l.length c)).run Try.prog (w.drewN nq) = .ok (.string ⟨l.toArray⟩) (w.drewN nq) := fun nq =>
    run_convert_sl (P := Try.prog) (w.drewN nq) 22 9 5 Try.underlying22 Try.underlying5 Try.underlying9 (hb.keep fun _ _ _ => rfl)
  have q3 : ∀ wx : World, (Op.stringOp .add (ByteArray.mk l.toArray) (ByteArray.mk #[90])).run Try.prog wx = .ok (.string ⟨(l ++ [90]).toArray⟩) wx := fun wx => by
    rw [run_string_add_sum _ _ _ (by simp [ByteArray.size]; omega), str_snoc]
  clear hx hb
  have hl1 : (l.length : Int) + 1 ≤ cap := by omega
  have hwr : IntKind.i64.wrap ((l.length : Int) + 1) = (l.length : Int) + 1 := IntWalk.i64_in _ (by omega)
  have hnn : (0 : Int) ≤ (l.length : Int) + 1 := by omega
  have htn : ((l.length : Int) + 1).toNat = l.length + 1 := by omega
  go_enter Try.func16, Try.ntmps16
  go_wp2
  go_quiet (fail)
  go_wp2
  go_ret
  exact ⟨rfl, Below_drewN (Below.refl _ _) _⟩

set_option maxHeartbeats 1000000 in
theorem spoil_any (v : Value) (l : List UInt8) (base : Nat) (w : World) (hl : l.length ≤ 200000000000000) (hb : w.ownsRow base 5 1 v l.length (bc l)) :
    Calls Try.prog 20 #[v] w fun e w' => e = .returned (.tuple #[]) ∧ w.grownBy w' v.ownBlock ∧ ∃ l', l'.length = l.length ∧ w'.ownsRow base 5 1 v l.length (bc l') := by
  obtain ⟨ao, c, rfl, hlc, _, _⟩ := (Sl.own hb).shape
  have Hb := hid hb; clear hb
  go_enter Try.func20, Try.ntmps20
  go_wp2
  go_loopw [2] (fun i wr => ∃ k : Nat, k ≤ l.length ∧ i = .int .i64 k ∧ w.grownBy wr (Value.slice ao l.length c).ownBlock ∧ ∃ l', l'.length = l.length ∧ wr.ownsRow base 5 1 (.slice ao l.length c) l.length (bc l'))
    (fun i _ => l.length - (intOf i).toNat)
  case atStart => exact ⟨0, Nat.zero_le _, rfl, World.grownBy.refl _ _, l, rfl, Hb.out⟩
  case round =>
    obtain ⟨k, hk, rfl, hg, l', hl', ho⟩ := hrel
    have G := hid hg; have O := hid ho; have HL := hid hl'; clear hg ho hl'
    by_cases hlt : k < l.length
    · obtain ⟨g, cap, hv, _, hgl, _, _⟩ := ownsRow_form O.out (by
        rintro h
        simp only [Value.slice.injEq] at h
        omega)
      simp only [Value.slice.injEq] at hv
      obtain ⟨rfl, _, rfl⟩ := hv
      have hcb : wr.cell? ⟨g, k, none⟩ = some (.int .u8 ((l'.getD k 0).toNat : Int)) := by
        rw [O.out.cellAt k (by omega), bc_get _ _ (by rw [HL.out]; exact hlt)]
      have hfb : wr.frozen? ⟨g, k, none⟩ = false := O.out.frozenAt k
      obtain ⟨B, hBB⟩ : ∃ B, B = l'.getD k 0 := ⟨_, rfl⟩
      rw [← hBB] at hcb
      have hB8 : B.toNat < 256 := UInt8.toNat_lt B
      have HB := hid hBB; clear hBB
      go_wp2
      go_roundw
      case rel =>
        refine ⟨k + 1, by omega, by go_num, grown_setCell G.out _ _ rfl, l'.set k (UInt8.ofNat (((B.toNat : Int) + 1) % 256).toNat), by rw [List.length_set]; exact HL.out, ?_⟩
        rw [← bc_set' _ _ _ (by omega) (by omega)]
        exact own_store O.out k hlt _
      case measure => simp [intOf]; omega
    · go_wp2
      go_end0
      exact ⟨rfl, G.out, l', HL.out, O.out⟩
end Go.Proofs.Ytecnjgiodnphcaa
