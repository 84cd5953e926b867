/- Contracts of the reference gaugeref02: Uint, PutUint. -/
import Derived.Test.YtimeadnkligkaaaFu
namespace Go.Proofs.Ytimeadnkligkaaa
open Go.RowKit

set_option maxRecDepth 100000 in
set_option maxHeartbeats 1000000 in
theorem refUint_any (n : Nat) (w : World) (hn : n ≤ 9223372036854775807) :
    Calls Try.prog 37 #[.int .i64 n] w fun e w' => ∃ g cap, e = .returned (.slice (some ⟨g, 0, none⟩) (uintL n).length cap) ∧ Below w.heap.size w w' ∧
      w'.ownsRow w.heap.size 5 1 (.slice (some ⟨g, 0, none⟩) (uintL n).length cap) (uintL n).length (bc (uintL n)) := by
  go_enter Try.func37, Try.ntmps37
  go_wp2
  go_loopw [3, 0] (fun out i wr => ∃ f m pre ao cap, i = .int .i64 (m : Nat) ∧ uintL n = pre ++ uintF f m ∧ pre.length + f = 8 ∧ m < 128 * 128 ^ f ∧ out = .slice ao pre.length cap ∧ w.heap.size ≤ wr.heap.size ∧ Below w.heap.size w wr ∧
      wr.ownsRow w.heap.size 5 1 (.slice ao pre.length cap) pre.length (bc pre))
    (fun _ i _ => (intOf i).toNat)
  case atStart => exact ⟨8, n, [], none, 0, rfl, rfl, rfl, by omega, rfl, Nat.le_refl _, Below.refl _ _, World.ownsRow_nil _ _ _ _⟩
  case round =>
    obtain ⟨f, m, lp, g, cap, rfl, hu, hpf, hm, rfl, hsz, hbel, hown⟩ := hrel
    have O := hid hown; have L := hid hbel; have HU := hid hu; have HP := hid hpf
    have hpl : lp.length ≤ 140737488355100 := by omega
    have hm63 : m ≤ 9223372036854775807 := by
      have hf8 : f ≤ 8 := by omega
      have : 128 ^ f ≤ 128 ^ 8 := Nat.pow_le_pow_right (by decide) hf8
      have e8 : (128 : Nat) ^ 8 = 72057594037927936 := by decide
      omega
    have HM := hid hm
    clear hown hbel hu hpf hm
    by_cases hge : 128 ≤ m
    · go_wp2_with (at_builtin; refine wpList_app1 rfl (.tmp 6) (.tmp 11) rfl w.heap.size _ lp.length lp _ rfl O.out wr.heap.size rfl rfl (by omega) (by omega) (by omega) hsz ?_; intro g2 cap2 w2 hown2 hgrow2 hbel2 hsz2 hat2; have O2 := hid hown2; have L2 := hid (hbel2 w L.out); clear hown2 hgrow2 hbel2 hat2)
      have hf : f ≠ 0 := by
        rintro rfl
        have := HM.out
        simp at this; omega
      obtain ⟨f', rfl⟩ : ∃ f', f = f' + 1 := ⟨f - 1, by omega⟩
      have e1 : uintF (f' + 1) m = UInt8.ofNat (m % 128 + 128) :: uintF f' (m / 128) := by rw [uintF, if_neg (by omega)]
      have e3 : (lp ++ [UInt8.ofNat (m % 128 + 128)]).length = lp.length + 1 := by simp
      have o2 := O2.out
      have hb0 : UInt8.ofNat (((m : Int) % 128 + 128).toNat) = UInt8.ofNat (m % 128 + 128) := by congr 1
      rw [hb0] at o2
      go_roundw
      case rel =>
        refine ⟨f', m / 128, lp ++ [UInt8.ofNat (m % 128 + 128)], some ⟨g2, 0, none⟩, cap2, by congr 1, by rw [HU.out, e1]; simp, by have := HP.out; simp; omega, ?_, by rw [e3], hsz2, L2.out, by rw [e3]; exact o2⟩
        have := HM.out
        rw [Nat.pow_succ] at this
        omega
      case measure => simp [intOf]; omega
    · go_wp2_with (at_builtin; refine wpList_app1 rfl (.tmp 15) (.tmp 18) rfl w.heap.size _ lp.length lp _ rfl O.out wr.heap.size rfl rfl (by omega) (by omega) (by omega) hsz ?_; intro g2 cap2 w2 hown2 hgrow2 hbel2 hsz2 hat2; have O2 := hid hown2; have L2 := hid (hbel2 w L.out); clear hown2 hgrow2 hbel2 hat2)
      have e1 : uintF f m = [UInt8.ofNat m] := by
        cases f with
        | zero => rfl
        | succ f => rw [uintF, if_pos (by omega)]
      have e2 : uintL n = lp ++ [UInt8.ofNat m] := by rw [HU.out, e1]
      have e3 : (lp ++ [UInt8.ofNat m]).length = lp.length + 1 := by simp
      go_ret
      refine ⟨g2, cap2, by rw [e2, e3]; rfl, L2.out, ?_⟩
      rw [e2, e3]
      have o2 := O2.out
      first | exact o2 | (rw [show ((m : Int) % 256).toNat = m by omega] at o2; exact o2)



end Go.Proofs.Ytimeadnkligkaaa
