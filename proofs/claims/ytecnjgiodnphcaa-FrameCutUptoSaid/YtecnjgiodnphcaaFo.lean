/- frame.sealed, Put; the reference's Frame, Put. -/
import Derived.Test.YtecnjgiodnphcaaFn
namespace Go.Proofs.Ytecnjgiodnphcaa
open Go.RowKit

theorem ret_sl2 {ao : Option Addr} {a b c : Nat} {x : Value} (h : a = b) : Ending.returned (.tuple #[.slice ao a c, x]) = .returned (.tuple #[.slice ao b c, x]) := by rw [h]
theorem ret_sl {ao : Option Addr} {a b c : Nat} (h : a = b) : Ending.returned (.slice ao a c) = .returned (.slice ao b c) := by rw [h]
/-- four bytes of a number, the lowest first -/
def le4 (s : Nat) : List UInt8 := [UInt8.ofNat (s % 256), UInt8.ofNat (s / 256 % 256), UInt8.ofNat (s / 65536 % 256), UInt8.ofNat (s / 16777216 % 256)]
theorem le4_length (s : Nat) : (le4 s).length = 4 := rfl
theorem le4_next (s k : Nat) (hk : k < 4) : (le4 s).take (k + 1) = (le4 s).take k ++ [UInt8.ofNat (s / 2 ^ (8 * k) % 256)] := by
  match k, hk with
  | 0, _ => simp [le4]
  | 1, _ => rfl
  | 2, _ => rfl
  | 3, _ => rfl

set_option maxRecDepth 100000 in
set_option maxHeartbeats 1000000 in
theorem sealed_any (v vx : Value) (l lx : List UInt8) (B : Nat) (w : World) (hB : B ≤ w.heap.size) (hl : l.length ≤ 150000000000000) (hlx : lx.length ≤ 140737488355000) (hb : w.ownsRow B 5 1 v l.length (bc l)) (hx : Sl w 1 vx lx.length (bc lx)) :
    Calls Try.prog 36 #[v, vx] w fun e w' => ∃ ao cap, e = .returned (.slice ao (l.length + 4) cap) ∧ Below B w w' ∧
      w'.ownsRow B 5 1 (.slice ao (l.length + 4) cap) (l.length + 4) (bc (l ++ le4 (sumL lx))) := by
  have Hb := hid hb
  have HS := hid (sum_any vx lx w (by omega) hx)
  obtain ⟨ao, c, rfl, _, _, _⟩ := (Sl.own hb).shape
  clear hb hx
  generalize hs : sumL lx = s at *
  go_enter Try.func36, Try.ntmps36
  go_wp2_with fail
  refine HS.out.mono ?_
  rintro e w1 ⟨rfl, hb1⟩
  have L1 := hid hb1; have s1' := hb1.size; clear hb1
  have O1 := hid (own_below Hb.out L1.out (Nat.le_refl _))
  go_wp2_with fail
  go_loopw [0, 9] (fun out i wr => ∃ k ao c, k ≤ 4 ∧ i = .int .i64 (k : Nat) ∧ out = .slice ao (l ++ (le4 s).take k).length c ∧ B ≤ wr.heap.size ∧ Below B w wr ∧
      wr.ownsRow B 5 1 (.slice ao (l ++ (le4 s).take k).length c) (l ++ (le4 s).take k).length (bc (l ++ (le4 s).take k)))
    (fun _ i _ => 4 - (intOf i).toNat)
  case atStart => exact ⟨0, ao, c, by omega, rfl, by simp, by omega, L1.out.mono hB, by simpa using O1.out⟩
  case round =>
    obtain ⟨k, ao, c, hk, rfl, rfl, hsz, hbel, hown⟩ := hrel
    have O := hid hown; have L := hid hbel
    clear hown hbel
    generalize hlp : l ++ (le4 s).take k = lp at *
    have HLP := hid hlp
    have hlpl : lp.length = l.length + k := by rw [← hlp]; simp [le4_length]; omega
    clear hlp
    by_cases hk4 : k < 4
    · have hk8 : IntKind.i64.wrap (8 * (k : Int)) = ((8 * k : Nat) : Int) := by rw [IntWalk.i64_in _ (by omega)]; omega
      go_wp2_with (at_builtin; refine wpList_app1 rfl (.tmp 12) (.tmp 18) rfl B _ lp.length lp _ rfl O.out wr.heap.size rfl rfl (by omega) (by omega) (by omega) hsz ?_; intro g2 cap2 w2 hown2 hgrow2 hbel2 hsz2 hat2; have O2 := hid hown2; have L2 := hid (hbel2 w L.out); clear hown2 hgrow2 hbel2 hat2)
      go_roundw
      case rel =>
        have e1 : l ++ (le4 s).take (k + 1) = lp ++ [UInt8.ofNat (s / 2 ^ (8 * k) % 256)] := by rw [le4_next s k hk4, ← List.append_assoc, HLP.out]
        have e2 : (lp ++ [UInt8.ofNat (s / 2 ^ (8 * k) % 256)]).length = lp.length + 1 := by simp
        have o2 := O2.out
        rw [show ((s : Int) / 2 ^ (8 * k) % 256).toNat = s / 2 ^ (8 * k) % 256 by norm_cast] at o2
        exact ⟨k + 1, _, cap2, by omega, by go_num, by rw [e1, e2, hlpl], hsz2, L2.out, by rw [e1, e2]; exact o2⟩
      case measure => simp [intOf]; omega
    · obtain rfl : k = 4 := by omega
      go_wp2
      go_ret
      have h4 : l ++ le4 s = lp := by rw [← HLP.out, List.take_of_length_le (by simp [le4_length])]
      refine ⟨ao, c, by simp [hlpl], L.out, ?_⟩
      have o := O.out
      rw [hlpl] at o
      rw [h4]; exact o
end Go.Proofs.Ytecnjgiodnphcaa
