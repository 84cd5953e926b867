/- Contracts of package frame and of its reference: PutUint. -/
import Derived.Test.YtimeadnkligkaaaFw
namespace Go.Proofs.Ytimeadnkligkaaa
open Go.RowKit

/-- a number's bytes, at most f + 1 of them -/
def uintF : Nat → Nat → List UInt8
  | 0, n => [UInt8.ofNat n]
  | f + 1, n => if n < 128 then [UInt8.ofNat n] else UInt8.ofNat (n % 128 + 128) :: uintF f (n / 128)
def uintL (n : Nat) : List UInt8 := uintF 8 n
theorem uintF_length (f n : Nat) : (uintF f n).length ≤ f + 1 := by
  induction f generalizing n with
  | zero => simp [uintF]
  | succ f ih =>
    unfold uintF
    split
    · simp
    · have := ih (n / 128); simp; omega
theorem or128 : ∀ x : Fin 256, x.val ||| 128 = x.val % 128 + 128 := by decide +kernel
theorem or128_bits (m : Nat) : bits BinOp.or IntKind.u8 ((m : Int) % 256) 128 = ((m % 128 + 128 : Nat) : Int) := by
  rw [show ((m : Int) % 256) = ((m % 256 : Nat) : Int) by omega, show (128 : Int) = ((128 : Nat) : Int) by rfl, u8_or_nat _ _ (by omega) (by decide), or128 ⟨m % 256, by omega⟩]
  show (((m % 256) % 128 + 128 : Nat) : Int) = _
  omega

set_option maxRecDepth 100000 in
set_option maxHeartbeats 1000000 in
theorem putUint_pos (v : Value) (l : List UInt8) (n : Nat) (w : World) (hl : l.length ≤ 140737488355000) (hn : n ≤ 9223372036854775807) (hb : Sl w 1 v l.length (bc l)) :
    Calls Try.prog 32 #[v, .int .i64 n] w fun e w' => ∃ g cap, e = .returned (.tuple #[.slice (some ⟨g, 0, none⟩) (l ++ uintL n).length cap, .int .i64 0]) ∧ Below w.heap.size w w' ∧
      w'.ownsRow w.heap.size 5 1 (.slice (some ⟨g, 0, none⟩) (l ++ uintL n).length cap) (l ++ uintL n).length (bc (l ++ uintL n)) := by
  have Hb := hid hb; clear hb
  go_enter Try.func32, Try.ntmps32
  go_wp2_with (go_at_call 36; refine (own_any v l 9 w (by omega) Hb.out).mono ?_; rintro e w1 ⟨g, cap, rfl, hb1, hown⟩; have O1 := hid hown; have B1 := hid hb1; clear hown hb1)
  go_loopw [6, 1] (fun out i wr => ∃ f m pre g cap, i = .int .i64 (m : Nat) ∧ uintL n = pre ++ uintF f m ∧ pre.length + f = 8 ∧ m < 128 * 128 ^ f ∧ out = .slice (some ⟨g, 0, none⟩) (l ++ pre).length cap ∧ w.heap.size ≤ wr.heap.size ∧ Below w.heap.size w wr ∧
      wr.ownsRow w.heap.size 5 1 (.slice (some ⟨g, 0, none⟩) (l ++ pre).length cap) (l ++ pre).length (bc (l ++ pre)))
    (fun _ i _ => (intOf i).toNat)
  case atStart => exact ⟨8, n, [], g, cap, rfl, rfl, rfl, by omega, by simp, B1.out.size, B1.out, by simpa using O1.out⟩
  case round =>
    obtain ⟨f, m, pre, g, cap, rfl, hu, hpf, hm, rfl, hsz, hbel, hown⟩ := hrel
    have O := hid hown; have L := hid hbel; have HU := hid hu; have HP := hid hpf
    have hpl : (l ++ pre).length ≤ 140737488355100 := by simp; omega
    have hm63 : m ≤ 9223372036854775807 := by
      have hf8 : f ≤ 8 := by omega
      have : 128 ^ f ≤ 128 ^ 8 := Nat.pow_le_pow_right (by decide) hf8
      have e8 : (128 : Nat) ^ 8 = 72057594037927936 := by decide
      omega
    have HM := hid hm
    clear hown hbel hu hpf hm
    generalize hlp : l ++ pre = lp at *
    have HLP := hid hlp; clear hlp
    by_cases hge : 128 ≤ m
    · have hor := hid (or128_bits m)
      go_wp2_with (at_builtin; refine wpList_app1 rfl (.tmp 15) (.tmp 19) rfl w.heap.size _ lp.length lp _ rfl O.out wr.heap.size rfl rfl (by rw [hor.out]; omega) (by rw [hor.out]; omega) (by omega) hsz ?_; intro g2 cap2 w2 hown2 hgrow2 hbel2 hsz2 hat2; have O2 := hid hown2; have L2 := hid (hbel2 w L.out); clear hown2 hgrow2 hbel2 hat2)
      have h1 := hor.out
      have hf : f ≠ 0 := by
        rintro rfl
        have := HM.out
        simp at this; omega
      obtain ⟨f', rfl⟩ : ∃ f', f = f' + 1 := ⟨f - 1, by omega⟩
      have e1 : uintF (f' + 1) m = UInt8.ofNat (m % 128 + 128) :: uintF f' (m / 128) := by rw [uintF, if_neg (by omega)]
      have e2 : l ++ (pre ++ [UInt8.ofNat (m % 128 + 128)]) = lp ++ [UInt8.ofNat (m % 128 + 128)] := by rw [← List.append_assoc, HLP.out]
      have e3 : (lp ++ [UInt8.ofNat (m % 128 + 128)]).length = lp.length + 1 := by simp
      have o2 := O2.out
      rw [h1, Int.toNat_natCast] at o2
      go_roundw
      case rel =>
        refine ⟨f', m / 128, pre ++ [UInt8.ofNat (m % 128 + 128)], g2, cap2, by congr 1, by rw [HU.out, e1]; simp, by have := HP.out; simp; omega, ?_, by rw [e2, e3], hsz2, L2.out, by rw [e2, e3]; exact o2⟩
        have := HM.out
        rw [Nat.pow_succ] at this
        omega
      case measure => simp [intOf]; omega
    · go_wp2_with (at_builtin; refine wpList_app1 rfl (.tmp 21) (.tmp 24) rfl w.heap.size _ lp.length lp _ rfl O.out wr.heap.size rfl rfl (by omega) (by omega) (by omega) hsz ?_; intro g2 cap2 w2 hown2 hgrow2 hbel2 hsz2 hat2; have O2 := hid hown2; have L2 := hid (hbel2 w L.out); clear hown2 hgrow2 hbel2 hat2)
      have e1 : uintF f m = [UInt8.ofNat m] := by
        cases f with
        | zero => rfl
        | succ f => rw [uintF, if_pos (by omega)]
      have e2 : l ++ uintL n = lp ++ [UInt8.ofNat m] := by rw [HU.out, e1, ← List.append_assoc, HLP.out]
      have e3 : (lp ++ [UInt8.ofNat m]).length = lp.length + 1 := by simp
      go_ret2
      refine ⟨g2, cap2, by rw [e2, e3]; rfl, L2.out, ?_⟩
      rw [e2, e3]
      have o2 := O2.out
      first | exact o2 | (rw [show ((m : Int) % 256).toNat = m by omega] at o2; exact o2)

theorem putUint_neg (v : Value) (n : Int) (w : World) (hn : n < 0) :
    Calls Try.prog 32 #[v, .int .i64 n] w fun e w' => e = .returned (.tuple #[.slice none 0 0, .int .i64 2]) ∧ w' = w := by
  go_enter Try.func32, Try.ntmps32
  go_wp2
  go_ret2
  exact ⟨rfl, rfl⟩
end Go.Proofs.Ytimeadnkligkaaa
