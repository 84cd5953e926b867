/- Contracts of package bits: Put. -/
import Derived.Test.YtcnfhabljogniaaC
import Derived.Laws.ResultCell
namespace Go.Proofs.Ytcnfhabljogniaa
open Go.RowKit

/-- bits.Put in plain words: the bytes, how many bits, the error. -/
def putV (l : List UInt8) (N : Int) (u : Nat) (n : Int) : List UInt8 × Int × Int :=
  if rightB l N = false ∨ n < 0 ∨ 64 < n then ([], 0, 2) else if n < (Lib.bitLen u : Int) then ([], 0, 3) else (putN l N.toNat u n.toNat, N + n, 0)

theorem rightB_Rt {l : List UInt8} {N : Int} (h : rightB l N = true) : 0 ≤ N ∧ Rt l N.toNat := by
  unfold rightB at h
  simp only [Bool.and_eq_true, Bool.or_eq_true, decide_eq_true_eq] at h
  obtain ⟨h0, hl, hz⟩ := h
  obtain ⟨m, rfl⟩ := Int.eq_ofNat_of_zero_le h0
  simp only [Int.toNat_natCast] at *
  refine ⟨h0, by omega, fun i hi hlt => ?_⟩
  have hi8 : i / 8 = l.length - 1 := by omega
  have hm8 : ¬ m % 8 = 0 := by omega
  have hz' : (l.getD (l.length - 1) 0).toNat * 2 ^ (m % 8) % 256 = 0 := by
    rcases hz with hz | hz
    · omega
    · have e : ((m : Int) % 8).toNat = m % 8 := by omega
      rw [e] at hz
      have : (((l.getD (l.length - 1) 0).toNat * 2 ^ (m % 8) % 256 : Nat) : Int) = 0 := by rw [← hz]; simp
      omega
  unfold bitAt
  rw [hi8]
  have hb : (l.getD (l.length - 1) 0).toNat < 256 := UInt8.toNat_lt _
  have hi7 : i % 8 ≥ m % 8 := by omega
  generalize (l.getD (l.length - 1) 0).toNat = z at *
  have hd : 256 ∣ z * 2 ^ (m % 8) := Nat.dvd_of_mod_eq_zero hz'
  have hd2 : 2 ^ (8 - m % 8) ∣ z := by
    have e : 256 = 2 ^ (8 - m % 8) * 2 ^ (m % 8) := by rw [← Nat.pow_add, show 8 - m % 8 + m % 8 = 8 by omega]
    rw [e] at hd
    exact Nat.dvd_of_mul_dvd_mul_right (Nat.two_pow_pos _) hd
  obtain ⟨q, rfl⟩ := hd2
  obtain ⟨d, hd⟩ : ∃ d, 8 - m % 8 = (7 - i % 8) + (d + 1) := ⟨i % 8 - m % 8, by omega⟩
  rw [hd, Nat.pow_add, Nat.mul_assoc, Nat.mul_div_cancel_left _ (Nat.two_pow_pos _), Nat.pow_succ, Nat.mul_assoc, Nat.mul_left_comm]
  omega

theorem bitLen_le64 (u : Nat) : Lib.bitLen u ≤ 64 := by
  have h : ∀ f x, Lib.bitLenAux f x ≤ f := by
    intro f
    induction f with
    | zero => intro x; exact Nat.le_refl _
    | succ f ih => intro x; unfold Lib.bitLenAux; split <;> (try have := ih (x / 2)) <;> omega
  exact h 64 u

theorem writer2_any (Bo : Nat) (ao : Option Addr) (n c : Nat) (N : Int) (w : World) (hB : w.heap[Bo]? = some (.cells #[.slice ao n c, .int .i64 N] 58 (0, 0))) :
    Calls Try.prog 59 #[.pointer (some ⟨Bo, 0, none⟩)] w fun e w' => e = .returned (.agg #[.slice ao n c, .int .i64 N]) ∧ Below w.heap.size w w' := by
  have d0 := cell_of_blk hB 0
  have d1 := cell_of_blk hB 1
  have hlt := lt_of_blk hB
  simp only [List.getElem?_toArray, List.getElem?_cons_zero, List.getElem?_cons_succ] at d0 d1
  have H := hid hB; clear hB
  go_enter Try.func59, Try.ntmps59
  go_wp2
  refine bodyPost_ret (v := .agg #[.slice ao n c, .int .i64 N]) (by simp [results, Try.results59, go_sem]) rfl ⟨rfl, ?_⟩
  exact (Below.refl _ _).alloc (Nat.le_refl _) _

/-- What Put hands back, in words of memory. -/
def PutPost (w : World) (r : List UInt8 × Int × Int) (e : Ending) (w' : World) : Prop :=
  ∃ ao c, e = .returned (.tuple #[.agg #[.slice ao r.1.length c, .int .i64 r.2.1], .int .i64 r.2.2]) ∧ Below w.heap.size w w' ∧ w'.ownsRow w.heap.size 5 1 (.slice ao r.1.length c) r.1.length (bc r.1)

theorem len_any (u : Nat) (w : World) (hu : u < 18446744073709551616) : Calls Try.prog 51 #[.int .u64 u] w fun e w' => e = .returned (.int .i64 (Lib.bitLen u)) ∧ w' = w :=
  Try.len64 (u : Int) w (by omega) (by omega)

section
variable (bv : Value) (l : List UInt8) (u : Nat) (w : World) (hl : l.length ≤ 170000000000000) (hb : Sl w 1 bv l.length (bc l))
include hl hb




end

end Go.Proofs.Ytcnfhabljogniaa
