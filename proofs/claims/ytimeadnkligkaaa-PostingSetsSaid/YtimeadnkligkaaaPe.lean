/- Contract of posting.Put. -/
import Derived.Test.YtimeadnkligkaaaPc
import Derived.Test.YtimeadnkligkaaaFz
namespace Go.Proofs.Ytimeadnkligkaaa
open Go.RowKit

def dl : Int → List Int → List UInt8
  | _, [] => []
  | p, n :: t => uintL (n - p).toNat ++ dl n t
def lvL (l : List Int) : List UInt8 := uintL l.length ++ dl 0 l
def lastL (l : List Int) (k : Nat) : Int := if k = 0 then 0 else l.getD (k - 1) 0
def pputV (b : List UInt8) (l : List Int) : List UInt8 × Int := if chkL l ≠ 0 then ([], chkL l) else (b ++ lvL l, 0)
theorem uintL_length (n : Nat) : (uintL n).length ≤ 9 := uintF_length 8 n
theorem dl_length (l : List Int) : ∀ p, (dl p l).length ≤ 9 * l.length := by
  induction l with
  | nil => intro p; simp [dl]
  | cons n t ih =>
    intro p
    have := ih n
    have := uintL_length (n - p).toNat
    simp [dl]; omega
theorem dl_drop (l : List Int) (k : Nat) (h : k < l.length) : dl (lastL l k) (l.drop k) = uintL (l.getD k 0 - lastL l k).toNat ++ dl (lastL l (k + 1)) (l.drop (k + 1)) := by
  rw [drop_getD l k h, dl]
  simp [lastL]
theorem ris_last (l : List Int) (h : chkL l = 0) (k : Nat) (hk : k < l.length) : 0 ≤ lastL l k ∧ lastL l k ≤ l.getD k 0 ∧ l.getD k 0 ≤ 1099511627776 ∧ (0 < k → lastL l k < l.getD k 0) := by
  obtain ⟨_, h2, h3⟩ := chkL_ok h
  have hm : ∀ j (hj : j < l.length), l.getD j 0 = l[j] := fun j hj => by simp [hj]
  have hk' := h3 _ (List.getElem_mem hk)
  rw [hm k hk]
  unfold lastL
  cases k with
  | zero => simp; exact hk'
  | succ k =>
    have hp := h3 _ (List.getElem_mem (show k < l.length by omega))
    have hlt := List.pairwise_iff_getElem.1 h2 k (k + 1) (by omega) hk (by omega)
    simp only [Nat.add_sub_cancel, hm k (by omega)]
    rw [if_neg (by omega)]
    exact ⟨hp.1, by omega, hk'.2, fun _ => hlt⟩

theorem pput_err (v vl : Value) (l : List Int) (w : World) (hl : l.length ≤ 20000000000000) (hx : Sl w 1 vl l.length (ic l)) (h64 : I64 l) (hc : chkL l ≠ 0) :
    Calls Try.prog 22 #[v, vl] w fun e w' => e = .returned (.tuple #[.slice none 0 0, .int .i64 (chkL l)]) ∧ w' = w := by
  have hC := check_any vl l w hl hx h64
  generalize chkL l = n at *
  have HC := hid hC; clear hC
  have hne : (n == 0) = false := by simpa using hc
  go_enter Try.func22, Try.ntmps22
  go_wp2_with fail
  refine HC.out.mono ?_
  rintro e wz ⟨rfl, hwz⟩
  subst wz
  go_wp2
  go_ret2
  exact ⟨rfl, rfl⟩

set_option maxRecDepth 100000 in
set_option maxHeartbeats 1000000 in
theorem pput_ok (v vl : Value) (b : List UInt8) (l : List Int) (w : World) (hbl : b.length ≤ 100000000000000) (hb : Sl w 1 v b.length (bc b)) (hl : l.length ≤ 20000000000000) (hx : Sl w 1 vl l.length (ic l)) (h64 : I64 l) (hc : chkL l = 0) :
    Calls Try.prog 22 #[v, vl] w fun e w' => ∃ g cap, e = .returned (.tuple #[.slice (some ⟨g, 0, none⟩) (b ++ lvL l).length cap, .int .i64 0]) ∧ Below w.heap.size w w' ∧
      w'.ownsRow w.heap.size 5 1 (.slice (some ⟨g, 0, none⟩) (b ++ lvL l).length cap) (b ++ lvL l).length (bc (b ++ lvL l)) := by
  have h1024 := (chkL_ok hc).1
  have hC := check_any vl l w hl hx h64
  rw [hc] at hC
  have HC := hid hC; clear hC
  have HX := hid (fun k (hk : k < l.length) => (show ∃ b off c, vl = .slice (some ⟨b, off, none⟩) l.length c ∧ b < w.heap.size ∧ w.cell? ⟨b, off + k, none⟩ = some (.int .i64 (l.getD k 0)) from by
    obtain ⟨b, off, c', hv, _, _, hbl, hcell⟩ := hx.form (by decide) (by omega)
    exact ⟨b, off, c', hv, hbl, by rw [hcell k (by omega), ic_get l k hk]⟩))
  have HL := hid (ris_last l hc)
  obtain ⟨aol, cl, rfl, _⟩ := hx.shape
  obtain ⟨X, hX⟩ : ∃ X, X = b ++ lvL l := ⟨_, rfl⟩
  obtain ⟨x1, hx1⟩ : ∃ x, x = b ++ uintL l.length := ⟨_, rfl⟩
  have hP := putUint_pos v b l.length w (by omega) (by omega) hb
  rw [← hx1] at hP
  rw [← hX]
  have HP := hid hP; have HX0 := hid hX; have HX1 := hid hx1
  clear h64 hb hx hP hX hx1
  go_enter Try.func22, Try.ntmps22
  go_wp2_with fail
  refine HC.out.mono ?_
  rintro e wz ⟨rfl, hwz⟩
  subst wz
  go_wp2_with fail
  refine HP.out.mono ?_
  rintro e w1 ⟨g1, c1, rfl, hb1, hown1⟩
  have L1 := hid hb1; have O1 := hid hown1; clear hb1 hown1
  go_wp2
  go_loopw [7, 9, 11, 26] (fun out last _ i wr => ∃ k pre lp g cap, k ≤ l.length ∧ i = .int .i64 ((k : Nat) : Int) ∧ last = .int .i64 (lastL l k) ∧ lvL l = pre ++ dl (lastL l k) (l.drop k) ∧ pre.length ≤ 9 * (k + 1) ∧ lp = b ++ pre ∧ out = .slice (some ⟨g, 0, none⟩) lp.length cap ∧ w.heap.size ≤ wr.heap.size ∧ Below w.heap.size w wr ∧
      wr.ownsRow w.heap.size 5 1 (.slice (some ⟨g, 0, none⟩) lp.length cap) lp.length (bc lp))
    (fun _ _ _ i _ => l.length - (intOf i).toNat)
  case atStart => exact ⟨0, uintL l.length, x1, g1, c1, Nat.zero_le _, rfl, rfl, rfl, by have := uintL_length l.length; omega, HX1.out, rfl, L1.out.size, L1.out, O1.out⟩
  case round =>
    obtain ⟨k, pre, lp, g, cap, hk, rfl, rfl, hlv, hpl, hlp, rfl, hsz, hbel, hown⟩ := hrel
    have L := hid hbel; have O := hid hown; have HV := hid hlv
    have hll : lp.length ≤ 140737488350000 := by rw [hlp]; simp; omega
    have HLP := hid hlp
    clear hbel hown hlv hlp
    by_cases hlt : k < l.length
    · obtain ⟨b2, off2, c2, hv2, hb2, hcell2⟩ := HX.out k hlt
      simp only [Value.slice.injEq] at hv2
      obtain ⟨rfl, _, rfl⟩ := hv2
      have hcw : wr.cell? ⟨b2, off2 + k, none⟩ = some (.int .i64 (l.getD k 0)) := (L.out.cell (p := ⟨b2, off2 + k, none⟩) hb2).trans hcell2
      obtain ⟨q0, q1, q2, _⟩ := HL.out k hlt
      have HV2 := hid (HV.out.trans (congrArg (pre ++ ·) (dl_drop l k hlt)))
      have HN := hid (show lastL l (k + 1) = l.getD k 0 by simp [lastL])
      generalize l.getD k 0 = n at *
      generalize lastL l k = p at *
      obtain ⟨d, hd⟩ : ∃ d : Nat, d = (n - p).toNat := ⟨_, rfl⟩
      have kw : IntKind.i64.wrap (n - p) = (d : Int) := by rw [IntWalk.i64_in _ (by omega)]; omega
      have hw := uintL_length d
      have hd63 : d ≤ 1099511627776 := by omega
      have hP2 := putUint_pos (.slice (some ⟨g, 0, none⟩) lp.length cap) lp d wr (by omega) (by omega) (Sl.own O.out)
      obtain ⟨lq, hlq⟩ : ∃ lq, lq = lp ++ uintL d := ⟨_, rfl⟩
      rw [← hlq] at hP2
      rw [← hd] at HV2
      clear hd
      have HP2 := hid hP2; have HLQ := hid (show lq = b ++ (pre ++ uintL d) by rw [hlq, HLP.out, List.append_assoc])
      clear hcell2 hP2 hlq
      have hj : (k : Int) < (l.length : Int) := by omega
      go_wp2_with fail
      with_reducible refine HP2.out.mono ?_
      rintro e w3 ⟨g3, c3, rfl, hb3, hown3⟩
      have L3 := hid (L.out.trans (hb3.mono hsz)); have O3 := hid (own_base hown3 hsz); have s3 := Nat.le_trans hsz hb3.size; clear hb3 hown3
      go_wp2
      go_roundw
      case rel => exact ⟨k + 1, pre ++ uintL d, lq, g3, c3, by omega, by go_num, by rw [HN.out], by rw [HV2.out, HN.out, List.append_assoc], by simp; omega, HLQ.out, rfl, s3, L3.out, O3.out⟩
      case measure => simp [intOf]; omega
    · obtain rfl : k = l.length := by omega
      have e : X = lp := by rw [HX0.out, HLP.out, HV.out, List.drop_length]; simp [dl]
      go_wp2
      go_ret2
      rw [e]
      exact ⟨g, cap, rfl, L.out, O.out⟩
end Go.Proofs.Ytimeadnkligkaaa
