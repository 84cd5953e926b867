/- The walk of FrameMixed. -/
import Derived.Test.YtecnjgiodnphcaaFl
import Derived.Deep.RegionHeld3
namespace Go.Proofs.Ytecnjgiodnphcaa
open Go.RowKit

theorem xor_div2 (x y : Nat) : (x ^^^ y) / 2 = x / 2 ^^^ y / 2 := by
  have := Nat.shiftRight_xor_distrib (a := x) (b := y) (i := 1)
  simpa [Nat.shiftRight_eq_div_pow] using this
theorem xor_mod2 (x y : Nat) : (x ^^^ y) % 2 = (x % 2 + y % 2) % 2 := by
  have h := Nat.xor_mod_two_pow (a := x) (b := y) (n := 1)
  rw [Nat.pow_one] at h
  rw [h]
  rcases Nat.mod_two_eq_zero_or_one x with hx | hx <;> rcases Nat.mod_two_eq_zero_or_one y with hy | hy <;> rw [hx, hy] <;> decide
theorem crc1_xor (x y : Nat) : crc1 (x ^^^ y) = crc1 x ^^^ crc1 y := by
  unfold crc1
  rw [xor_div2, xor_mod2]
  rcases Nat.mod_two_eq_zero_or_one x with hx | hx <;> rcases Nat.mod_two_eq_zero_or_one y with hy | hy <;> rw [hx, hy] <;> simp <;> ac_nf
  rw [← Nat.xor_assoc 2197175160, Nat.xor_self, Nat.zero_xor]
theorem crcN_xor (x y k : Nat) : crcN (x ^^^ y) k = crcN x k ^^^ crcN y k := by
  induction k with
  | zero => rfl
  | succ k ih => rw [crcN, crcN, crcN, ih, crc1_xor]

/-- three rows of bytes, xor byte by byte -/
def mix3 : List UInt8 → List UInt8 → List UInt8 → List UInt8
  | a :: xs, b :: ys, c :: zs => (a ^^^ b ^^^ c) :: mix3 xs ys zs
  | _, _, _ => []
theorem mix3_length : ∀ a b c : List UInt8, (mix3 a b c).length = min a.length (min b.length c.length)
  | a :: xs, b :: ys, c :: zs => by simp only [mix3, List.length_cons, mix3_length xs ys zs]; omega
  | [], _, _ => by simp [mix3]
  | _ :: _, [], _ => by simp [mix3]
  | _ :: _, _ :: _, [] => by simp [mix3]
theorem mix3_get : ∀ (a b c : List UInt8) (k : Nat), k < (mix3 a b c).length → (mix3 a b c).getD k 0 = a.getD k 0 ^^^ b.getD k 0 ^^^ c.getD k 0
  | a :: xs, b :: ys, c :: zs, 0, _ => by simp [mix3]
  | a :: xs, b :: ys, c :: zs, k + 1, h => by
    have := mix3_get xs ys zs k (by simpa [mix3] using h)
    simpa [mix3] using this
  | [], _, _, _, h => by simp [mix3] at h
  | _ :: _, [], _, _, h => by simp [mix3] at h
  | _ :: _, _ :: _, [], _, h => by simp [mix3] at h
theorem crcL_mix : ∀ (a b c : List UInt8) (x y z : Nat), crcL (x ^^^ y ^^^ z) (mix3 a b c) = crcL x (a.take (mix3 a b c).length) ^^^ crcL y (b.take (mix3 a b c).length) ^^^ crcL z (c.take (mix3 a b c).length)
  | a :: xs, b :: ys, c :: zs, x, y, z => by
    have ih := crcL_mix xs ys zs (crcB x a) (crcB y b) (crcB z c)
    simp only [mix3, List.length_cons, List.take_succ_cons, crcL, List.foldl_cons] at ih ⊢
    rw [← ih]
    congr 1
    unfold crcB
    rw [← crcN_xor, ← crcN_xor, UInt8.toNat_xor, UInt8.toNat_xor]
    congr 1
    ac_nf
  | [], _, _, x, y, z => by simp [mix3, crcL]
  | _ :: _, [], _, x, y, z => by simp [mix3, crcL]
  | _ :: _, _ :: _, [], x, y, z => by simp [mix3, crcL]
theorem ones_sub (c : Nat) (h : c < 4294967296) : 4294967295 - c = 4294967295 ^^^ c := (xor_ones32 c (by omega)).symm
/-- THE PLAIN LAW: the sum of the mixed row is the sums' xor. -/
theorem sumL_mix (a b c : List UInt8) : sumL (mix3 a b c) = sumL (a.take (mix3 a b c).length) ^^^ sumL (b.take (mix3 a b c).length) ^^^ sumL (c.take (mix3 a b c).length) := by
  have h := crcL_mix a b c 4294967295 4294967295 4294967295
  rw [show (4294967295 ^^^ 4294967295 ^^^ 4294967295 : Nat) = 4294967295 by decide] at h
  unfold sumL
  rw [h, ones_sub _ (xor_lt32 (xor_lt32 (crcL_lt (by decide) _) (crcL_lt (by decide) _)) (crcL_lt (by decide) _)), ones_sub _ (crcL_lt (by decide) _), ones_sub _ (crcL_lt (by decide) _), ones_sub _ (crcL_lt (by decide) _)]
  generalize crcL 4294967295 _ = X
  generalize crcL 4294967295 _ = Y
  generalize crcL 4294967295 _ = Z
  generalize (4294967295 : Nat) = I
  have e : I ^^^ X ^^^ (I ^^^ Y) = X ^^^ Y := by
    rw [Nat.xor_comm I X, Nat.xor_assoc, ← Nat.xor_assoc I I Y, Nat.xor_self, Nat.zero_xor]
  rw [e]
  ac_nf

theorem xor3_bits (a b c : UInt8) : bits BinOp.xor IntKind.u8 (bits BinOp.xor IntKind.u8 (a.toNat : Int) b.toNat) c.toNat = (((a ^^^ b ^^^ c).toNat : Nat) : Int) := by
  have ha := UInt8.toNat_lt a
  have hb := UInt8.toNat_lt b
  have hc := UInt8.toNat_lt c
  rw [u8_xor_nat _ _ (by omega) (by omega), u8_xor_nat _ _ (Nat.xor_lt_two_pow (n := 8) (by omega) (by omega)) (by omega), UInt8.toNat_xor, UInt8.toNat_xor]

theorem bc_take (l : List UInt8) (k : Nat) : bc (l.take k) = (bc l).take k := by simp [bc, List.map_take]
/-- What the last statement of FrameMixed leans on. -/
def MixS (w : World) (v v1 v2 v3 : Value) (n : Nat) (m l1 l2 l3 : List UInt8) (w' : World) : Prop :=
  Sl w' 1 v n (bc m) ∧ Sl w' 1 v1 n (bc l1) ∧ Sl w' 1 v2 n (bc l2) ∧ Sl w' 1 v3 n (bc l3) ∧ Below w.heap.size w w' ∧ w.heap.size ≤ w'.heap.size
section
variable {w w' : World} {v v1 v2 v3 : Value} {n : Nat} {m l1 l2 l3 : List UInt8}
theorem MixS.s0 (h : MixS w v v1 v2 v3 n m l1 l2 l3 w') : Sl w' 1 v n (bc m) := h.1
theorem MixS.s1 (h : MixS w v v1 v2 v3 n m l1 l2 l3 w') : Sl w' 1 v1 n (bc l1) := h.2.1
theorem MixS.s2 (h : MixS w v v1 v2 v3 n m l1 l2 l3 w') : Sl w' 1 v2 n (bc l2) := h.2.2.1
theorem MixS.s3 (h : MixS w v v1 v2 v3 n m l1 l2 l3 w') : Sl w' 1 v3 n (bc l3) := h.2.2.2.1
theorem MixS.s4 (h : MixS w v v1 v2 v3 n m l1 l2 l3 w') : Below w.heap.size w w' := h.2.2.2.2.1
end
theorem MixS.next {w wc w1 : World} {v v1 v2 v3 : Value} {n : Nat} {m l1 l2 l3 : List UInt8} (h : MixS w v v1 v2 v3 n m l1 l2 l3 wc) (hb : Below wc.heap.size wc w1) : MixS w v v1 v2 v3 n m l1 l2 l3 w1 := by
  obtain ⟨h0, h1, h2, h3, h4, h5⟩ := h
  exact ⟨h0.below hb (fun _ _ h => h), h1.below hb (fun _ _ h => h), h2.below hb (fun _ _ h => h), h3.below hb (fun _ _ h => h), h4.trans (hb.mono h5), Nat.le_trans h5 hb.size⟩

set_option maxRecDepth 100000 in
set_option maxHeartbeats 2000000 in
theorem mixed_a (w : World) (ao1 ao2 ao3 : Option Addr) (c1 c2 c3 : Nat) (l1 l2 l3 : List UInt8) (hb1 : Sl w 1 (.slice ao1 l1.length c1) l1.length (bc l1)) (hl1 : l1.length ≤ 140737488351232)
    (hb2 : Sl w 1 (.slice ao2 l2.length c2) l2.length (bc l2)) (hl2 : l2.length ≤ 140737488351232) (hb3 : Sl w 1 (.slice ao3 l3.length c3) l3.length (bc l3)) (hl3 : l3.length ≤ 140737488351232)
    (hc1 : l1.length ≤ c1) (hc2 : l2.length ≤ c2) (hc3 : l3.length ≤ c3) (h1 : l1.length ≤ l2.length) (h2 : l1.length ≤ l3.length) (hm : (mix3 l1 l2 l3).length = l1.length) :
    Calls Try.prog 4 #[.slice ao1 l1.length c1, .slice ao2 l2.length c2, .slice ao3 l3.length c3] w fun e w' => e = .returned (.bool true) ∧ Below w.heap.size w w' := by
  have Hb1 := hid hb1; have Hb2 := hid hb2; have Hb3 := hid hb3
  have HM := hid hm; have HS := hid (sumL_mix l1 l2 l3); have HG := hid (mix3_get l1 l2 l3)
  clear hb1 hb2 hb3 hm
  go_enter Try.func4, Try.ntmps4
  go_wp2
  go_loopw [8, 9] (fun x i wr => ∃ (k : Nat) (ao : Option Addr) (c : Nat), k ≤ l1.length ∧ i = .int .i64 k ∧ x = .slice ao k c ∧ w.heap.size ≤ wr.heap.size ∧ Below w.heap.size w wr ∧ wr.ownsRow w.heap.size 5 1 (.slice ao k c) k (bc ((mix3 l1 l2 l3).take k)))
    (fun _ i _ => l1.length - (intOf i).toNat)
  case atStart => exact ⟨0, none, 0, Nat.zero_le _, rfl, rfl, Nat.le_refl _, Below.refl _ _, World.ownsRow_nil _ _ _ _⟩
  case round =>
    obtain ⟨k, ao, c, hk, rfl, rfl, hsz, hbel, hown⟩ := hrel
    have O := hid hown; have L := hid hbel; clear hown hbel
    by_cases hlt : k < l1.length
    · obtain ⟨b1, o1, e1, hv1, _, _, hw1, hcell1⟩ := Hb1.out.form (by decide) (by omega)
      obtain ⟨b2, o2, e2, hv2, _, _, hw2, hcell2⟩ := Hb2.out.form (by decide) (by omega)
      obtain ⟨b3, o3, e3, hv3, _, _, hw3, hcell3⟩ := Hb3.out.form (by decide) (by omega)
      simp only [Value.slice.injEq] at hv1 hv2 hv3
      obtain ⟨rfl, _, rfl⟩ := hv1
      obtain ⟨rfl, _, rfl⟩ := hv2
      obtain ⟨rfl, _, rfl⟩ := hv3
      have g1 : wr.cell? ⟨b1, o1 + k, none⟩ = some (.int .u8 ((l1.getD k 0).toNat : Int)) := by
        rw [L.out.cell (p := ⟨b1, o1 + k, none⟩) hw1, hcell1 k (by omega), bc_get l1 k (by omega)]
      have g2 : wr.cell? ⟨b2, o2 + k, none⟩ = some (.int .u8 ((l2.getD k 0).toNat : Int)) := by
        rw [L.out.cell (p := ⟨b2, o2 + k, none⟩) hw2, hcell2 k (by omega), bc_get l2 k (by omega)]
      have g3 : wr.cell? ⟨b3, o3 + k, none⟩ = some (.int .u8 ((l3.getD k 0).toNat : Int)) := by
        rw [L.out.cell (p := ⟨b3, o3 + k, none⟩) hw3, hcell3 k (by omega), bc_get l3 k (by omega)]
      clear hcell1 hcell2 hcell3
      have hmk := HG.out k (by rw [HM.out]; exact hlt)
      have hsn : (mix3 l1 l2 l3).take (k + 1) = (mix3 l1 l2 l3).take k ++ [(mix3 l1 l2 l3).getD k 0] := by
        rw [List.take_succ_eq_append_getElem (by rw [HM.out]; exact hlt)]
        simp [List.getD, show k < (mix3 l1 l2 l3).length by rw [HM.out]; exact hlt]
      rw [hmk] at hsn
      have HSN := hid hsn; clear hsn hmk
      obtain ⟨x1, hx1⟩ : ∃ x, x = l1.getD k 0 := ⟨_, rfl⟩
      obtain ⟨x2, hx2⟩ : ∃ x, x = l2.getD k 0 := ⟨_, rfl⟩
      obtain ⟨x3, hx3⟩ : ∃ x, x = l3.getD k 0 := ⟨_, rfl⟩
      rw [← hx1] at g1 HSN
      rw [← hx2] at g2 HSN
      rw [← hx3] at g3 HSN
      have X1 := hid hx1; have X2 := hid hx2; have X3 := hid hx3
      clear hx1 hx2 hx3
      have hxb := hid (xor3_bits x1 x2 x3)
      have hx8 := UInt8.toNat_lt (x1 ^^^ x2 ^^^ x3)
      have i0 : (0 : Int) ≤ (k : Int) := by omega
      have i1 : (k : Int) < (l1.length : Int) := by omega
      have i2 : (k : Int) < (l2.length : Int) := by omega
      have i3 : (k : Int) < (l3.length : Int) := by omega
      go_wp2
      go_region_held3 (fun w' => w'.cell? ⟨b1, o1 + k, none⟩ = some (.int .u8 (x1.toNat : Int)) ∧ w'.cell? ⟨b2, o2 + k, none⟩ = some (.int .u8 (x2.toNat : Int)) ∧ w'.cell? ⟨b3, o3 + k, none⟩ = some (.int .u8 (x3.toNat : Int)))
        (first | exact hS | go_keep)
        ((refine step_app1 (w := wr) (by rfl) _ _ (by rfl) w.heap.size (.slice ao k c) k ((mix3 l1 l2 l3).take k) _ (by rfl) O.out wr.heap.size rfl (by rfl) (by rw [hxb.out]; omega) (by rw [hxb.out]; omega) (by omega) hsz ?_; intro g2' cap2 w2 hown2 hgrow2 hbel2 hsz2 hat2; have L2 := hid (hbel2 w L.out); have O2 := hid hown2; have hS := And.intro ((L2.out.cell (p := ⟨b1, o1 + k, none⟩) hw1).trans ((L.out.cell (p := ⟨b1, o1 + k, none⟩) hw1).symm.trans g1)) (And.intro ((L2.out.cell (p := ⟨b2, o2 + k, none⟩) hw2).trans ((L.out.cell (p := ⟨b2, o2 + k, none⟩) hw2).symm.trans g2)) ((L2.out.cell (p := ⟨b3, o3 + k, none⟩) hw3).trans ((L.out.cell (p := ⟨b3, o3 + k, none⟩) hw3).symm.trans g3)))))
      go_wp2
      go_roundw
      case rel =>
        have o2 := O2.out
        rw [hxb.out, Int.toNat_natCast, UInt8.ofNat_toNat, ← HSN.out] at o2
        exact ⟨k + 1, some ⟨g2', 0, none⟩, cap2, by omega, by go_num, rfl, hsz2, L2.out, o2⟩
      case measure => simp [intOf]; omega
    · obtain rfl : k = l1.length := by omega
      have o' := O.out
      rw [← HM.out, List.take_length, HM.out] at o'
      have hS0 : MixS w (.slice ao l1.length c) (.slice ao1 l1.length c1) (.slice ao2 l1.length c2) (.slice ao3 l1.length c3) l1.length (mix3 l1 l2 l3) (l1.take l1.length) (l2.take l1.length) (l3.take l1.length) wr.drew :=
        ⟨(Sl.own o').drew, ((Hb1.out.cut l1.length (by omega) (bc_take _ _)).below L.out (fun _ _ h => h)).drew, ((Hb2.out.cut l1.length (by omega) (bc_take _ _)).below L.out (fun _ _ h => h)).drew, ((Hb3.out.cut l1.length (by omega) (bc_take _ _)).below L.out (fun _ _ h => h)).drew, L.out.drew, hsz⟩
      have hlm : (mix3 l1 l2 l3).length = l1.length := HM.out
      have hs := HS.out
      rw [hlm] at hs
      have ht1 : (l1.take l1.length).length = l1.length := by rw [List.length_take]; omega
      have ht2 : (l2.take l1.length).length = l1.length := by rw [List.length_take]; omega
      have ht3 : (l3.take l1.length).length = l1.length := by rw [List.length_take]; omega
      have q0 := fun (wx : World) (hx : Sl wx 1 (.slice ao l1.length c) l1.length (bc (mix3 l1 l2 l3))) => sum_any (.slice ao l1.length c) (mix3 l1 l2 l3) wx (by omega) (by rw [hlm]; exact hx)
      have q1 := fun (wx : World) (hx : Sl wx 1 (.slice ao1 l1.length c1) l1.length (bc (l1.take l1.length))) => sum_any (.slice ao1 l1.length c1) (l1.take l1.length) wx (by omega) (by rw [ht1]; exact hx)
      have q2 := fun (wx : World) (hx : Sl wx 1 (.slice ao2 l1.length c2) l1.length (bc (l2.take l1.length))) => sum_any (.slice ao2 l1.length c2) (l2.take l1.length) wx (by omega) (by rw [ht2]; exact hx)
      have q3 := fun (wx : World) (hx : Sl wx 1 (.slice ao3 l1.length c3) l1.length (bc (l3.take l1.length))) => sum_any (.slice ao3 l1.length c3) (l3.take l1.length) wx (by omega) (by rw [ht3]; exact hx)
      have m1 := sumL_lt (l1.take l1.length); have m2 := sumL_lt (l2.take l1.length); have m3 := sumL_lt (l3.take l1.length)
      generalize sumL (mix3 l1 l2 l3) = s0 at *
      generalize sumL (l1.take l1.length) = s1 at *
      generalize sumL (l2.take l1.length) = s2 at *
      generalize sumL (l3.take l1.length) = s3 at *
      have hbe : (((s0 : Nat) : Int) == bits BinOp.xor IntKind.u32 (bits BinOp.xor IntKind.u32 (s1 : Int) s2) s3) = true := by
        rw [u32_xor_nat _ _ m1 m2, u32_xor_nat _ _ (xor_lt32 m1 m2) m3, ← hs]
        simp
      have Q0 := hid q0; have Q1 := hid q1; have Q2 := hid q2; have Q3 := hid q3; have HS0 := hid hS0
      clear q0 q1 q2 q3 hs hlm ht1 ht2 ht3 m1 m2 m3 hS0 o' HS
      have j0 : (0 : Int) ≤ (l1.length : Int) := by omega
      have j1 : (l1.length : Int) ≤ (c1 : Int) := by omega
      have j2 : (l1.length : Int) ≤ (c2 : Int) := by omega
      have j3 : (l1.length : Int) ≤ (c3 : Int) := by omega
      go_wp2
      go_region_held3 (fun w' => MixS w (.slice ao l1.length c) (.slice ao1 l1.length c1) (.slice ao2 l1.length c2) (.slice ao3 l1.length c3) l1.length (mix3 l1 l2 l3) (l1.take l1.length) (l2.take l1.length) (l3.take l1.length) w')
        (first | exact hS | exact HS0.out)
        (first
          | (go_at_call 14; ((with_reducible refine (Q0.out _ (MixS.s0 (by assumption))).mono ?_); rintro e w1 ⟨rfl, hb1⟩; have hS := MixS.next (by assumption) hb1))
          | (go_at_call 14; ((with_reducible refine (Q1.out _ (MixS.s1 (by assumption))).mono ?_); rintro e w1 ⟨rfl, hb1⟩; have hS := MixS.next (by assumption) hb1))
          | (go_at_call 14; ((with_reducible refine (Q2.out _ (MixS.s2 (by assumption))).mono ?_); rintro e w1 ⟨rfl, hb1⟩; have hS := MixS.next (by assumption) hb1))
          | (go_at_call 14; ((with_reducible refine (Q3.out _ (MixS.s3 (by assumption))).mono ?_); rintro e w1 ⟨rfl, hb1⟩; have hS := MixS.next (by assumption) hb1))
          | (go_at_call 17; refine (lives_any _).mono ?_; rintro e w1 ⟨rfl, hb1⟩; have hS := MixS.next (by assumption) hb1))
      go_wp2
      go_ret
      exact ⟨rfl, hS.s4⟩

set_option maxRecDepth 100000 in
set_option maxHeartbeats 2000000 in
theorem mixed_b (w : World) (ao1 ao2 ao3 : Option Addr) (c1 c2 c3 : Nat) (l1 l2 l3 : List UInt8) (hb1 : Sl w 1 (.slice ao1 l1.length c1) l1.length (bc l1)) (hl1 : l1.length ≤ 140737488351232)
    (hb2 : Sl w 1 (.slice ao2 l2.length c2) l2.length (bc l2)) (hl2 : l2.length ≤ 140737488351232) (hb3 : Sl w 1 (.slice ao3 l3.length c3) l3.length (bc l3)) (hl3 : l3.length ≤ 140737488351232)
    (hc1 : l1.length ≤ c1) (hc2 : l2.length ≤ c2) (hc3 : l3.length ≤ c3) (h1 : l2.length < l1.length) (h2 : l2.length ≤ l3.length) (hm : (mix3 l1 l2 l3).length = l2.length) :
    Calls Try.prog 4 #[.slice ao1 l1.length c1, .slice ao2 l2.length c2, .slice ao3 l3.length c3] w fun e w' => e = .returned (.bool true) ∧ Below w.heap.size w w' := by
  have Hb1 := hid hb1; have Hb2 := hid hb2; have Hb3 := hid hb3
  have HM := hid hm; have HS := hid (sumL_mix l1 l2 l3); have HG := hid (mix3_get l1 l2 l3)
  clear hb1 hb2 hb3 hm
  go_enter Try.func4, Try.ntmps4
  go_wp2
  go_loopw [8, 9] (fun x i wr => ∃ (k : Nat) (ao : Option Addr) (c : Nat), k ≤ l2.length ∧ i = .int .i64 k ∧ x = .slice ao k c ∧ w.heap.size ≤ wr.heap.size ∧ Below w.heap.size w wr ∧ wr.ownsRow w.heap.size 5 1 (.slice ao k c) k (bc ((mix3 l1 l2 l3).take k)))
    (fun _ i _ => l2.length - (intOf i).toNat)
  case atStart => exact ⟨0, none, 0, Nat.zero_le _, rfl, rfl, Nat.le_refl _, Below.refl _ _, World.ownsRow_nil _ _ _ _⟩
  case round =>
    obtain ⟨k, ao, c, hk, rfl, rfl, hsz, hbel, hown⟩ := hrel
    have O := hid hown; have L := hid hbel; clear hown hbel
    by_cases hlt : k < l2.length
    · obtain ⟨b1, o1, e1, hv1, _, _, hw1, hcell1⟩ := Hb1.out.form (by decide) (by omega)
      obtain ⟨b2, o2, e2, hv2, _, _, hw2, hcell2⟩ := Hb2.out.form (by decide) (by omega)
      obtain ⟨b3, o3, e3, hv3, _, _, hw3, hcell3⟩ := Hb3.out.form (by decide) (by omega)
      simp only [Value.slice.injEq] at hv1 hv2 hv3
      obtain ⟨rfl, _, rfl⟩ := hv1
      obtain ⟨rfl, _, rfl⟩ := hv2
      obtain ⟨rfl, _, rfl⟩ := hv3
      have g1 : wr.cell? ⟨b1, o1 + k, none⟩ = some (.int .u8 ((l1.getD k 0).toNat : Int)) := by
        rw [L.out.cell (p := ⟨b1, o1 + k, none⟩) hw1, hcell1 k (by omega), bc_get l1 k (by omega)]
      have g2 : wr.cell? ⟨b2, o2 + k, none⟩ = some (.int .u8 ((l2.getD k 0).toNat : Int)) := by
        rw [L.out.cell (p := ⟨b2, o2 + k, none⟩) hw2, hcell2 k (by omega), bc_get l2 k (by omega)]
      have g3 : wr.cell? ⟨b3, o3 + k, none⟩ = some (.int .u8 ((l3.getD k 0).toNat : Int)) := by
        rw [L.out.cell (p := ⟨b3, o3 + k, none⟩) hw3, hcell3 k (by omega), bc_get l3 k (by omega)]
      clear hcell1 hcell2 hcell3
      have hmk := HG.out k (by rw [HM.out]; exact hlt)
      have hsn : (mix3 l1 l2 l3).take (k + 1) = (mix3 l1 l2 l3).take k ++ [(mix3 l1 l2 l3).getD k 0] := by
        rw [List.take_succ_eq_append_getElem (by rw [HM.out]; exact hlt)]
        simp [List.getD, show k < (mix3 l1 l2 l3).length by rw [HM.out]; exact hlt]
      rw [hmk] at hsn
      have HSN := hid hsn; clear hsn hmk
      obtain ⟨x1, hx1⟩ : ∃ x, x = l1.getD k 0 := ⟨_, rfl⟩
      obtain ⟨x2, hx2⟩ : ∃ x, x = l2.getD k 0 := ⟨_, rfl⟩
      obtain ⟨x3, hx3⟩ : ∃ x, x = l3.getD k 0 := ⟨_, rfl⟩
      rw [← hx1] at g1 HSN
      rw [← hx2] at g2 HSN
      rw [← hx3] at g3 HSN
      have X1 := hid hx1; have X2 := hid hx2; have X3 := hid hx3
      clear hx1 hx2 hx3
      have hxb := hid (xor3_bits x1 x2 x3)
      have hx8 := UInt8.toNat_lt (x1 ^^^ x2 ^^^ x3)
      have i0 : (0 : Int) ≤ (k : Int) := by omega
      have i1 : (k : Int) < (l1.length : Int) := by omega
      have i2 : (k : Int) < (l2.length : Int) := by omega
      have i3 : (k : Int) < (l3.length : Int) := by omega
      go_wp2
      go_region_held3 (fun w' => w'.cell? ⟨b1, o1 + k, none⟩ = some (.int .u8 (x1.toNat : Int)) ∧ w'.cell? ⟨b2, o2 + k, none⟩ = some (.int .u8 (x2.toNat : Int)) ∧ w'.cell? ⟨b3, o3 + k, none⟩ = some (.int .u8 (x3.toNat : Int)))
        (first | exact hS | go_keep)
        ((refine step_app1 (w := wr) (by rfl) _ _ (by rfl) w.heap.size (.slice ao k c) k ((mix3 l1 l2 l3).take k) _ (by rfl) O.out wr.heap.size rfl (by rfl) (by rw [hxb.out]; omega) (by rw [hxb.out]; omega) (by omega) hsz ?_; intro g2' cap2 w2 hown2 hgrow2 hbel2 hsz2 hat2; have L2 := hid (hbel2 w L.out); have O2 := hid hown2; have hS := And.intro ((L2.out.cell (p := ⟨b1, o1 + k, none⟩) hw1).trans ((L.out.cell (p := ⟨b1, o1 + k, none⟩) hw1).symm.trans g1)) (And.intro ((L2.out.cell (p := ⟨b2, o2 + k, none⟩) hw2).trans ((L.out.cell (p := ⟨b2, o2 + k, none⟩) hw2).symm.trans g2)) ((L2.out.cell (p := ⟨b3, o3 + k, none⟩) hw3).trans ((L.out.cell (p := ⟨b3, o3 + k, none⟩) hw3).symm.trans g3)))))
      go_wp2
      go_roundw
      case rel =>
        have o2 := O2.out
        rw [hxb.out, Int.toNat_natCast, UInt8.ofNat_toNat, ← HSN.out] at o2
        exact ⟨k + 1, some ⟨g2', 0, none⟩, cap2, by omega, by go_num, rfl, hsz2, L2.out, o2⟩
      case measure => simp [intOf]; omega
    · obtain rfl : k = l2.length := by omega
      have o' := O.out
      rw [← HM.out, List.take_length, HM.out] at o'
      have hS0 : MixS w (.slice ao l2.length c) (.slice ao1 l2.length c1) (.slice ao2 l2.length c2) (.slice ao3 l2.length c3) l2.length (mix3 l1 l2 l3) (l1.take l2.length) (l2.take l2.length) (l3.take l2.length) wr.drew :=
        ⟨(Sl.own o').drew, ((Hb1.out.cut l2.length (by omega) (bc_take _ _)).below L.out (fun _ _ h => h)).drew, ((Hb2.out.cut l2.length (by omega) (bc_take _ _)).below L.out (fun _ _ h => h)).drew, ((Hb3.out.cut l2.length (by omega) (bc_take _ _)).below L.out (fun _ _ h => h)).drew, L.out.drew, hsz⟩
      have hlm : (mix3 l1 l2 l3).length = l2.length := HM.out
      have hs := HS.out
      rw [hlm] at hs
      have ht1 : (l1.take l2.length).length = l2.length := by rw [List.length_take]; omega
      have ht2 : (l2.take l2.length).length = l2.length := by rw [List.length_take]; omega
      have ht3 : (l3.take l2.length).length = l2.length := by rw [List.length_take]; omega
      have q0 := fun (wx : World) (hx : Sl wx 1 (.slice ao l2.length c) l2.length (bc (mix3 l1 l2 l3))) => sum_any (.slice ao l2.length c) (mix3 l1 l2 l3) wx (by omega) (by rw [hlm]; exact hx)
      have q1 := fun (wx : World) (hx : Sl wx 1 (.slice ao1 l2.length c1) l2.length (bc (l1.take l2.length))) => sum_any (.slice ao1 l2.length c1) (l1.take l2.length) wx (by omega) (by rw [ht1]; exact hx)
      have q2 := fun (wx : World) (hx : Sl wx 1 (.slice ao2 l2.length c2) l2.length (bc (l2.take l2.length))) => sum_any (.slice ao2 l2.length c2) (l2.take l2.length) wx (by omega) (by rw [ht2]; exact hx)
      have q3 := fun (wx : World) (hx : Sl wx 1 (.slice ao3 l2.length c3) l2.length (bc (l3.take l2.length))) => sum_any (.slice ao3 l2.length c3) (l3.take l2.length) wx (by omega) (by rw [ht3]; exact hx)
      have m1 := sumL_lt (l1.take l2.length); have m2 := sumL_lt (l2.take l2.length); have m3 := sumL_lt (l3.take l2.length)
      generalize sumL (mix3 l1 l2 l3) = s0 at *
      generalize sumL (l1.take l2.length) = s1 at *
      generalize sumL (l2.take l2.length) = s2 at *
      generalize sumL (l3.take l2.length) = s3 at *
      have hbe : (((s0 : Nat) : Int) == bits BinOp.xor IntKind.u32 (bits BinOp.xor IntKind.u32 (s1 : Int) s2) s3) = true := by
        rw [u32_xor_nat _ _ m1 m2, u32_xor_nat _ _ (xor_lt32 m1 m2) m3, ← hs]
        simp
      have Q0 := hid q0; have Q1 := hid q1; have Q2 := hid q2; have Q3 := hid q3; have HS0 := hid hS0
      clear q0 q1 q2 q3 hs hlm ht1 ht2 ht3 m1 m2 m3 hS0 o' HS
      have j0 : (0 : Int) ≤ (l2.length : Int) := by omega
      have j1 : (l2.length : Int) ≤ (c1 : Int) := by omega
      have j2 : (l2.length : Int) ≤ (c2 : Int) := by omega
      have j3 : (l2.length : Int) ≤ (c3 : Int) := by omega
      go_wp2
      go_region_held3 (fun w' => MixS w (.slice ao l2.length c) (.slice ao1 l2.length c1) (.slice ao2 l2.length c2) (.slice ao3 l2.length c3) l2.length (mix3 l1 l2 l3) (l1.take l2.length) (l2.take l2.length) (l3.take l2.length) w')
        (first | exact hS | exact HS0.out)
        (first
          | (go_at_call 14; ((with_reducible refine (Q0.out _ (MixS.s0 (by assumption))).mono ?_); rintro e w1 ⟨rfl, hb1⟩; have hS := MixS.next (by assumption) hb1))
          | (go_at_call 14; ((with_reducible refine (Q1.out _ (MixS.s1 (by assumption))).mono ?_); rintro e w1 ⟨rfl, hb1⟩; have hS := MixS.next (by assumption) hb1))
          | (go_at_call 14; ((with_reducible refine (Q2.out _ (MixS.s2 (by assumption))).mono ?_); rintro e w1 ⟨rfl, hb1⟩; have hS := MixS.next (by assumption) hb1))
          | (go_at_call 14; ((with_reducible refine (Q3.out _ (MixS.s3 (by assumption))).mono ?_); rintro e w1 ⟨rfl, hb1⟩; have hS := MixS.next (by assumption) hb1))
          | (go_at_call 17; refine (lives_any _).mono ?_; rintro e w1 ⟨rfl, hb1⟩; have hS := MixS.next (by assumption) hb1))
      go_wp2
      go_ret
      exact ⟨rfl, hS.s4⟩

set_option maxRecDepth 100000 in
set_option maxHeartbeats 2000000 in
theorem mixed_c (w : World) (ao1 ao2 ao3 : Option Addr) (c1 c2 c3 : Nat) (l1 l2 l3 : List UInt8) (hb1 : Sl w 1 (.slice ao1 l1.length c1) l1.length (bc l1)) (hl1 : l1.length ≤ 140737488351232)
    (hb2 : Sl w 1 (.slice ao2 l2.length c2) l2.length (bc l2)) (hl2 : l2.length ≤ 140737488351232) (hb3 : Sl w 1 (.slice ao3 l3.length c3) l3.length (bc l3)) (hl3 : l3.length ≤ 140737488351232)
    (hc1 : l1.length ≤ c1) (hc2 : l2.length ≤ c2) (hc3 : l3.length ≤ c3) (h1 : l3.length < l1.length) (h2 : l3.length < l2.length) (hm : (mix3 l1 l2 l3).length = l3.length) :
    Calls Try.prog 4 #[.slice ao1 l1.length c1, .slice ao2 l2.length c2, .slice ao3 l3.length c3] w fun e w' => e = .returned (.bool true) ∧ Below w.heap.size w w' := by
  have Hb1 := hid hb1; have Hb2 := hid hb2; have Hb3 := hid hb3
  have HM := hid hm; have HS := hid (sumL_mix l1 l2 l3); have HG := hid (mix3_get l1 l2 l3)
  clear hb1 hb2 hb3 hm
  go_enter Try.func4, Try.ntmps4
  go_wp2
  go_loopw [8, 9] (fun x i wr => ∃ (k : Nat) (ao : Option Addr) (c : Nat), k ≤ l3.length ∧ i = .int .i64 k ∧ x = .slice ao k c ∧ w.heap.size ≤ wr.heap.size ∧ Below w.heap.size w wr ∧ wr.ownsRow w.heap.size 5 1 (.slice ao k c) k (bc ((mix3 l1 l2 l3).take k)))
    (fun _ i _ => l3.length - (intOf i).toNat)
  case atStart => exact ⟨0, none, 0, Nat.zero_le _, rfl, rfl, Nat.le_refl _, Below.refl _ _, World.ownsRow_nil _ _ _ _⟩
  case round =>
    obtain ⟨k, ao, c, hk, rfl, rfl, hsz, hbel, hown⟩ := hrel
    have O := hid hown; have L := hid hbel; clear hown hbel
    by_cases hlt : k < l3.length
    · obtain ⟨b1, o1, e1, hv1, _, _, hw1, hcell1⟩ := Hb1.out.form (by decide) (by omega)
      obtain ⟨b2, o2, e2, hv2, _, _, hw2, hcell2⟩ := Hb2.out.form (by decide) (by omega)
      obtain ⟨b3, o3, e3, hv3, _, _, hw3, hcell3⟩ := Hb3.out.form (by decide) (by omega)
      simp only [Value.slice.injEq] at hv1 hv2 hv3
      obtain ⟨rfl, _, rfl⟩ := hv1
      obtain ⟨rfl, _, rfl⟩ := hv2
      obtain ⟨rfl, _, rfl⟩ := hv3
      have g1 : wr.cell? ⟨b1, o1 + k, none⟩ = some (.int .u8 ((l1.getD k 0).toNat : Int)) := by
        rw [L.out.cell (p := ⟨b1, o1 + k, none⟩) hw1, hcell1 k (by omega), bc_get l1 k (by omega)]
      have g2 : wr.cell? ⟨b2, o2 + k, none⟩ = some (.int .u8 ((l2.getD k 0).toNat : Int)) := by
        rw [L.out.cell (p := ⟨b2, o2 + k, none⟩) hw2, hcell2 k (by omega), bc_get l2 k (by omega)]
      have g3 : wr.cell? ⟨b3, o3 + k, none⟩ = some (.int .u8 ((l3.getD k 0).toNat : Int)) := by
        rw [L.out.cell (p := ⟨b3, o3 + k, none⟩) hw3, hcell3 k (by omega), bc_get l3 k (by omega)]
      clear hcell1 hcell2 hcell3
      have hmk := HG.out k (by rw [HM.out]; exact hlt)
      have hsn : (mix3 l1 l2 l3).take (k + 1) = (mix3 l1 l2 l3).take k ++ [(mix3 l1 l2 l3).getD k 0] := by
        rw [List.take_succ_eq_append_getElem (by rw [HM.out]; exact hlt)]
        simp [List.getD, show k < (mix3 l1 l2 l3).length by rw [HM.out]; exact hlt]
      rw [hmk] at hsn
      have HSN := hid hsn; clear hsn hmk
      obtain ⟨x1, hx1⟩ : ∃ x, x = l1.getD k 0 := ⟨_, rfl⟩
      obtain ⟨x2, hx2⟩ : ∃ x, x = l2.getD k 0 := ⟨_, rfl⟩
      obtain ⟨x3, hx3⟩ : ∃ x, x = l3.getD k 0 := ⟨_, rfl⟩
      rw [← hx1] at g1 HSN
      rw [← hx2] at g2 HSN
      rw [← hx3] at g3 HSN
      have X1 := hid hx1; have X2 := hid hx2; have X3 := hid hx3
      clear hx1 hx2 hx3
      have hxb := hid (xor3_bits x1 x2 x3)
      have hx8 := UInt8.toNat_lt (x1 ^^^ x2 ^^^ x3)
      have i0 : (0 : Int) ≤ (k : Int) := by omega
      have i1 : (k : Int) < (l1.length : Int) := by omega
      have i2 : (k : Int) < (l2.length : Int) := by omega
      have i3 : (k : Int) < (l3.length : Int) := by omega
      go_wp2
      go_region_held3 (fun w' => w'.cell? ⟨b1, o1 + k, none⟩ = some (.int .u8 (x1.toNat : Int)) ∧ w'.cell? ⟨b2, o2 + k, none⟩ = some (.int .u8 (x2.toNat : Int)) ∧ w'.cell? ⟨b3, o3 + k, none⟩ = some (.int .u8 (x3.toNat : Int)))
        (first | exact hS | go_keep)
        ((refine step_app1 (w := wr) (by rfl) _ _ (by rfl) w.heap.size (.slice ao k c) k ((mix3 l1 l2 l3).take k) _ (by rfl) O.out wr.heap.size rfl (by rfl) (by rw [hxb.out]; omega) (by rw [hxb.out]; omega) (by omega) hsz ?_; intro g2' cap2 w2 hown2 hgrow2 hbel2 hsz2 hat2; have L2 := hid (hbel2 w L.out); have O2 := hid hown2; have hS := And.intro ((L2.out.cell (p := ⟨b1, o1 + k, none⟩) hw1).trans ((L.out.cell (p := ⟨b1, o1 + k, none⟩) hw1).symm.trans g1)) (And.intro ((L2.out.cell (p := ⟨b2, o2 + k, none⟩) hw2).trans ((L.out.cell (p := ⟨b2, o2 + k, none⟩) hw2).symm.trans g2)) ((L2.out.cell (p := ⟨b3, o3 + k, none⟩) hw3).trans ((L.out.cell (p := ⟨b3, o3 + k, none⟩) hw3).symm.trans g3)))))
      go_wp2
      go_roundw
      case rel =>
        have o2 := O2.out
        rw [hxb.out, Int.toNat_natCast, UInt8.ofNat_toNat, ← HSN.out] at o2
        exact ⟨k + 1, some ⟨g2', 0, none⟩, cap2, by omega, by go_num, rfl, hsz2, L2.out, o2⟩
      case measure => simp [intOf]; omega
    · obtain rfl : k = l3.length := by omega
      have o' := O.out
      rw [← HM.out, List.take_length, HM.out] at o'
      have hS0 : MixS w (.slice ao l3.length c) (.slice ao1 l3.length c1) (.slice ao2 l3.length c2) (.slice ao3 l3.length c3) l3.length (mix3 l1 l2 l3) (l1.take l3.length) (l2.take l3.length) (l3.take l3.length) wr.drew :=
        ⟨(Sl.own o').drew, ((Hb1.out.cut l3.length (by omega) (bc_take _ _)).below L.out (fun _ _ h => h)).drew, ((Hb2.out.cut l3.length (by omega) (bc_take _ _)).below L.out (fun _ _ h => h)).drew, ((Hb3.out.cut l3.length (by omega) (bc_take _ _)).below L.out (fun _ _ h => h)).drew, L.out.drew, hsz⟩
      have hlm : (mix3 l1 l2 l3).length = l3.length := HM.out
      have hs := HS.out
      rw [hlm] at hs
      have ht1 : (l1.take l3.length).length = l3.length := by rw [List.length_take]; omega
      have ht2 : (l2.take l3.length).length = l3.length := by rw [List.length_take]; omega
      have ht3 : (l3.take l3.length).length = l3.length := by rw [List.length_take]; omega
      have q0 := fun (wx : World) (hx : Sl wx 1 (.slice ao l3.length c) l3.length (bc (mix3 l1 l2 l3))) => sum_any (.slice ao l3.length c) (mix3 l1 l2 l3) wx (by omega) (by rw [hlm]; exact hx)
      have q1 := fun (wx : World) (hx : Sl wx 1 (.slice ao1 l3.length c1) l3.length (bc (l1.take l3.length))) => sum_any (.slice ao1 l3.length c1) (l1.take l3.length) wx (by omega) (by rw [ht1]; exact hx)
      have q2 := fun (wx : World) (hx : Sl wx 1 (.slice ao2 l3.length c2) l3.length (bc (l2.take l3.length))) => sum_any (.slice ao2 l3.length c2) (l2.take l3.length) wx (by omega) (by rw [ht2]; exact hx)
      have q3 := fun (wx : World) (hx : Sl wx 1 (.slice ao3 l3.length c3) l3.length (bc (l3.take l3.length))) => sum_any (.slice ao3 l3.length c3) (l3.take l3.length) wx (by omega) (by rw [ht3]; exact hx)
      have m1 := sumL_lt (l1.take l3.length); have m2 := sumL_lt (l2.take l3.length); have m3 := sumL_lt (l3.take l3.length)
      generalize sumL (mix3 l1 l2 l3) = s0 at *
      generalize sumL (l1.take l3.length) = s1 at *
      generalize sumL (l2.take l3.length) = s2 at *
      generalize sumL (l3.take l3.length) = s3 at *
      have hbe : (((s0 : Nat) : Int) == bits BinOp.xor IntKind.u32 (bits BinOp.xor IntKind.u32 (s1 : Int) s2) s3) = true := by
        rw [u32_xor_nat _ _ m1 m2, u32_xor_nat _ _ (xor_lt32 m1 m2) m3, ← hs]
        simp
      have Q0 := hid q0; have Q1 := hid q1; have Q2 := hid q2; have Q3 := hid q3; have HS0 := hid hS0
      clear q0 q1 q2 q3 hs hlm ht1 ht2 ht3 m1 m2 m3 hS0 o' HS
      have j0 : (0 : Int) ≤ (l3.length : Int) := by omega
      have j1 : (l3.length : Int) ≤ (c1 : Int) := by omega
      have j2 : (l3.length : Int) ≤ (c2 : Int) := by omega
      have j3 : (l3.length : Int) ≤ (c3 : Int) := by omega
      go_wp2
      go_region_held3 (fun w' => MixS w (.slice ao l3.length c) (.slice ao1 l3.length c1) (.slice ao2 l3.length c2) (.slice ao3 l3.length c3) l3.length (mix3 l1 l2 l3) (l1.take l3.length) (l2.take l3.length) (l3.take l3.length) w')
        (first | exact hS | exact HS0.out)
        (first
          | (go_at_call 14; ((with_reducible refine (Q0.out _ (MixS.s0 (by assumption))).mono ?_); rintro e w1 ⟨rfl, hb1⟩; have hS := MixS.next (by assumption) hb1))
          | (go_at_call 14; ((with_reducible refine (Q1.out _ (MixS.s1 (by assumption))).mono ?_); rintro e w1 ⟨rfl, hb1⟩; have hS := MixS.next (by assumption) hb1))
          | (go_at_call 14; ((with_reducible refine (Q2.out _ (MixS.s2 (by assumption))).mono ?_); rintro e w1 ⟨rfl, hb1⟩; have hS := MixS.next (by assumption) hb1))
          | (go_at_call 14; ((with_reducible refine (Q3.out _ (MixS.s3 (by assumption))).mono ?_); rintro e w1 ⟨rfl, hb1⟩; have hS := MixS.next (by assumption) hb1))
          | (go_at_call 17; refine (lives_any _).mono ?_; rintro e w1 ⟨rfl, hb1⟩; have hS := MixS.next (by assumption) hb1))
      go_wp2
      go_ret
      exact ⟨rfl, hS.s4⟩

theorem walk_FrameMixed (w : World) (v1 : Value) (l1 : List UInt8) (hb1 : Sl w 1 v1 l1.length (bc l1)) (hl1 : l1.length ≤ 140737488351232) (v2 : Value) (l2 : List UInt8) (hb2 : Sl w 1 v2 l2.length (bc l2)) (hl2 : l2.length ≤ 140737488351232)
    (v3 : Value) (l3 : List UInt8) (hb3 : Sl w 1 v3 l3.length (bc l3)) (hl3 : l3.length ≤ 140737488351232) :
    Calls Try.prog 4 #[v1, v2, v3] w fun e w' => e = .returned (.bool true) ∧ Below w.heap.size w w' := by
  obtain ⟨ao1, c1, rfl, hc1, _, _⟩ := hb1.shape
  obtain ⟨ao2, c2, rfl, hc2, _, _⟩ := hb2.shape
  obtain ⟨ao3, c3, rfl, hc3, _, _⟩ := hb3.shape
  have hm := mix3_length l1 l2 l3
  by_cases h1 : l1.length ≤ l2.length ∧ l1.length ≤ l3.length
  · exact mixed_a w ao1 ao2 ao3 c1 c2 c3 l1 l2 l3 hb1 hl1 hb2 hl2 hb3 hl3 hc1 hc2 hc3 h1.1 h1.2 (by omega)
  · by_cases h2 : l2.length < l1.length ∧ l2.length ≤ l3.length
    · exact mixed_b w ao1 ao2 ao3 c1 c2 c3 l1 l2 l3 hb1 hl1 hb2 hl2 hb3 hl3 hc1 hc2 hc3 h2.1 h2.2 (by omega)
    · exact mixed_c w ao1 ao2 ao3 c1 c2 c3 l1 l2 l3 hb1 hl1 hb2 hl2 hb3 hl3 hc1 hc2 hc3 (by omega) (by omega) (by omega)
end Go.Proofs.Ytecnjgiodnphcaa
