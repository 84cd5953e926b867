/- Contracts of the reference gaugeref01: Digit, Digits, put. -/
import Derived.Test.YtcnfhabljogniaaG
namespace Go.Proofs.Ytcnfhabljogniaa
open Go.RowKit

set_option maxRecDepth 100000 in
set_option maxHeartbeats 1000000 in
theorem refDigit_any (u k : Nat) (w : World) (hu : u < 18446744073709551616) (hk : k ≤ 64) :
    Calls Try.prog 54 #[.int .u64 u, .int .i64 k] w fun e w' => e = .returned (.int .u64 (u / 2 ^ k % 2 : Nat)) ∧ w' = w := by
  have hu' : u ≤ 18446744073709551615 := by omega
  clear hu
  go_enter Try.func54, Try.ntmps54
  go_wp2
  go_loop [0, 5] (fun v i => ∃ m : Nat, m ≤ k ∧ i = .int .i64 m ∧ v = .int .u64 (u / 2 ^ m : Nat))
    (fun _ i => k - (intOf i).toNat)
  case atStart => exact ⟨0, Nat.zero_le _, rfl, by simp⟩
  case round =>
    obtain ⟨m, hm, rfl, rfl⟩ := hrel
    have hq := hid (div_pow_succ u m)
    obtain ⟨y, hy⟩ : ∃ y, y = u / 2 ^ m := ⟨_, rfl⟩
    have hy8 : y ≤ 18446744073709551615 := by rw [hy]; exact Nat.le_trans (Nat.div_le_self _ _) hu'
    rw [← hy] at hq ⊢
    have Hy := hid hy; clear hy
    by_cases hlt : m < k
    · go_wp2
      go_round
      case rel => exact ⟨m + 1, by omega, by go_num, by rw [hq.out]; go_num⟩
      case measure => simp [intOf]; omega
    · obtain rfl : m = k := by omega
      go_wp2
      go_ret
      exact ⟨ret_int (by show (y : Int) % 2 = _; rw [Hy.out]; simp), rfl⟩

set_option maxRecDepth 100000 in
set_option maxHeartbeats 1000000 in
theorem refDigits_any (u : Nat) (w : World) (hu : u < 18446744073709551616) :
    Calls Try.prog 44 #[.int .u64 u] w fun e w' => e = .returned (.int .i64 (Lib.bitLen u)) ∧ w' = w := by
  have hu' : u ≤ 18446744073709551615 := by omega
  have hu2 : u < 2 ^ 64 := by omega
  have Hu2 := hid hu2
  clear hu hu2
  go_enter Try.func44, Try.ntmps44
  go_wp2
  go_loop [0, 3] (fun v i => ∃ m y f : Nat, m + f = 64 ∧ i = .int .i64 m ∧ v = .int .u64 y ∧ y < 2 ^ f ∧ y ≤ u ∧ Lib.bitLen u = m + Lib.bitLenAux f y)
    (fun v _ => (intOf v).toNat)
  case atStart => exact ⟨0, u, 64, rfl, rfl, rfl, Hu2.out, Nat.le_refl _, by simp [Lib.bitLen]⟩
  case round =>
    obtain ⟨m, y, f, hmf, rfl, rfl, hy, hyu, he⟩ := hrel
    have Hmf := hid hmf; have Hy := hid hy; have He := hid he
    have hm64 : m ≤ 64 := by omega
    clear hmf hy he
    by_cases h0 : 0 < y
    · go_wp2
      have hmf := Hmf.out; have hy := Hy.out
      obtain ⟨f', rfl⟩ : ∃ f', f = f' + 1 := ⟨f - 1, by
        rcases Nat.eq_zero_or_pos f with h | h
        · subst h; simp at hy; omega
        · omega⟩
      have e1 : Lib.bitLenAux (f' + 1) y = 1 + Lib.bitLenAux f' (y / 2) := by rw [Lib.bitLenAux, if_neg (by omega)]
      go_round
      case rel => exact ⟨m + 1, y / 2, f', by omega, by go_num, by go_num, by rw [Nat.pow_succ] at hy; omega, by omega, by rw [He.out, e1]; omega⟩
      case measure => simp [intOf]; omega
    · go_wp2
      go_ret
      refine ⟨ret_int ?_, rfl⟩
      show (m : Int) = _
      have hz : y = 0 := by omega
      have e1 : Lib.bitLenAux f y = 0 := by
        subst hz
        cases f <;> simp [Lib.bitLenAux]
      rw [He.out, e1, Nat.add_zero]

theorem bit_clear {l : List UInt8} {n : Nat} (h : Rt l n) : bitAt l n = 0 := by
  by_cases hin : n < 8 * l.length
  · exact h.2 _ (Nat.le_refl _) hin
  · unfold bitAt; simp [List.getD, List.getElem?_eq_none (show l.length ≤ n / 8 by omega)]

/-- What ref.put does to the last byte is what pushBit does. -/
theorem push_add (l l0 : List UInt8) (n : Nat) (hl : l.length = (n + 7) / 8) (hz : bitAt l n = 0) (h0 : l0 = if n % 8 = 0 then l ++ [0] else l) :
    (bc l0).set (n / 8) (.int .u8 (((l0.getD (n / 8) 0).toNat : Int) + ((2 ^ (7 - n % 8) : Nat) : Int))) = bc (pushBit l n true) ∧ (l0.getD (n / 8) 0).toNat + 2 ^ (7 - n % 8) < 256 := by
  have hb : bitAt l0 n = 0 := by
    rw [h0]; split
    · rw [bitAt_append_zero]; exact hz
    · exact hz
  have hlt : (l0.getD (n / 8) 0).toNat < 256 := UInt8.toNat_lt _
  unfold bitAt at hb
  have hb2 := byte_add_lt _ (7 - n % 8) hlt (by omega) hb
  refine ⟨?_, hb2⟩
  have e : pushBit l n true = l0.set (n / 8) (UInt8.ofNat ((l0.getD (n / 8) 0).toNat + 2 ^ (7 - n % 8))) := by rw [h0]; rfl
  rw [e, ← bc_set]
  congr 2
  rw [UInt8.toNat_ofNat', Nat.mod_eq_of_lt hb2]
  omega

theorem grown_setPut {w w2 : World} {v : Value} {g H : Nat} (hg : w.grownBy w2 v.ownBlock) (hat : v.ownBlock = some g ∨ g = H) (hH : v.ownBlock = some g ∨ w.heap.size ≤ g) (j : Nat) (u : Value) : w.grownBy (w2.setCell ⟨g, j, none⟩ u) v.ownBlock := by
  refine ⟨hg.os, hg.tape, hg.output, by simpa [World.setCell] using hg.size, fun k hk hne => ?_⟩
  rw [Below.heap_setCell w2 _ u k (by
    show k ≠ g
    rintro rfl
    rcases hH with h | h
    · exact hne h.symm
    · omega)]
  exact hg.block k hk hne
/-- What ref.put leaves. -/
def PutRow (base : Nat) (v : Value) (l : List UInt8) (w : World) (e : Ending) (w' : World) : Prop :=
  ∃ ao c, e = .returned (.slice ao l.length c) ∧ (∀ W, Below base W w → Below base W w') ∧ base ≤ w'.heap.size ∧ w.grownBy w' v.ownBlock ∧ w'.ownsRow base 5 1 (.slice ao l.length c) l.length (bc l)

set_option maxRecDepth 100000 in
set_option maxHeartbeats 2000000 in
theorem refput_any (v : Value) (l : List UInt8) (n bit base : Nat) (w : World) (hbit : bit < 2) (hR : Rt l n) (hn : n ≤ 1400000000000000) (hown : w.ownsRow base 5 1 v l.length (bc l)) (hbase : base ≤ w.heap.size) :
    Calls Try.prog 53 #[v, .int .i64 n, .int .u64 bit] w (PutRow base v (pushBit l n (decide (bit = 1))) w) := by
  have hlen := hR.1
  have hlen' : l.length ≤ 190000000000000 := by omega
  have hz := bit_clear hR
  have O := hid hown; have Hz := hid hz; have Hlen := hid hlen
  clear hown hz
  by_cases h8 : n % 8 = 0
  · have H8 : ((n : Int) % 8 == 0) = true := by simp; omega
    have HL0 : Hid (l ++ [0] = if n % 8 = 0 then l ++ [0] else l) := by show _ = _; rw [if_pos h8]
    have Hh := hid h8
    clear h8 hlen
    go_enter Try.func53, Try.ntmps53
    go_wp2_with (at_builtin; refine wpList_app1 rfl (.tmp 12) (.tmp 13) rfl base v l.length l 0 rfl O.out w.heap.size rfl rfl (by omega) (by omega) (by omega) hbase ?_; intro g2 cap2 w2 hown2 hgrow2 hbel2 hsz2 hat2; have O2 := hid (show w2.ownsRow base 5 1 (.slice (some ⟨g2, 0, none⟩) (l ++ [0]).length cap2) (l ++ [0]).length (bc (l ++ [0])) by simpa using hown2); have G2 := hid hgrow2; have L2 := hid hbel2; have hl00 : (l ++ [(0 : UInt8)]).length = l.length + 1 := (by simp); rw [← hl00]; have AT := hid hat2; clear hown2 hgrow2 hbel2 hat2)
    go_loop [7, 8] (fun v i => ∃ m : Nat, m ≤ 7 - n % 8 ∧ i = .int .i64 m ∧ v = .int .u8 (2 ^ m : Nat))
      (fun _ i => 7 - n % 8 - (intOf i).toNat)
    case atStart => exact ⟨0, Nat.zero_le _, rfl, rfl⟩
    case round =>
      obtain ⟨m, hm, rfl, rfl⟩ := hrel
      have hq := hid (show 2 ^ (m + 1) = 2 ^ m * 2 from Nat.pow_succ ..)
      have hy8 : 2 ^ m ≤ 128 := Nat.le_trans (Nat.pow_le_pow_right (by decide) (show m ≤ 7 by omega)) (by decide)
      by_cases hlt : m < 7 - n % 8
      · have hlt' : (m : Int) < 7 - (n : Int) % 8 := by omega
        have hy7 : 2 ^ m ≤ 64 := Nat.le_trans (Nat.pow_le_pow_right (by decide) (show m ≤ 6 by omega)) (by decide)
        obtain ⟨y, hy⟩ : ∃ y, y = 2 ^ m := ⟨_, rfl⟩
        rw [← hy] at hq hy7 hy8 ⊢
        have Hy := hid hy; clear hy
        go_wp2
        go_round
        case rel => exact ⟨m + 1, by omega, by go_num, by rw [hq.out]; go_num⟩
        case measure => simp [intOf]; omega
      · have hlt' : ¬ (m : Int) < 7 - (n : Int) % 8 := by omega
        obtain rfl : m = 7 - n % 8 := by omega
        have hpa := push_add l (l ++ [0]) n Hlen.out Hz.out HL0.out
        have hix : n / 8 < (l ++ [0]).length := by have h1 := HL0.out; have h2 := Hlen.out; rw [h1]; split <;> (try simp) <;> omega
        obtain ⟨z, hzz⟩ : ∃ z : Nat, z = ((l ++ [0]).getD (n / 8) 0).toNat := ⟨_, rfl⟩
        obtain ⟨y, hy⟩ : ∃ y, y = 2 ^ (7 - n % 8) := ⟨_, rfl⟩
        rw [← hzz, ← hy] at hpa
        rw [← hy] at hq hy8 ⊢
        have hzy := hpa.2
        have HPA := hid hpa.1
        have Hy := hid hy
        clear hpa hy
        have hcg : w2.cell? ⟨g2, n / 8, none⟩ = some (.int .u8 (z : Int)) := by
          rw [O2.out.cellAt _ (by omega), bc_get _ _ hix, ← hzz]
        have hfg : w2.frozen? ⟨g2, n / 8, none⟩ = false := O2.out.frozenAt _
        have Hzz := hid hzz; clear hzz
        by_cases hb1 : bit = 1
        · subst hb1
          go_wp2
          go_ret
          have hl1 : (pushBit l n true).length = (l ++ [0]).length := by rw [← bc_length (pushBit l n true), ← HPA.out]; simp
          refine ⟨some ⟨g2, 0, none⟩, cap2, by show Ending.returned (Value.slice _ _ _) = _; (rw [hl1] <;> simp), fun W hW => (L2.out W hW).setCell (by exact (O2.out.lt g2 rfl).1) _, by simpa [World.setCell] using hsz2, grown_setPut G2.out AT.out (AT.out.imp id (fun h => by omega)) _ _, ?_⟩
          rw [hl1, ← HPA.out]
          exact own_store O2.out (n / 8) hix _
        · obtain rfl : bit = 0 := by omega
          go_wp2
          go_ret
          have hl1 : pushBit l n false = (l ++ [0]) := by rw [push_miss]; exact HL0.out.symm
          refine ⟨some ⟨g2, 0, none⟩, cap2, by show Ending.returned (Value.slice _ _ _) = _; (rw [hl1] <;> simp), L2.out, hsz2, G2.out, ?_⟩
          rw [hl1]
          exact O2.out
  · have H8 : ((n : Int) % 8 == 0) = false := by simp; omega
    have HL0 : Hid (l = if n % 8 = 0 then l ++ [0] else l) := by show _ = _; rw [if_neg h8]
    have hpos : 0 < l.length := by omega
    obtain ⟨g, cap, rfl, _, hgl, hcap, _⟩ := ownsRow_form O.out (by
      rintro rfl
      rcases O.out.2 with ⟨_, h0⟩ | ⟨_, _, _, h0, _⟩
      · omega
      · cases h0)
    have Hh := hid h8
    have LB : Hid (∀ W, Below base W w → Below base W w) := fun _ h => h
    clear h8 hlen
    go_enter Try.func53, Try.ntmps53
    go_wp2
    go_loop [7, 8] (fun v i => ∃ m : Nat, m ≤ 7 - n % 8 ∧ i = .int .i64 m ∧ v = .int .u8 (2 ^ m : Nat))
      (fun _ i => 7 - n % 8 - (intOf i).toNat)
    case atStart => exact ⟨0, Nat.zero_le _, rfl, rfl⟩
    case round =>
      obtain ⟨m, hm, rfl, rfl⟩ := hrel
      have hq := hid (show 2 ^ (m + 1) = 2 ^ m * 2 from Nat.pow_succ ..)
      have hy8 : 2 ^ m ≤ 128 := Nat.le_trans (Nat.pow_le_pow_right (by decide) (show m ≤ 7 by omega)) (by decide)
      by_cases hlt : m < 7 - n % 8
      · have hlt' : (m : Int) < 7 - (n : Int) % 8 := by omega
        have hy7 : 2 ^ m ≤ 64 := Nat.le_trans (Nat.pow_le_pow_right (by decide) (show m ≤ 6 by omega)) (by decide)
        obtain ⟨y, hy⟩ : ∃ y, y = 2 ^ m := ⟨_, rfl⟩
        rw [← hy] at hq hy7 hy8 ⊢
        have Hy := hid hy; clear hy
        go_wp2
        go_round
        case rel => exact ⟨m + 1, by omega, by go_num, by rw [hq.out]; go_num⟩
        case measure => simp [intOf]; omega
      · have hlt' : ¬ (m : Int) < 7 - (n : Int) % 8 := by omega
        obtain rfl : m = 7 - n % 8 := by omega
        have hpa := push_add l l n Hlen.out Hz.out HL0.out
        have hix : n / 8 < l.length := by have h1 := HL0.out; have h2 := Hlen.out; rw [h1]; split <;> (try simp) <;> omega
        obtain ⟨z, hzz⟩ : ∃ z : Nat, z = (l.getD (n / 8) 0).toNat := ⟨_, rfl⟩
        obtain ⟨y, hy⟩ : ∃ y, y = 2 ^ (7 - n % 8) := ⟨_, rfl⟩
        rw [← hzz, ← hy] at hpa
        rw [← hy] at hq hy8 ⊢
        have hzy := hpa.2
        have HPA := hid hpa.1
        have Hy := hid hy
        clear hpa hy
        have hcg : w.cell? ⟨g, n / 8, none⟩ = some (.int .u8 (z : Int)) := by
          rw [O.out.cellAt _ (by omega), bc_get _ _ hix, ← hzz]
        have hfg : w.frozen? ⟨g, n / 8, none⟩ = false := O.out.frozenAt _
        have Hzz := hid hzz; clear hzz
        by_cases hb1 : bit = 1
        · subst hb1
          go_wp2
          go_ret
          have hl1 : (pushBit l n true).length = l.length := by rw [← bc_length (pushBit l n true), ← HPA.out]; simp
          refine ⟨some ⟨g, 0, none⟩, cap, by show Ending.returned (Value.slice _ _ _) = _; (rw [hl1] <;> simp), fun W hW => (LB.out W hW).setCell (by exact (O.out.lt g rfl).1) _, by simpa [World.setCell] using hbase, grown_setCell (World.grownBy.refl _ _) _ _ rfl, ?_⟩
          rw [hl1, ← HPA.out]
          exact own_store O.out (n / 8) hix _
        · obtain rfl : bit = 0 := by omega
          go_wp2
          go_ret
          have hl1 : pushBit l n false = l := by rw [push_miss]; exact HL0.out.symm
          refine ⟨some ⟨g, 0, none⟩, cap, by show Ending.returned (Value.slice _ _ _) = _; (rw [hl1] <;> simp), LB.out, hbase, World.grownBy.refl _ _, ?_⟩
          rw [hl1]
          exact O.out
end Go.Proofs.Ytcnfhabljogniaa
