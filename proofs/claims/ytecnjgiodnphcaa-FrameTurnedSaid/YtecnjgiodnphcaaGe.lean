/- The walk of FrameTurned. -/
import Derived.Test.YtecnjgiodnphcaaGc
import Derived.Test.YtecnjgiodnphcaaFt
namespace Go.Proofs.Ytecnjgiodnphcaa
open Go.RowKit

theorem turned_getF (x : List UInt8) (fr p : Nat) (hx : x.length ≤ 65535) (hp : p ≠ 0) (hp2 : p < 4294967296) (h1 : 16 ≤ fr) (h2 : fr + 32 ≤ 8 * (x.length + 6)) :
    getF (flips (frameL x) fr p 32) 0 = ([], 0, 5) := by
  have hl : (flips (frameL x) fr p 32).length = x.length + 6 := by rw [flips_length, frameL_length]
  have ht : (flips (frameL x) fr p 32).take 2 = hd2 x.length := by
    rw [flips_take _ _ _ _ _ (by omega)]
    rfl
  have hn : frN (flips (frameL x) fr p 32) 0 = x.length := by
    generalize flips (frameL x) fr p 32 = y at *
    match y, ht with
    | a :: b :: t, ht =>
      simp only [List.take_succ_cons, List.take_zero, hd2, List.cons.injEq, and_true] at ht
      unfold frN
      simp only [List.getD, List.getElem?_cons_zero, List.getElem?_cons_succ, Option.getD_some, ht.1, ht.2, UInt8.toNat_ofNat']
      omega
  have ho := turned_open (hd2 x.length ++ x) (flips (frameL x) fr p 32) fr p (2 + x.length) hp hp2 (by simp [hd2]; omega) rfl
  unfold getF
  rw [if_neg (by omega), if_neg (by simp only [Int.toNat_zero, hl]; omega), if_neg (by simp only [Int.toNat_zero, hl, hn]; omega), if_pos]
  simp only [Int.toNat_zero, List.drop_zero, hn, Nat.zero_add]
  intro h
  refine ho ?_
  rw [h, List.take_of_length_le (by simp [hl]; omega)]

theorem bit32 (p k : Nat) (hp : p < 4294967296) (hk : k < 32) : bits .and .u32 ((p : Int) / 2 ^ k) 1 = ((p / 2 ^ k % 2 : Nat) : Int) := by
  have e : ((p : Int) / 2 ^ k) = ((p / 2 ^ k : Nat) : Int) := by rw [Int.natCast_ediv, Int.natCast_pow]; rfl
  have hle : p / 2 ^ k ≤ p := Nat.div_le_self _ _
  rw [e, show (1 : Int) = ((1 : Nat) : Int) by rfl, u32_and_nat _ 1 (by omega) (by decide), nat_mask1]

theorem own_cap' {w : World} {base : Nat} {e : TypeId} {size : Nat} {ao : Option Addr} {n cap : Nat} {xs : List Value} (h : w.ownsRow base e size (.slice ao n cap) n xs) : n ≤ cap := by
  obtain ⟨_, c', hv, hc, _⟩ := (Sl.own h).shape
  simp only [Value.slice.injEq] at hv
  omega
theorem from_place (a : Int) (n : Nat) (hn : n ≤ 65535) : ∃ fr : Nat, wrap64 (16 + wrap64 ((IntKind.u64.wrap a).tmod (8 * ((n : Int) + 6) - 47))) = (fr : Int) ∧ 16 ≤ fr ∧ fr + 32 ≤ 8 * (n + 6) := by
  have h0 : 0 ≤ IntKind.u64.wrap a := by rw [IntKind.wrap_u64]; exact Int.emod_nonneg _ (by decide)
  have h1 := Int.tmod_eq_emod_of_nonneg (b := 8 * ((n : Int) + 6) - 47) h0
  have h2 := Int.emod_nonneg (IntKind.u64.wrap a) (b := 8 * ((n : Int) + 6) - 47) (by omega)
  have h3 := Int.emod_lt_of_pos (IntKind.u64.wrap a) (b := 8 * ((n : Int) + 6) - 47) (by omega)
  rw [h1]
  generalize IntKind.u64.wrap a % (8 * ((n : Int) + 6) - 47) = m at *
  rw [IntWalk.wrap64_in m ⟨by omega, by omega⟩, IntWalk.wrap64_in _ ⟨by omega, by omega⟩]
  exact ⟨(16 + m).toNat, by omega, by omega, by omega⟩
theorem turn_byte (z m : Nat) (hz : z < 256) (hm : m < 8) : bits .xor .u8 (z : Int) (2 ^ m % 256) = ((z ^^^ 2 ^ m : Nat) : Int) := by
  have h2 : (2 : Nat) ^ m < 256 := Nat.lt_of_lt_of_le (Nat.pow_lt_pow_right (by decide) hm) (by decide)
  have e : (2 : Int) ^ m % 256 = ((2 ^ m : Nat) : Int) := by
    have e1 : (2 : Int) ^ m = ((2 ^ m : Nat) : Int) := by simp
    rw [e1]
    generalize (2 : Nat) ^ m = q at *
    omega
  rw [e, u8_xor_nat z (2 ^ m) hz h2]
theorem bc_flip1 (l : List UInt8) (j : Nat) : (bc l).set (j / 8) (.int .u8 (((l.getD (j / 8) 0).toNat ^^^ 2 ^ (j % 8) : Nat) : Int)) = bc (flip1 l j) := by
  have h2 : (2 : Nat) ^ (j % 8) < 256 := Nat.lt_of_lt_of_le (Nat.pow_lt_pow_right (by decide) (show j % 8 < 8 by omega)) (by decide)
  unfold flip1
  rw [← bc_set]
  congr 3
  rw [UInt8.toNat_xor, UInt8.toNat_ofNat', Nat.mod_eq_of_lt h2]

set_option maxRecDepth 100000 in
set_option maxHeartbeats 4000000 in
theorem turned_in (w : World) (v : Value) (x : List UInt8) (hb : Sl w 1 v x.length (bc x)) (hl : x.length ≤ 65535) (a : Int) (ha0 : -9223372036854775808 ≤ a) (ha : a ≤ 9223372036854775807) (p : Nat) (hp2 : p < 4294967296) (hp : p ≠ 0) :
    Calls Try.prog 8 #[v, .int .i64 a, .int .u32 p] w fun e w' => e = .returned (.bool true) ∧ Below w.heap.size w w' := by
  have hP := put_in (.slice none 0 0) v [] x w (by decide) hl (Sl.nil _ _) hb
  rw [List.nil_append] at hP
  have hfl := frameL_length x
  rw [hfl] at hP
  have HFL := hid hfl
  have hTF := hid (fun fr => turned_getF x fr p hl hp hp2)
  generalize frameL x = F at *
  have HP := hid hP
  have hp0 : ((p : Int) == 0) = false := by simp; omega
  obtain ⟨fr, hfe, hf1, hf2⟩ := from_place a x.length hl
  obtain ⟨ao, c, rfl, _, _, _⟩ := hb.shape
  clear hb hP hfl hp
  go_enter Try.func8, Try.ntmps8
  go_wp2_with fail
  refine HP.out.mono ?_
  rintro e w1 ⟨ao1, c1, rfl, hb1, hown1⟩
  have L1 := hid hb1; have O1 := hid hown1; have s1 := hb1.size
  have hd6 : decide (((x.length + 6 : Nat) : Int) < 6) = false := by simp; omega
  clear hb1 hown1
  go_wp2_with (at_builtin; refine wpList_appS rfl (.tmp 43) (.tmp 44) 22 rfl w.heap.size (.slice (some ⟨w1.heap.size, 0, none⟩) 0 0) 0 [] rfl (own_made _ _ 0 w1.heap.size rfl s1 (by unfold maxLen; omega) (by simp)) (.slice ao1 (x.length + 6) c1) (x.length + 6) F rfl (Src.ofSl Try.underlying22 ((Sl.own O1.out).alloc _) (bc_one F)) (.inl (by simp)) (by omega) (by simp; omega) _ rfl ?_; intro g cap w2 hown2 hgrow2 hbel2 hsz2 hat2; simp only [Nat.zero_add, List.nil_append] at hown2 ⊢; have O2 := hid hown2; have L2 := hid (hbel2 w (L1.out.alloc s1 _)); have hcap := own_cap' hown2; clear hown2 hgrow2 hbel2 hat2)
  clear hfe hd6 hp0
  go_loopw [11] (fun i wr => ∃ k, k ≤ 32 ∧ i = .int .i64 ((k : Nat) : Int) ∧ w.heap.size ≤ wr.heap.size ∧ Below w.heap.size w wr ∧
      wr.ownsRow w.heap.size 5 1 (.slice (some ⟨g, 0, none⟩) (x.length + 6) cap) (x.length + 6) (bc (flips F fr p k)))
    (fun i _ => 32 - (intOf i).toNat)
  case atStart => exact ⟨0, by omega, rfl, hsz2, L2.out, O2.out⟩
  case round =>
    obtain ⟨k, hk, rfl, hsz, hbel, hown⟩ := hrel
    have O := hid hown; have L := hid hbel
    clear hown hbel
    by_cases hlt : k < 32
    · have hb1 := bit32 p k hp2 hlt
      have hfll : (flips F fr p k).length = x.length + 6 := by rw [flips_length, HFL.out]
      have hst : flips F fr p (k + 1) = if p / 2 ^ k % 2 = 1 then flip1 (flips F fr p k) (fr + k) else flips F fr p k := rfl
      have hix : (fr + k) / 8 < x.length + 6 := by omega
      have hcg : wr.cell? ⟨g, (fr + k) / 8, none⟩ = some (.int .u8 (((flips F fr p k).getD ((fr + k) / 8) 0).toNat : Int)) := by
        rw [O.out.cellAt _ (by omega), bc_get _ _ (by omega)]
      have hfg : wr.frozen? ⟨g, (fr + k) / 8, none⟩ = false := O.out.frozenAt _
      have hz8 : ((flips F fr p k).getD ((fr + k) / 8) 0).toNat < 256 := UInt8.toNat_lt _
      have hbf := hid (bc_flip1 (flips F fr p k) (fr + k))
      generalize ((flips F fr p k).getD ((fr + k) / 8) 0).toNat = z at *
      have htb := hid (turn_byte z ((fr + k) % 8) hz8 (by omega))
      by_cases hbit : p / 2 ^ k % 2 = 1
      · have hd : (bits .and .u32 ((p : Int) / 2 ^ k) 1 == 1) = true := by rw [hb1, hbit]; rfl
        rw [if_pos hbit] at hst
        have HS := hid hst
        clear hst hbit hb1 hfll
        go_wp2
        go_roundw
        case rel =>
          rw [htb.out]
          refine ⟨k + 1, by omega, by go_num, by simpa [World.setCell] using hsz, L.out.setCell (by exact (O.out.lt g rfl).1) _, ?_⟩
          rw [HS.out, ← hbf.out]
          exact own_store O.out ((fr + k) / 8) hix _
        case measure => simp [intOf]; omega
      · have hd : (bits .and .u32 ((p : Int) / 2 ^ k) 1 == 1) = false := by rw [hb1, show p / 2 ^ k % 2 = 0 by omega]; rfl
        rw [if_neg hbit] at hst
        have HS := hid hst
        clear hst hbit hb1 hfll hcg
        go_wp2
        go_roundw
        case rel => exact ⟨k + 1, by omega, by go_num, hsz, L.out, by rw [HS.out]; exact O.out⟩
        case measure => simp [intOf]; omega
    · obtain rfl : k = 32 := by omega
      have hG := get_any (.slice (some ⟨g, 0, none⟩) (x.length + 6) cap) (flips F fr p 32) 0 wr (by rw [flips_length, HFL.out]; omega) (by decide) (by decide) (by rw [flips_length, HFL.out]; exact Sl.own O.out)
      rw [hTF.out fr hf1 hf2] at hG
      have HG := hid hG; clear hG
      go_wp2_with fail
      refine HG.out.mono ?_
      rintro e w5 ⟨ao5, c5, rfl, hb5, _⟩
      have L5 := hid hb5; have s5 := hb5.size; clear hb5
      go_wp2_with fail
      refine (lives_any w5).mono ?_
      rintro e w6 ⟨rfl, hb6⟩
      have L6 := hid hb6; clear hb6
      go_wp2
      go_ret
      exact ⟨rfl, (L.out.trans (L5.out.mono hsz)).trans (L6.out.mono (by omega))⟩

set_option maxRecDepth 100000 in
set_option maxHeartbeats 4000000 in
theorem turned_zero (w : World) (v : Value) (x : List UInt8) (hb : Sl w 1 v x.length (bc x)) (hl : x.length ≤ 65535) (a : Int) (ha0 : -9223372036854775808 ≤ a) (ha : a ≤ 9223372036854775807) (p : Nat) (hp1 : p = 1) :
    Calls Try.prog 8 #[v, .int .i64 a, .int .u32 0] w fun e w' => e = .returned (.bool true) ∧ Below w.heap.size w w' := by
  have hP := put_in (.slice none 0 0) v [] x w (by decide) hl (Sl.nil _ _) hb
  rw [List.nil_append] at hP
  have hfl := frameL_length x
  rw [hfl] at hP
  have HFL := hid hfl
  have hTF := hid (fun fr => turned_getF x fr p hl (by rw [hp1]; decide) (by rw [hp1]; decide))
  generalize frameL x = F at *
  have HP := hid hP
  have HP1 := hid hp1; clear hp1
  obtain ⟨fr, hfe, hf1, hf2⟩ := from_place a x.length hl
  obtain ⟨ao, c, rfl, _, _, _⟩ := hb.shape
  clear hb hP hfl
  go_enter Try.func8, Try.ntmps8
  go_wp2_with fail
  refine HP.out.mono ?_
  rintro e w1 ⟨ao1, c1, rfl, hb1, hown1⟩
  have L1 := hid hb1; have O1 := hid hown1; have s1 := hb1.size
  have hd6 : decide (((x.length + 6 : Nat) : Int) < 6) = false := by simp; omega
  clear hb1 hown1
  go_wp2_with (at_builtin; refine wpList_appS rfl (.tmp 43) (.tmp 44) 22 rfl w.heap.size (.slice (some ⟨w1.heap.size, 0, none⟩) 0 0) 0 [] rfl (own_made _ _ 0 w1.heap.size rfl s1 (by unfold maxLen; omega) (by simp)) (.slice ao1 (x.length + 6) c1) (x.length + 6) F rfl (Src.ofSl Try.underlying22 ((Sl.own O1.out).alloc _) (bc_one F)) (.inl (by simp)) (by omega) (by simp; omega) _ rfl ?_; intro g cap w2 hown2 hgrow2 hbel2 hsz2 hat2; simp only [Nat.zero_add, List.nil_append] at hown2 ⊢; have O2 := hid hown2; have L2 := hid (hbel2 w (L1.out.alloc s1 _)); have hcap := own_cap' hown2; clear hown2 hgrow2 hbel2 hat2)
  clear hfe hd6
  go_loopw [11] (fun i wr => ∃ k, k ≤ 32 ∧ i = .int .i64 ((k : Nat) : Int) ∧ w.heap.size ≤ wr.heap.size ∧ Below w.heap.size w wr ∧
      wr.ownsRow w.heap.size 5 1 (.slice (some ⟨g, 0, none⟩) (x.length + 6) cap) (x.length + 6) (bc (flips F fr p k)))
    (fun i _ => 32 - (intOf i).toNat)
  case atStart => exact ⟨0, by omega, rfl, hsz2, L2.out, O2.out⟩
  case round =>
    obtain ⟨k, hk, rfl, hsz, hbel, hown⟩ := hrel
    have O := hid hown; have L := hid hbel
    clear hown hbel
    by_cases hlt : k < 32
    · have hb1 : bits .and .u32 ((1 : Int) / 2 ^ k) 1 = ((p / 2 ^ k % 2 : Nat) : Int) := by rw [HP1.out]; exact bit32 1 k (by decide) hlt
      have hfll : (flips F fr p k).length = x.length + 6 := by rw [flips_length, HFL.out]
      have hst : flips F fr p (k + 1) = if p / 2 ^ k % 2 = 1 then flip1 (flips F fr p k) (fr + k) else flips F fr p k := rfl
      have hix : (fr + k) / 8 < x.length + 6 := by omega
      have hcg : wr.cell? ⟨g, (fr + k) / 8, none⟩ = some (.int .u8 (((flips F fr p k).getD ((fr + k) / 8) 0).toNat : Int)) := by
        rw [O.out.cellAt _ (by omega), bc_get _ _ (by omega)]
      have hfg : wr.frozen? ⟨g, (fr + k) / 8, none⟩ = false := O.out.frozenAt _
      have hz8 : ((flips F fr p k).getD ((fr + k) / 8) 0).toNat < 256 := UInt8.toNat_lt _
      have hbf := hid (bc_flip1 (flips F fr p k) (fr + k))
      generalize ((flips F fr p k).getD ((fr + k) / 8) 0).toNat = z at *
      have htb := hid (turn_byte z ((fr + k) % 8) hz8 (by omega))
      by_cases hbit : p / 2 ^ k % 2 = 1
      · have hd : (bits .and .u32 ((1 : Int) / 2 ^ k) 1 == 1) = true := by rw [hb1, hbit]; rfl
        rw [if_pos hbit] at hst
        have HS := hid hst
        clear hst hbit hb1 hfll
        go_wp2
        go_roundw
        case rel =>
          rw [htb.out]
          refine ⟨k + 1, by omega, by go_num, by simpa [World.setCell] using hsz, L.out.setCell (by exact (O.out.lt g rfl).1) _, ?_⟩
          rw [HS.out, ← hbf.out]
          exact own_store O.out ((fr + k) / 8) hix _
        case measure => simp [intOf]; omega
      · have hd : (bits .and .u32 ((1 : Int) / 2 ^ k) 1 == 1) = false := by rw [hb1, show p / 2 ^ k % 2 = 0 by omega]; rfl
        rw [if_neg hbit] at hst
        have HS := hid hst
        clear hst hbit hb1 hfll hcg
        go_wp2
        go_roundw
        case rel => exact ⟨k + 1, by omega, by go_num, hsz, L.out, by rw [HS.out]; exact O.out⟩
        case measure => simp [intOf]; omega
    · obtain rfl : k = 32 := by omega
      have hG := get_any (.slice (some ⟨g, 0, none⟩) (x.length + 6) cap) (flips F fr p 32) 0 wr (by rw [flips_length, HFL.out]; omega) (by decide) (by decide) (by rw [flips_length, HFL.out]; exact Sl.own O.out)
      rw [hTF.out fr hf1 hf2] at hG
      have HG := hid hG; clear hG
      go_wp2_with fail
      refine HG.out.mono ?_
      rintro e w5 ⟨ao5, c5, rfl, hb5, _⟩
      have L5 := hid hb5; have s5 := hb5.size; clear hb5
      go_wp2_with fail
      refine (lives_any w5).mono ?_
      rintro e w6 ⟨rfl, hb6⟩
      have L6 := hid hb6; clear hb6
      go_wp2
      go_ret
      exact ⟨rfl, (L.out.trans (L5.out.mono hsz)).trans (L6.out.mono (by omega))⟩

set_option maxRecDepth 100000 in
set_option maxHeartbeats 4000000 in
theorem turned_big (w : World) (v : Value) (x : List UInt8) (hb : Sl w 1 v x.length (bc x)) (hl : 65535 < x.length) (a p : Int) :
    Calls Try.prog 8 #[v, .int .i64 a, .int .u32 p] w fun e w' => e = .returned (.bool true) ∧ Below w.heap.size w w' := by
  obtain ⟨ao, c, rfl, _, _, _⟩ := hb.shape
  clear hb
  go_enter Try.func8, Try.ntmps8
  go_wp2_with fail
  refine (lives_any w).mono ?_
  rintro e w6 ⟨rfl, hb6⟩
  have L6 := hid hb6; clear hb6
  go_wp2
  go_ret
  exact ⟨rfl, L6.out⟩

theorem walk_FrameTurned (w : World) (v : Value) (x : List UInt8) (hb : Sl w 1 v x.length (bc x)) (_hl : x.length ≤ 140737488351232) (a : Int) (ha0 : -9223372036854775808 ≤ a) (ha : a ≤ 9223372036854775807) (p : Int) (hp0 : 0 ≤ p) (hp : p ≤ 4294967295) :
    Calls Try.prog 8 #[v, .int .i64 a, .int .u32 p] w fun e w' => e = .returned (.bool true) ∧ Below w.heap.size w w' := by
  by_cases hx : 65535 < x.length
  · exact turned_big w v x hb hx a p
  · obtain ⟨p, rfl⟩ := Int.eq_ofNat_of_zero_le hp0
    by_cases h : p = 0
    · subst h
      exact turned_zero w v x hb (by omega) a ha0 ha 1 rfl
    · exact turned_in w v x hb (by omega) a ha0 ha p (by omega) h
end Go.Proofs.Ytecnjgiodnphcaa
