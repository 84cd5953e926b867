/- Contracts of package bits: the writer. -/
import Derived.Test.YtcnfhabljogniaaA
import Derived.Test.YtcnfhabljogniaaAp
import Derived.BigRegion
import Derived.RegionTactic
import Derived.Laws.BitsAllLaws
namespace Go.Proofs.Ytcnfhabljogniaa
open Go.RowKit



/-- The bits that the walk shows, in plain words. -/
theorem shr_bit (u k : Nat) (hu : u < 18446744073709551616) (hk : k ≤ 64) : bits .and .u64 ((u : Int) / 2 ^ k) 1 = ((u / 2 ^ k % 2 : Nat) : Int) := by
  have h0 : (0 : Int) ≤ (u : Int) / 2 ^ k := Int.ediv_nonneg (by omega) (Int.pow_nonneg (by decide))
  have e : ((u : Int) / 2 ^ k) = ((u / 2 ^ k : Nat) : Int) := by rw [Int.natCast_ediv, Int.natCast_pow]; rfl
  have hle : u / 2 ^ k ≤ u := Nat.div_le_self _ _
  rw [e, and_one_u64 _ (by omega) (by omega)]
  omega

theorem or_bit : ∀ m : Fin 8, ∀ z : Fin 256, z.val / 2 ^ (7 - m.val) % 2 = 0 → z.val ||| (128 / 2 ^ m.val) = z.val + 2 ^ (7 - m.val) := by decide +kernel

/-- '|= 128 >> (n % 8)' where the bit is clear. -/
theorem or_byte (z m : Nat) (hz : z < 256) (hm : m < 8) (hc : z / 2 ^ (7 - m) % 2 = 0) : bits .or .u8 (z : Int) (128 / 2 ^ m) = ((z + 2 ^ (7 - m) : Nat) : Int) := by
  have e : (128 : Int) / 2 ^ m = ((128 / 2 ^ m : Nat) : Int) := by rw [Int.natCast_ediv, Int.natCast_pow]; rfl
  have h1 : 128 / 2 ^ m < 256 := Nat.lt_of_le_of_lt (Nat.div_le_self _ _) (by decide)
  rw [e, u8_or_nat z _ hz h1, or_bit ⟨m, hm⟩ ⟨z, hz⟩ hc]

/-- What the code does to the last byte is what pushBit does. -/
theorem push_hit (l l0 : List UInt8) (n : Nat) (hl : l.length = (n + 7) / 8) (hz : bitAt l n = 0) (h0 : l0 = if n % 8 = 0 then l ++ [0] else l) :
    (bc l0).set (n / 8) (.int .u8 (bits .or .u8 ((l0.getD (n / 8) 0).toNat : Int) (128 / 2 ^ (n % 8)))) = bc (pushBit l n true) := by
  have hb : bitAt l0 n = 0 := by
    rw [h0]; split
    · rw [bitAt_append_zero]; exact hz
    · exact hz
  have hlt : (l0.getD (n / 8) 0).toNat < 256 := UInt8.toNat_lt _
  unfold bitAt at hb
  have hb2 := byte_add_lt _ (7 - n % 8) hlt (by omega) hb
  rw [or_byte _ _ hlt (by omega) hb]
  have e : pushBit l n true = l0.set (n / 8) (UInt8.ofNat ((l0.getD (n / 8) 0).toNat + 2 ^ (7 - n % 8))) := by rw [h0]; rfl
  rw [e, ← bc_set]
  congr 3
  rw [UInt8.toNat_ofNat', Nat.mod_eq_of_lt hb2]
theorem push_miss (l : List UInt8) (n : Nat) : pushBit l n false = if n % 8 = 0 then l ++ [0] else l := by
  unfold pushBit; simp
theorem bc_zero (l : List UInt8) : bc l ++ [.int .u8 0] = bc (l ++ [0]) := by simp [bc]

set_option maxRecDepth 100000 in
set_option maxHeartbeats 1000000 in
theorem put_loop (u n : Nat) (N : Nat) (Bo base : Nat) (v : Value) (l : List UInt8) (w : World) (hu : u < 18446744073709551616) (hn : n ≤ 64) (hR : Rt l N) (hN : N ≤ 1400000000000000)
    (hB : w.heap[Bo]? = some (.cells #[v, .int .i64 N] 58 (0, 0))) (hv : w.ownsRow base 5 1 v l.length (bc l)) (hbase : base ≤ w.heap.size) (hbo : base ≤ Bo) :
    Calls Try.prog 58 #[.int .u64 u, .int .i64 n, .pointer (some ⟨Bo, 0, none⟩)] w fun e w' => e = .returned (.tuple #[]) ∧ Below base w w' ∧ ∃ v', 
      w'.heap[Bo]? = some (.cells #[v', .int .i64 (N + n : Nat)] 58 (0, 0)) ∧ w'.ownsRow base 5 1 v' (putN l N u n).length (bc (putN l N u n)) := by
  obtain ⟨i0, hi, hz0, hz1, hz2⟩ := info_parts infoU8
  go_enter Try.func58, Try.ntmps58
  go_wp2
  go_loopw [7] (fun i wr => ∃ k : Nat, k ≤ n ∧ i = .int .i64 k ∧ ∃ v', base ≤ wr.heap.size ∧ Below base w wr ∧
      wr.heap[Bo]? = some (.cells #[v', .int .i64 (N + k : Nat)] 58 (0, 0)) ∧ wr.ownsRow base 5 1 v' (putTo l N u n k).length (bc (putTo l N u n k)))
    (fun i _ => n - (intOf i).toNat)
  case atStart => exact ⟨0, Nat.zero_le _, rfl, v, hbase, Below.refl _ _, hB, hv⟩
  case round =>
    obtain ⟨k, hk, rfl, v', hbs, hbel, hB', hv'⟩ := hrel
    have Hbl := hid hbel; clear hbel
    have hne := own_ne_blk hv' hB' (by decide)
    by_cases hlt : k < n
    · have hc0 : wr.cell? ⟨Bo, 0, none⟩ = some v' := cell_of_blk hB' 0
      have hc1 : wr.cell? ⟨Bo, 1, none⟩ = some (.int .i64 ((N + k : Nat) : Int)) := cell_of_blk hB' 1
      have hf0 : wr.frozen? ⟨Bo, 0, none⟩ = false := free_of_blk hB' 0
      have hf1 : wr.frozen? ⟨Bo, 1, none⟩ = false := free_of_blk hB' 1
      have hBl := lt_of_blk hB'
      have hlen := putTo_length hR u n k
      have hRk := (hR.putTo u n k).1
      have hz : bitAt (putTo l N u n k) (N + k) = 0 := by
        by_cases hin : N + k < 8 * (putTo l N u n k).length
        · exact hRk.2 _ (Nat.le_refl _) hin
        · unfold bitAt; simp [List.getD, List.getElem?_eq_none (show (putTo l N u n k).length ≤ (N + k) / 8 by omega)]
      have hstep := hid (show putTo l N u n (k + 1) = pushBit (putTo l N u n k) (N + k) (dig u (n - 1 - k)) from rfl)
      clear hRk
      generalize putTo l N u n k = lk at *
      have Hz := hid hz; clear hz
      have Hlen := hid hlen
      have H1 := hid hB'; have H2 := hid hv'; have H3 := hid hne
      have hlen' : lk.length ≤ 190000000000000 := by omega
      by_cases h8 : (N + k) % 8 = 0
      · have H8 : ((((N + k : Nat) : Int)) % 8 == 0) = true := by simp; omega
        have H4 := hid (show lk.length = (N + k) / 8 by omega)
        have Hh := hid h8
        clear hB hv hB' hv' hne h8 hlen
        by_cases hbit : u / 2 ^ (n - 1 - k) % 2 = 1
        · have Hb : (bits BinOp.and IntKind.u64 (↑u / 2 ^ (n - 1 - k)) 1 == 1) = true := by rw [shr_bit u _ hu (by omega), hbit]; rfl
          have hs : putTo l N u n (k + 1) = pushBit lk (N + k) true := by rw [hstep.out]; unfold dig; rw [hbit]; rfl
          have Hs := hid hs
          clear hbit hs hstep
          go_wp2_with (at_builtin; refine wpList_append_put rfl _ _ 24 24 rfl base 5 i0 (.int .u8 0) 1 1 Try.underlying24 hi hz0 hz1 hz2 rfl v' lk.length (bc lk) rfl (H2.out.alloc _) (.slice (some ⟨wr.heap.size, 0, none⟩) 1 1) 1 [.int .u8 0] rfl (Src.ofSlice _ Try.underlying24 _ 1 1 [.int .u8 0] rfl (World.news_of_block (cs := #[.int .u8 0]) (t := 5) (fr := (0, 0)) (heap_alloc_new wr _)) (by simp [Value.oneCell'])) (.inr (by omega)) (by unfold maxLen; omega) (by omega) (by simp; omega) (wr.heap.size + 1) (by simp) ?_; intro g cap w1 hown1 hgrow1 hat1 hlt1 hcap1; have B1 := hid (blk_grown (blk_alloc H1.out _) hgrow1 H3.out); have d0 := cell_of_blk B1.out 0; have d1 := cell_of_blk B1.out 1; have e0 := free_of_blk B1.out 0; have e1 := free_of_blk B1.out 1; simp only [List.getElem?_toArray, List.getElem?_cons_zero, List.getElem?_cons_succ] at d0 d1; have O1 := hid hown1; have L1 := hid ((Hbl.out.alloc hbs (.cells #[.int .u8 0] 5)).grown hgrow1 (by simp; omega) (fun k hk => (H2.out.lt k hk).1)); have hgs := hid (Nat.le_trans (Nat.le_of_lt (size_alloc_lt wr _)) hgrow1.size); clear hown1 hgrow1)
          have gB : g ≠ Bo := by
            rcases hat1 with h | h
            · rintro rfl; exact H3.out h
            · omega
          have hcg : w1.cell? ⟨g, (N + k) / 8, none⟩ = some (.int .u8 0) := by
            rw [← H4.out, O1.out.cellAt lk.length (by omega)]; simp
          have hfg : w1.frozen? ⟨g, (N + k) / 8, none⟩ = false := O1.out.frozenAt _
          have hix : (N + k) / 8 < lk.length + 1 := by have := H4.out; omega
          go_region
          all_goals go_wp2
          go_roundw
          case rel =>
            have b4 := blk_setCell (blk_setCell_other (blk_setCell B1.out 0 (.slice (some ⟨g, 0, none⟩) (lk.length + 1) cap)) ⟨g, (N + k) / 8, none⟩ (.int .u8 (bits BinOp.or IntKind.u8 0 (128 / 2 ^ ((N + k) % 8)))) (Ne.symm gB)) 1 (.int .i64 (↑N + ↑k + 1))
            have o4 := own_setOther (own_store (own_setOther O1.out ⟨Bo, 0, none⟩ (.slice (some ⟨g, 0, none⟩) (lk.length + 1) cap) (by simp [Value.ownBlock, gB])) ((N + k) / 8) hix (.int .u8 (bits BinOp.or IntKind.u8 0 (128 / 2 ^ ((N + k) % 8))))) ⟨Bo, 1, none⟩ (.int .i64 (↑N + ↑k + 1)) (by simp [Value.ownBlock, gB])
            have hp := push_hit lk (lk ++ [0]) (N + k) Hlen.out Hz.out (by rw [if_pos Hh.out])
            have hl1 : (putTo l N u n (k + 1)).length = lk.length + 1 := by rw [Hs.out, pushBit_length _ _ _ Hlen.out, Hlen.out]; have := Hh.out; omega
            have hz0 : (lk ++ [0]).getD ((N + k) / 8) 0 = 0 := by rw [← H4.out]; simp
            rw [hz0] at hp
            rw [bc_zero] at o4
            exact ⟨k + 1, by omega, by go_num, .slice (some ⟨g, 0, none⟩) (lk.length + 1) cap, by have := hgs.out; simp; omega, (((L1.out.setCell (by exact hbo) _).setCell (by exact (O1.out.lt g rfl).1) _).setCell (by exact hbo) _).drew, b4, by rw [hl1, Hs.out, ← hp]; exact o4⟩
          case measure => simp [intOf]; omega
        · have hbit0 : u / 2 ^ (n - 1 - k) % 2 = 0 := by omega
          have Hb : (bits BinOp.and IntKind.u64 (↑u / 2 ^ (n - 1 - k)) 1 == 1) = false := by rw [shr_bit u _ hu (by omega), hbit0]; rfl
          have hs : putTo l N u n (k + 1) = pushBit lk (N + k) false := by rw [hstep.out]; unfold dig; rw [hbit0]; rfl
          have Hs := hid hs
          clear hbit hbit0 hs hstep
          go_wp2_with (at_builtin; refine wpList_append_put rfl _ _ 24 24 rfl base 5 i0 (.int .u8 0) 1 1 Try.underlying24 hi hz0 hz1 hz2 rfl v' lk.length (bc lk) rfl (H2.out.alloc _) (.slice (some ⟨wr.heap.size, 0, none⟩) 1 1) 1 [.int .u8 0] rfl (Src.ofSlice _ Try.underlying24 _ 1 1 [.int .u8 0] rfl (World.news_of_block (cs := #[.int .u8 0]) (t := 5) (fr := (0, 0)) (heap_alloc_new wr _)) (by simp [Value.oneCell'])) (.inr (by omega)) (by unfold maxLen; omega) (by omega) (by simp; omega) (wr.heap.size + 1) (by simp) ?_; intro g cap w1 hown1 hgrow1 hat1 hlt1 hcap1; have B1 := hid (blk_grown (blk_alloc H1.out _) hgrow1 H3.out); have d0 := cell_of_blk B1.out 0; have d1 := cell_of_blk B1.out 1; have e0 := free_of_blk B1.out 0; have e1 := free_of_blk B1.out 1; simp only [List.getElem?_toArray, List.getElem?_cons_zero, List.getElem?_cons_succ] at d0 d1; have O1 := hid hown1; have L1 := hid ((Hbl.out.alloc hbs (.cells #[.int .u8 0] 5)).grown hgrow1 (by simp; omega) (fun k hk => (H2.out.lt k hk).1)); have hgs := hid (Nat.le_trans (Nat.le_of_lt (size_alloc_lt wr _)) hgrow1.size); clear hown1 hgrow1)
          have gB : g ≠ Bo := by
            rcases hat1 with h | h
            · rintro rfl; exact H3.out h
            · omega
          go_roundw
          case rel =>
            have b4 := blk_setCell (blk_setCell B1.out 0 (.slice (some ⟨g, 0, none⟩) (lk.length + 1) cap)) 1 (.int .i64 (↑N + ↑k + 1))
            have o4 := own_setOther (own_setOther O1.out ⟨Bo, 0, none⟩ (.slice (some ⟨g, 0, none⟩) (lk.length + 1) cap) (by simp [Value.ownBlock, gB])) ⟨Bo, 1, none⟩ (.int .i64 (↑N + ↑k + 1)) (by simp [Value.ownBlock, gB])
            have hl1 : (putTo l N u n (k + 1)).length = lk.length + 1 := by rw [Hs.out, pushBit_length _ _ _ Hlen.out, Hlen.out]; have := Hh.out; omega
            have hp : pushBit lk (N + k) false = lk ++ [0] := by rw [push_miss, if_pos Hh.out]
            rw [bc_zero] at o4
            exact ⟨k + 1, by omega, by go_num, .slice (some ⟨g, 0, none⟩) (lk.length + 1) cap, by have := hgs.out; simp; omega, (L1.out.setCell (by exact hbo) _).setCell (by exact hbo) _, b4, by rw [hl1, Hs.out, hp]; exact o4⟩
          case measure => simp [intOf]; omega
      · have H8 : ((((N + k : Nat) : Int)) % 8 == 0) = false := by simp; omega
        have hpos : 0 < lk.length := by omega
        obtain ⟨g, cap, rfl, _, hgl, hcap, _⟩ := ownsRow_form hv' (by
          rintro rfl
          rcases hv'.2 with ⟨_, h0⟩ | ⟨_, _, _, h0, _⟩
          · omega
          · cases h0)
        have gB : g ≠ Bo := by rintro rfl; exact hne (by simp [Value.ownBlock])
        have hix : (N + k) / 8 < lk.length := by omega
        have hcg : wr.cell? ⟨g, (N + k) / 8, none⟩ = some (.int .u8 ((lk.getD ((N + k) / 8) 0).toNat : Int)) := by
          rw [hv'.cellAt _ (by omega), bc_get _ _ hix]
        have hfg : wr.frozen? ⟨g, (N + k) / 8, none⟩ = false := hv'.frozenAt _
        obtain ⟨z, hz⟩ : ∃ z : Nat, z = (lk.getD ((N + k) / 8) 0).toNat := ⟨_, rfl⟩
        rw [← hz] at hcg
        have hz256 : z < 256 := by rw [hz]; exact UInt8.toNat_lt _
        have Hh := hid h8; have Hzz := hid hz
        clear hB hv hB' hv' hne h8 hlen hz
        by_cases hbit : u / 2 ^ (n - 1 - k) % 2 = 1
        · have Hb : (bits BinOp.and IntKind.u64 (↑u / 2 ^ (n - 1 - k)) 1 == 1) = true := by rw [shr_bit u _ hu (by omega), hbit]; rfl
          have hs : putTo l N u n (k + 1) = pushBit lk (N + k) true := by rw [hstep.out]; unfold dig; rw [hbit]; rfl
          have Hs := hid hs
          clear hbit hs hstep
          go_wp2
          go_region
          all_goals go_wp2
          go_roundw
          case rel =>
            have b4 := blk_setCell (blk_setCell_other H1.out ⟨g, (N + k) / 8, none⟩ (.int .u8 (bits BinOp.or IntKind.u8 z (128 / 2 ^ ((N + k) % 8)))) (Ne.symm gB)) 1 (.int .i64 (↑N + ↑k + 1))
            have o4 := own_setOther (own_store H2.out ((N + k) / 8) hix (.int .u8 (bits BinOp.or IntKind.u8 z (128 / 2 ^ ((N + k) % 8))))) ⟨Bo, 1, none⟩ (.int .i64 (↑N + ↑k + 1)) (by simp [Value.ownBlock, gB])
            have hp := push_hit lk lk (N + k) Hlen.out Hz.out (by rw [if_neg Hh.out])
            have hl1 : (putTo l N u n (k + 1)).length = lk.length := by rw [Hs.out, pushBit_length _ _ _ Hlen.out, Hlen.out]; have := Hh.out; omega
            rw [← Hzz.out] at hp
            exact ⟨k + 1, by omega, by go_num, .slice (some ⟨g, 0, none⟩) lk.length cap, by simp; omega, ((Hbl.out.setCell (by exact (H2.out.lt g rfl).1) _).setCell (by exact hbo) _).drew, b4, by rw [hl1, Hs.out, ← hp]; exact o4⟩
          case measure => simp [intOf]; omega
        · have hbit0 : u / 2 ^ (n - 1 - k) % 2 = 0 := by omega
          have Hb : (bits BinOp.and IntKind.u64 (↑u / 2 ^ (n - 1 - k)) 1 == 1) = false := by rw [shr_bit u _ hu (by omega), hbit0]; rfl
          have hs : putTo l N u n (k + 1) = pushBit lk (N + k) false := by rw [hstep.out]; unfold dig; rw [hbit0]; rfl
          have Hs := hid hs
          clear hbit hbit0 hs hstep
          go_wp2
          go_roundw
          case rel =>
            have b4 := blk_setCell H1.out 1 (.int .i64 (↑N + ↑k + 1))
            have o4 := own_setOther H2.out ⟨Bo, 1, none⟩ (.int .i64 (↑N + ↑k + 1)) (by simp [Value.ownBlock, gB])
            have hl1 : (putTo l N u n (k + 1)).length = lk.length := by rw [Hs.out, pushBit_length _ _ _ Hlen.out, Hlen.out]; have := Hh.out; omega
            have hp : pushBit lk (N + k) false = lk := by rw [push_miss, if_neg Hh.out]
            exact ⟨k + 1, by omega, by go_num, .slice (some ⟨g, 0, none⟩) lk.length cap, by simp; omega, Hbl.out.setCell (by exact hbo) _, b4, by rw [hl1, Hs.out, hp]; exact o4⟩
          case measure => simp [intOf]; omega
    · obtain rfl : k = n := by omega
      clear hB hv
      have H1 := hid hB'; have H2 := hid hv'
      clear hB' hv'
      go_wp2
      go_end0
      exact ⟨rfl, Hbl.out, v', H1.out, H2.out⟩
end Go.Proofs.Ytcnfhabljogniaa
