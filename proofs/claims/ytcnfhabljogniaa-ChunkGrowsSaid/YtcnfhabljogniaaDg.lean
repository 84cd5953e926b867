/- The walk of ChunkGrows. -/
import Derived.Test.YtcnfhabljogniaaDf
import Derived.Test.YtcnfhabljogniaaCm
namespace Go.Proofs.Ytcnfhabljogniaa
open Go.RowKit
set_option linter.unusedSimpArgs false

set_option maxRecDepth 100000 in
set_option maxHeartbeats 2000000 in
theorem walk_ChunkGrows (w : World) (v : Value) (l : List (Int × Int)) (hb : Sl w 2 v l.length (sc l)) (_h64 : S64 l) (hl : l.length ≤ 8796093022208) :
    Calls Try.prog 9 #[v] w fun e w' => e = .returned (.bool true) ∧ Below w.heap.size w w' := by
  have Hb := hid hb
  have HE := hid (encode_any v l w (by omega) hb)
  clear hb
  by_cases hc : chkL l = 0
  · have hcz := chkL_zero hc
    have hpos := hcz.1
    have h120 := hcz.2.1
    obtain ⟨F, hF⟩ : ∃ F, F = (encV l).1 := ⟨_, rfl⟩
    have hE : encV l = (F, 0) := by rw [hF, encV_ok hc]
    have hFl := enc_len l
    rw [← hF] at hFl
    rw [hE] at HE
    have HF := hid hF
    have HC := hid hc
    obtain ⟨ao, c, rfl, _, _, _⟩ := Hb.out.shape
    obtain ⟨b, off, rfl, hbl, hcell⟩ := sc_cells Hb.out hpos
    have HCL := hid hcell
    have Hcut := hid (Hb.out.cut2 1 (by omega) (sc_take l 1))
    have hl1 : (l.take 1).length = 1 := by simp; omega
    have HL1 := hid hl1
    have hlc : 1 ≤ c := by obtain ⟨_, _, hv, hle, _⟩ := Hb.out.shape; simp only [Value.slice.injEq] at hv; omega
    have i0 : (1 : Int) ≤ (c : Int) := by omega
    clear hcz hF hE hc hcell hl1
    go_enter Try.func9, Try.ntmps9
    go_wp2_with fail
    refine HE.out.mono ?_
    rintro e w1 ⟨ao1, c1, rfl, hb1, hown1⟩
    have L1 := hid hb1; have O1 := hid hown1
    clear hb1 hown1
    go_wp2_with fail
    have hE1 := encode_any (.slice (some ⟨b, off, none⟩) 1 c) (l.take 1) w1 (by rw [HL1.out]; omega) (by rw [HL1.out]; exact Hcut.out.below L1.out (fun _ _ h => h))
    rw [encV_ok (chk_take HC.out 1 (by omega) (by omega))] at hE1
    refine hE1.mono ?_
    rintro e w2 ⟨ao2, c2, rfl, hb2, hown2⟩
    have L2 := hid (L1.out.trans (hb2.mono L1.out.size))
    have O2 := hid (show w2.ownsRow w.heap.size 5 1 (.slice ao2 (encV (l.take 1)).1.length c2) (encV (l.take 1)).1.length (bc (encV (l.take 1)).1) from by
      rw [encV_ok (chk_take HC.out 1 (by omega) (by omega))]; exact own_base hown2 L1.out.size)
    have S1 := hid ((Sl.own O1.out).below hb2 (fun _ _ h => h))
    have hes : (encB (l.take 1) ((l.take 1).length - 1)).1 = (encV (l.take 1)).1 := by rw [encV_ok (chk_take HC.out 1 (by omega) (by omega))]
    rw [hes]
    have s2 := L2.out.size
    clear hb2 hown2 hE1 hes O1
    go_wp2
    go_loopw [5, 6, 7] (fun bvv ev i wr => ∃ k ao3 c3, 1 ≤ k ∧ k ≤ l.length ∧ i = .int .i64 ((k : Nat) : Int) ∧ ev = .int .i64 0 ∧ bvv = .slice ao3 (encV (l.take k)).1.length c3 ∧ Below w2.heap.size w2 wr ∧ Sl wr 1 (.slice ao3 (encV (l.take k)).1.length c3) (encV (l.take k)).1.length (bc (encV (l.take k)).1))
      (fun _ _ i _ => l.length - (intOf i).toNat)
    case atStart => exact ⟨1, ao2, c2, Nat.le_refl _, hpos, rfl, rfl, rfl, Below.refl _ _, Sl.own O2.out⟩
    case round =>
      obtain ⟨k, ao3, c3, hk1, hk, rfl, rfl, rfl, hbel, hsl⟩ := hrel
      have L := hid hbel; have S := hid hsl
      have sz := hbel.size
      clear hbel hsl
      by_cases hlt : k < l.length
      · have Lw := L2.out.trans (L.out.mono s2)
        have hc0 : wr.cell? ⟨b, off + k * 2, none⟩ = some (.int .i64 (l.getD k (0, 0)).1) := by rw [World.cell?_of_block (Lw.block b hbl)]; exact (HCL.out k hlt).1
        have hc1 : wr.cell? ⟨b, off + k * 2 + 1, none⟩ = some (.int .i64 (l.getD k (0, 0)).2) := by rw [World.cell?_of_block (Lw.block b hbl)]; exact (HCL.out k hlt).2
        have hap := app_take HC.out k hk1 hlt
        have hA := append_any (.slice ao3 (encV (l.take k)).1.length c3) (encV (l.take k)).1 (l.getD k (0, 0)).1 (l.getD k (0, 0)).2 wr (by have := enc_len (l.take k); omega) S.out
        rw [show appV (encV (l.take k)).1 ((l.getD k (0, 0)).1, (l.getD k (0, 0)).2) = ((encV (l.take (k + 1))).1, 0) from hap.trans (by rw [encV_ok (chk_take HC.out (k + 1) (by omega) hlt)])] at hA
        generalize (l.getD k (0, 0)).1 = T at *
        generalize (l.getD k (0, 0)).2 = V at *
        have HA := hid hA
        have i1 : (k : Int) < (l.length : Int) := by omega
        have i2 : (0 : Int) ≤ (k : Int) := by omega
        clear hA hap Lw
        go_wp2_with fail
        refine HA.out.mono ?_
        rintro e w5 ⟨ao5, c5, rfl, hb5, hown5⟩
        have L5 := hid (L.out.trans (hb5.mono sz)); have O5 := hid hown5
        clear hb5 hown5
        go_wp2
        go_roundw
        case rel => exact ⟨k + 1, ao5, c5, by omega, hlt, by go_num, rfl, rfl, L5.out, Sl.own O5.out⟩
        case measure => simp [intOf]; omega
      · obtain rfl : k = l.length := by omega
        have hT : (encV (l.take l.length)).1 = F := by rw [List.take_length, HF.out]
        have S' := S.out
        rw [hT] at S' ⊢
        have Lw := hid (L2.out.trans (L.out.mono s2))
        have q1 := run_convert_sl (P := Try.prog) wr 24 9 5 Try.underlying24 Try.underlying5 Try.underlying9 S'
        have q2 := run_convert_sl (P := Try.prog) wr 24 9 5 Try.underlying24 Try.underlying5 Try.underlying9 (S1.out.below L.out (fun _ _ h => h))
        clear hT S' S
        go_wp2_with fail
        refine (lives_any wr).mono ?_
        rintro e w7 ⟨rfl, hb7⟩
        have L7 := hid (Lw.out.trans (hb7.mono Lw.out.size))
        clear hb7
        go_wp2
        go_ret
        exact ⟨rfl, L7.out⟩
  · have hE : encV l = ([], chkL l) := by unfold encV; rw [if_neg hc]
    rw [hE] at HE
    generalize chkL l = n at *
    have hne : (n != 0) = true := by simpa using hc
    clear hE hc
    go_enter Try.func9, Try.ntmps9
    go_wp2_with fail
    refine HE.out.mono ?_
    rintro e w1 ⟨ao1, c1, rfl, hb1, hown1⟩
    have L1 := hid hb1
    clear hb1 hown1
    go_wp2_with fail
    refine (lives_any w1).mono ?_
    rintro e w2 ⟨rfl, hb2⟩
    have L2 := hid (L1.out.trans (hb2.mono L1.out.size))
    clear hb2
    go_wp2
    go_ret
    exact ⟨rfl, L2.out⟩
end Go.Proofs.Ytcnfhabljogniaa
