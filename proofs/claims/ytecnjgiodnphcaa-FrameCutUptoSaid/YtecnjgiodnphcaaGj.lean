/- gaugeref02.All and Same. -/
import Derived.Test.YtecnjgiodnphcaaGi
namespace Go.Proofs.Ytecnjgiodnphcaa
open Go.RowKit

set_option maxRecDepth 100000 in
set_option maxHeartbeats 2000000 in
theorem refAll_any (v : Value) (l : List UInt8) (w : World) (hl : l.length ≤ 9000000) (hb : Sl w 1 v l.length (bc l)) :
    Calls Try.prog 32 #[v] w (AllPost w (allL l)) := by
  obtain ⟨ao0, c0, rfl, _⟩ := hb.shape
  have Hb := hid hb; clear hb
  have HS := hid (AllRel.start w l)
  go_enter Try.func32, Try.ntmps32
  go_wp2
  go_loopw [4, 5, 6] (fun out at_ kk wr => ∃ k a, kk = .int .i64 ((k : Nat) : Int) ∧ at_ = .int .i64 ((a : Nat) : Int) ∧ AllRel w l k a out wr)
    (fun _ at_ _ _ => l.length - (intOf at_).toNat)
  case atStart => exact ⟨0, 0, rfl, rfl, HS.out⟩
  case round =>
    obtain ⟨k, a, rfl, rfl, hrel'⟩ := hrel
    have HR := hid hrel'
    obtain ⟨Ls, h1, h2, h3, h4, h5, h6, h7⟩ := hrel'
    have L := hid h6; have R7 := hid h7; have H4 := hid h4; have H3 := hid h3
    have hkl' : k ≤ l.length := by omega
    clear h6 h7 h4 h3
    have hG := refGet_any (.slice ao0 l.length c0) l a wr (by omega) (by omega) (by omega) (Hb.out.below L.out (fun _ _ h => h))
    by_cases he : (getF l a).2.2 = 0
    · obtain ⟨b, hg, hb1, hb2⟩ := getF_ok l a he
      have hxl := getF_len l a
      generalize (getF l a).1 = x at *
      rw [hg] at hG
      have HG := hid hG; have HGG := hid hg
      clear hG hg he
      go_wp2_with fail
      refine HG.out.mono ?_
      rintro e w2 ⟨ao2, c2, rfl, hb2', hown2⟩
      have L2 := hid hb2'; have O2 := hid hown2; have s2 := hb2'.size
      obtain ⟨f, hv7, hf7⟩ := R7.out
      have HV := hid (own_below hv7 hb2' (Nat.le_refl _))
      have HF := hid (hf7.below hb2')
      have HD := hid (show ∀ i, i < Ls.length → ∀ q, (f i).ownBlock = some q → (Value.slice ao2 x.length c2).ownBlock ≠ some q from fun i hi q hq hq2 => by
        have q1 := ((hf7.1 i hi).2.lt q hq).2
        have q2 := (hown2.lt q hq2).1
        omega)
      obtain ⟨aoo, co, rfl, _⟩ := R7.out.shape
      have hkl : Ls.length ≤ 10000000 := by have := H3.out; omega
      have hbase2 : w.heap.size ≤ w2.heap.size := by omega
      clear hb2' hown2 hv7 hf7
      go_wp2_with (at_builtin; refine wpList_appR rfl (.tmp 27) (.tmp 29) rfl w.heap.size (.slice aoo Ls.length co) Ls rfl f HV.out HF.out ao2 c2 x (own_base O2.out h5) HD.out w2.heap.size rfl rfl hkl hbase2 ?_; intro g3 cap3 w3 hr3 hbel3 hsz3; have R3 := hid hr3; have L3 := hid (hbel3 w (L.out.trans (L2.out.mono h5))); clear hr3 hbel3)
      go_roundw
      case rel => exact ⟨k + 1, b, by go_num, rfl, Ls ++ [x], by omega, hb2, by rw [List.length_append, H3.out]; rfl, AllRel.step h1 h2 HGG.out H4.out, hsz3, L3.out, by have := R3.out; exact this⟩
      case measure => simp [intOf]; omega
    · obtain ⟨er, her, hg⟩ := getF_no l a he
      rw [hg] at hG
      have HG := hid hG; have HE := hid he
      have hd : (er != 0) = true := by simpa using her
      clear hG hg he her
      go_wp2_with fail
      refine HG.out.mono ?_
      rintro e w2 ⟨ao2, c2, rfl, hb2, _⟩
      have L2 := hid hb2; clear hb2
      go_wp2
      go_ret2
      exact HR.out.stop L2.out HE.out

theorem RowsOf.at {w : World} {base : Nat} {v : Value} {Ls : List (List UInt8)} (h : RowsOf w base v Ls) (hn : 0 < Ls.length) : ∃ g cap, v = .slice (some ⟨g, 0, none⟩) Ls.length cap ∧ Ls.length ≤ cap ∧ g < w.heap.size ∧ ∃ f, RowsAt w base f Ls ∧ ∀ i, i < Ls.length → w.cell? ⟨g, i, none⟩ = some (f i) := by
  obtain ⟨f, h1, h2⟩ := h
  obtain ⟨g, cap, rfl, _, hg, hc, _⟩ := ownsRow_form h1 (by
    rintro rfl
    rcases h1.2 with ⟨_, h0⟩ | ⟨_, _, _, h0, _⟩
    · omega
    · cases h0)
  refine ⟨g, cap, rfl, hc, hg, f, h2, fun i hi => ?_⟩
  rw [h1.cellAt i (by omega)]
  simp [hi]

set_option maxRecDepth 100000 in
set_option maxHeartbeats 2000000 in
theorem same_any (v1 v2 : Value) (b1 b2 : Nat) (Ls : List (List UInt8)) (w : World) (hl : Ls.length ≤ 2000000) (h1 : RowsOf w b1 v1 Ls) (h2 : RowsOf w b2 v2 Ls) :
    Calls Try.prog 33 #[v1, v2] w fun e w' => e = .returned (.bool true) ∧ Below w.heap.size w w' := by
  have H1 := hid h1; have H2 := hid h2
  obtain ⟨a1, c1, rfl, _⟩ := h1.shape
  obtain ⟨a2, c2, rfl, _⟩ := h2.shape
  clear h1 h2
  go_enter Try.func33, Try.ntmps33
  go_wp2
  go_loopw [5] (fun i wr => ∃ k q, k ≤ Ls.length ∧ i = .int .i64 ((k : Nat) : Int) ∧ wr = w.drewN q)
    (fun i _ => Ls.length - (intOf i).toNat)
  case atStart => exact ⟨0, 0, Nat.zero_le _, rfl, rfl⟩
  case round =>
    obtain ⟨k, q, hk, rfl, rfl⟩ := hrel
    by_cases hlt : k < Ls.length
    · obtain ⟨g1, cap1, e1, hc1, _, f1, hf1, hcell1⟩ := H1.out.at (by omega)
      obtain ⟨g2, cap2, e2, hc2, _, f2, hf2, hcell2⟩ := H2.out.at (by omega)
      simp only [Value.slice.injEq] at e1 e2
      obtain ⟨rfl, _, rfl⟩ := e1
      obtain ⟨rfl, _, rfl⟩ := e2
      obtain ⟨⟨x1, y1, hx1⟩, ho1⟩ := hf1.1 k hlt
      obtain ⟨⟨x2, y2, hx2⟩, ho2⟩ := hf2.1 k hlt
      have d1 := hcell1 k hlt
      have d2 := hcell2 k hlt
      rw [hx1] at d1 ho1
      rw [hx2] at d2 ho2
      have q1 : ∀ nq, (convert 22 9 (.slice x1 (Ls.getD k []).length y1)).run Try.prog (w.drewN nq) = .ok (.string ⟨(Ls.getD k []).toArray⟩) (w.drewN nq) := fun nq =>
        run_convert_sl (P := Try.prog) (w.drewN nq) 22 9 5 Try.underlying22 Try.underlying5 Try.underlying9 ((Sl.own ho1).keep fun _ _ _ => rfl)
      have q2 : ∀ nq, (convert 22 9 (.slice x2 (Ls.getD k []).length y2)).run Try.prog (w.drewN nq) = .ok (.string ⟨(Ls.getD k []).toArray⟩) (w.drewN nq) := fun nq =>
        run_convert_sl (P := Try.prog) (w.drewN nq) 22 9 5 Try.underlying22 Try.underlying5 Try.underlying9 ((Sl.own ho2).keep fun _ _ _ => rfl)
      generalize Ls.getD k [] = X at *
      have i0 : (k : Int) < (Ls.length : Int) := by omega
      clear hf1 hf2 hcell1 hcell2 hx1 hx2 ho1 ho2
      go_wp2
      go_quiet (fail)
      go_wp2
      go_roundw
      case rel => exact ⟨k + 1, _, by omega, by go_num, rfl⟩
      case measure => simp [intOf]; omega
    · go_wp2
      go_ret
      exact ⟨rfl, Below_drewN (Below.refl _ _) _⟩
end Go.Proofs.Ytecnjgiodnphcaa
