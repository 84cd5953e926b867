/- The walk of PostingSets. -/
import Derived.Test.YtimeadnkligkaaaPv
namespace Go.Proofs.Ytimeadnkligkaaa
open Go.RowKit

set_option maxRecDepth 100000 in
set_option maxHeartbeats 4000000 in
theorem walk_PostingSets (w : World) (va : Value) (a : List Int) (ha : Sl w 1 va a.length (ic a)) (hfa : ∀ n ∈ a, (Lit.int .i64 n).wf = true) (hla : a.length * 8 ≤ 140737488351232)
    (vb : Value) (b : List Int) (hb : Sl w 1 vb b.length (ic b)) (hfb : ∀ n ∈ b, (Lit.int .i64 n).wf = true) (hlb : b.length * 8 ≤ 140737488351232) :
    Calls Try.prog 4 #[va, vb] w fun e w' => e = .returned (.bool true) ∧ Below w.heap.size w w' := by
  have A64 := hid (show I64 a from fun n hn => bounds_i64 (hfa n hn))
  have B64 := hid (show I64 b from fun n hn => bounds_i64 (hfb n hn))
  have Ha := hid ha; have Hb := hid hb
  obtain ⟨P, hP⟩ : ∃ P, P = bothV a b := ⟨_, rfl⟩
  obtain ⟨Q, hQ⟩ : ∃ Q, Q = eitherV a b := ⟨_, rfl⟩
  obtain ⟨R, hR⟩ : ∃ R, R = withoutV a b := ⟨_, rfl⟩
  have HP := hid hP; have HQ := hid hQ; have HR := hid hR
  clear ha hb hfa hfb hP hQ hR
  go_enter Try.func4, Try.ntmps4
  go_wp2_with fail
  refine (own77_any va a w (by omega) Ha.out).mono ?_
  rintro e w1 ⟨g1, c1, rfl, hb1, ho1⟩
  have L1 := hid hb1; have s1 := hb1.size; have O1 := hid ho1; clear hb1 ho1
  go_wp2_with fail
  refine (own77_any vb b w1 (by omega) (Hb.out.below L1.out (fun _ _ h => h))).mono ?_
  rintro e w2 ⟨g2, c2, rfl, hb2, ho2⟩
  have L2 := hid (L1.out.trans (hb2.mono s1)); have s2 := Nat.le_trans s1 hb2.size; have O2 := hid (own_base ho2 s1); have O1a := hid (own_below O1.out hb2 (Nat.le_refl _)); clear hb2 ho2
  have K := hid (show ∀ wx, Below w2.heap.size w2 wx → Sl wx 1 (.slice (some ⟨g1, 0, none⟩) a.length c1) a.length (ic a) ∧ Sl wx 1 (.slice (some ⟨g2, 0, none⟩) b.length c2) b.length (ic b) ∧ Sl wx 1 va a.length (ic a) ∧ Sl wx 1 vb b.length (ic b) from fun wx hx =>
    ⟨(Sl.cut (Sl.own O1a.out) a.length (by omega) (ys := ic a) (by rw [ic_append, List.take_left' (by simp)])).below hx (fun _ _ h => h), (Sl.cut (Sl.own O2.out) b.length (by omega) (ys := ic b) (by rw [ic_append, List.take_left' (by simp)])).below hx (fun _ _ h => h), (Ha.out.below L2.out (fun _ _ h => h)).below hx (fun _ _ h => h), (Hb.out.below L2.out (fun _ _ h => h)).below hx (fun _ _ h => h)⟩)
  go_wp2_with fail
  have hp := both_any (.slice (some ⟨g1, 0, none⟩) a.length c1) (.slice (some ⟨g2, 0, none⟩) b.length c2) a b w2 (by omega) (by omega) (K.out w2 (Below.refl _ _)).1 (K.out w2 (Below.refl _ _)).2.1 A64.out B64.out
  rw [← HP.out] at hp
  refine hp.mono ?_
  rintro e w3 ⟨ao3, c3, rfl, hb3, ho3⟩
  have L3 := hid hb3; have s3 := hb3.size; have X3 := hid ho3; clear hp hb3 ho3
  go_wp2_with fail
  have hp := either_any (.slice (some ⟨g1, 0, none⟩) a.length c1) (.slice (some ⟨g2, 0, none⟩) b.length c2) a b w3 (by omega) (by omega) (K.out w3 L3.out).1 (K.out w3 L3.out).2.1 A64.out B64.out
  rw [← HQ.out] at hp
  refine hp.mono ?_
  rintro e w4 ⟨ao4, c4, rfl, hb4, ho4⟩
  have L4 := hid (L3.out.trans (hb4.mono s3)); have s4 := Nat.le_trans s3 hb4.size; have s34 := hb4.size; have X4 := hid ho4; have X3a := hid (own_below X3.out hb4 (Nat.le_refl _)); clear hp hb4 ho4
  go_wp2_with fail
  have hp := without_any (.slice (some ⟨g1, 0, none⟩) a.length c1) (.slice (some ⟨g2, 0, none⟩) b.length c2) a b w4 (by omega) (by omega) (K.out w4 L4.out).1 (K.out w4 L4.out).2.1 A64.out B64.out
  rw [← HR.out] at hp
  refine hp.mono ?_
  rintro e w5 ⟨ao5, c5, rfl, hb5, ho5⟩
  have L5 := hid (L4.out.trans (hb5.mono s4)); have s5 := Nat.le_trans s4 hb5.size; have X5 := hid ho5; have X3b := hid (own_below X3a.out hb5 (Nat.le_refl _)); have X4b := hid (own_below X4.out hb5 (Nat.le_refl _)); clear hp hb5 ho5
  go_wp2_with fail
  have hp := refBoth_any va vb a b w5 (by omega) (by omega) (K.out w5 L5.out).2.2.1 (K.out w5 L5.out).2.2.2 A64.out B64.out
  rw [← both_ref, ← HP.out] at hp
  refine hp.mono ?_
  rintro e w6 ⟨ao6, c6, rfl, hb6, ho6⟩
  have L6 := hid (L5.out.trans (hb6.mono s5)); have s6 := Nat.le_trans s5 hb6.size; have X6 := hid (Sl.own ho6); have D6 := hid hb6; clear hp hb6 ho6
  go_wp2_with fail
  have hp := refEither_any va vb a b w6 (by omega) (by omega) (K.out w6 L6.out).2.2.1 (K.out w6 L6.out).2.2.2 A64.out B64.out
  rw [← either_ref, ← HQ.out] at hp
  refine hp.mono ?_
  rintro e w7 ⟨ao7, c7, rfl, hb7, ho7⟩
  have L7 := hid (L6.out.trans (hb7.mono s6)); have s7 := Nat.le_trans s6 hb7.size; have X7 := hid (Sl.own ho7); have D7 := hid (D6.out.trans (hb7.mono D6.out.size)); have X6a := hid (X6.out.below hb7 (fun _ _ h => h)); clear hp hb7 ho7
  go_wp2_with fail
  have hp := refWithout_any va vb a b w7 (by omega) (by omega) (K.out w7 L7.out).2.2.1 (K.out w7 L7.out).2.2.2 A64.out B64.out
  rw [← without_ref, ← HR.out] at hp
  refine hp.mono ?_
  rintro e w8 ⟨ao8, c8, rfl, hb8, ho8⟩
  have L8 := hid (L7.out.trans (hb8.mono s7)); have s8 := Nat.le_trans s7 hb8.size; have X8 := hid (Sl.own ho8); have D8 := hid (D7.out.trans (hb8.mono D7.out.size)); have X6b := hid (X6a.out.below hb8 (fun _ _ h => h)); have X7b := hid (X7.out.below hb8 (fun _ _ h => h)); clear hp hb8 ho8
  obtain ⟨P1, P2⟩ := P
  obtain ⟨Q1, Q2⟩ := Q
  obtain ⟨R1, R2⟩ := R
  simp only at X3b X4b X5 X6b X7b X8
  go_wp2_with fail
  refine (same_any _ _ P1 P1 w8 (X3b.out |> fun h => (Sl.own (own_below h D8.out (Nat.le_refl _)))) X6b.out).mono ?_
  rintro e w9 ⟨rfl, hb9⟩
  have L9 := hid (L8.out.trans (hb9.mono s8)); have s9 := Nat.le_trans s8 hb9.size; have D9 := hid (D8.out.trans (hb9.mono D8.out.size)); have X7c := hid (X7b.out.below hb9 (fun _ _ h => h)); have X8c := hid (X8.out.below hb9 (fun _ _ h => h)); clear hb9
  rw [show decide (P1 = P1) = true from decide_eq_true rfl]
  go_wp2_with fail
  refine (same_any _ _ Q1 Q1 w9 (Sl.own (own_below X4b.out D9.out (Nat.le_refl _))) X7c.out).mono ?_
  rintro e w10 ⟨rfl, hb10⟩
  have L10 := hid (L9.out.trans (hb10.mono s9)); have s10 := Nat.le_trans s9 hb10.size; have D10 := hid (D9.out.trans (hb10.mono D9.out.size)); have X8d := hid (X8c.out.below hb10 (fun _ _ h => h)); clear hb10
  rw [show decide (Q1 = Q1) = true from decide_eq_true rfl]
  go_wp2_with fail
  refine (same_any _ _ R1 R1 w10 (Sl.own (own_below X5.out D10.out (Nat.le_refl _))) X8d.out).mono ?_
  rintro e w11 ⟨rfl, hb11⟩
  have L11 := hid (L10.out.trans (hb11.mono s10)); have s11 := Nat.le_trans s10 hb11.size; have D11 := hid (D10.out.trans (hb11.mono D10.out.size)); clear hb11
  rw [show decide (R1 = R1) = true from decide_eq_true rfl]
  have Y3 := hid (own_below X3b.out D11.out (Nat.le_refl _)); have Y4 := hid (own_below X4b.out D11.out (Nat.le_refl _)); have Y5 := hid (own_below X5.out D11.out (Nat.le_refl _))
  go_wp2_with fail
  have Z3 : ∀ k, (Value.slice ao3 P1.length c3).ownBlock = some k → k < w3.heap.size := fun k hk => (X3.out.lt k hk).2
  have Z4 : ∀ k, (Value.slice ao4 Q1.length c4).ownBlock = some k → k < w4.heap.size := fun k hk => (X4.out.lt k hk).2
  have s3' : w2.heap.size ≤ w3.heap.size := L3.out.size
  have s4' : w2.heap.size ≤ w4.heap.size := L4.out.size
  have hp63_a : P1.length ≤ 9223372036854775807 := by (obtain ⟨_, _, hv, h1, h2, _⟩ := (Sl.own Y3.out).shape; unfold maxLen at h2; omega)
  go_loopw [19] (fun i wr => ∃ k : Nat, k ≤ P1.length ∧ i = .int .i64 k ∧ w11.grownBy wr (Value.slice ao3 P1.length c3).ownBlock ∧ ∃ l', l'.length = P1.length ∧ wr.ownsRow w2.heap.size 3 1 (.slice ao3 P1.length c3) P1.length (ic l'))
    (fun i _ => P1.length - (intOf i).toNat)
  case atStart => exact ⟨0, Nat.zero_le _, rfl, World.grownBy.refl _ _, P1, rfl, Y3.out⟩
  case round =>
    obtain ⟨k, hk, rfl, hg, l', hl', ho⟩ := hrel
    have G := hid hg; have O := hid ho; have HLn := hid hl'; clear hg ho hl'
    by_cases hlt : k < P1.length
    · obtain ⟨g, cap, hv, _, hgl, _, _⟩ := ownsRow_form O.out (by
        rintro h
        simp only [Value.slice.injEq] at h
        omega)
      simp only [Value.slice.injEq] at hv
      obtain ⟨rfl, _, rfl⟩ := hv
      have hcb : wr.cell? ⟨g, k, none⟩ = some (.int .i64 (l'.getD k 0)) := by
        rw [O.out.cellAt k (by omega), ic_get _ _ (by rw [HLn.out]; exact hlt)]
      have hfb : wr.frozen? ⟨g, k, none⟩ = false := O.out.frozenAt k
      generalize l'.getD k 0 = B at *
      have i1 : (k : Int) < (P1.length : Int) := by omega
      go_wp2
      go_roundw
      case rel =>
        refine ⟨k + 1, by omega, by go_num, grown_setCell G.out _ _ rfl, l'.set k (-1), by rw [List.length_set]; exact HLn.out, ?_⟩
        rw [show ic (l'.set k (-1)) = (ic l').set k (.int .i64 (-1)) by simp [ic, List.map_set]]
        exact own_store O.out k hlt _
      case measure => simp [intOf]; omega
    · obtain rfl : k = P1.length := by omega
      obtain ⟨w12, rfl⟩ : ∃ x : World, x = wr := ⟨_, rfl⟩
      have M12 := hid (L11.out.grown G.out L11.out.size (fun k hk => (Y3.out.lt k hk).1))
      have Y4a := hid (own_keep Y4.out fun k hk => G.out.block k (by have := (Y4.out.lt k hk).2; omega) (fun he => by have h1 := (Y4.out.lt k hk).1; have h2 := Z3 k he.symm; omega))
      have Y5a := hid (own_keep Y5.out fun k hk => G.out.block k (by have := (Y5.out.lt k hk).2; omega) (fun he => by have h1 := (Y5.out.lt k hk).1; have h2 := Z3 k he.symm; omega))
      clear G O HLn
      go_wp2_with fail
      have hp63_b : Q1.length ≤ 9223372036854775807 := by (obtain ⟨_, _, hv, h1, h2, _⟩ := (Sl.own Y4a.out).shape; unfold maxLen at h2; omega)
      go_loopw [20] (fun i wr => ∃ k : Nat, k ≤ Q1.length ∧ i = .int .i64 k ∧ w12.grownBy wr (Value.slice ao4 Q1.length c4).ownBlock ∧ ∃ l', l'.length = Q1.length ∧ wr.ownsRow w3.heap.size 3 1 (.slice ao4 Q1.length c4) Q1.length (ic l'))
        (fun i _ => Q1.length - (intOf i).toNat)
      case atStart => exact ⟨0, Nat.zero_le _, rfl, World.grownBy.refl _ _, Q1, rfl, Y4a.out⟩
      case round =>
        obtain ⟨k, hk, rfl, hg, l', hl', ho⟩ := hrel
        have G := hid hg; have O := hid ho; have HLn := hid hl'; clear hg ho hl'
        by_cases hlt : k < Q1.length
        · obtain ⟨g, cap, hv, _, hgl, _, _⟩ := ownsRow_form O.out (by
            rintro h
            simp only [Value.slice.injEq] at h
            omega)
          simp only [Value.slice.injEq] at hv
          obtain ⟨rfl, _, rfl⟩ := hv
          have hcb : wr.cell? ⟨g, k, none⟩ = some (.int .i64 (l'.getD k 0)) := by
            rw [O.out.cellAt k (by omega), ic_get _ _ (by rw [HLn.out]; exact hlt)]
          have hfb : wr.frozen? ⟨g, k, none⟩ = false := O.out.frozenAt k
          generalize l'.getD k 0 = B at *
          have i1 : (k : Int) < (Q1.length : Int) := by omega
          go_wp2
          go_roundw
          case rel =>
            refine ⟨k + 1, by omega, by go_num, grown_setCell G.out _ _ rfl, l'.set k (-2), by rw [List.length_set]; exact HLn.out, ?_⟩
            rw [show ic (l'.set k (-2)) = (ic l').set k (.int .i64 (-2)) by simp [ic, List.map_set]]
            exact own_store O.out k hlt _
          case measure => simp [intOf]; omega
        · obtain rfl : k = Q1.length := by omega
          obtain ⟨w13, rfl⟩ : ∃ x : World, x = wr := ⟨_, rfl⟩
          have M13 := hid (M12.out.grown G.out M12.out.size (fun k hk => Nat.le_trans s3' (Y4a.out.lt k hk).1))
          have Y5b := hid (own_keep Y5a.out fun k hk => G.out.block k (by have := (Y5a.out.lt k hk).2; omega) (fun he => by have h1 := (Y5a.out.lt k hk).1; have h2 := Z4 k he.symm; omega))
          clear G O HLn
          go_wp2_with fail
          have hp63_c : R1.length ≤ 9223372036854775807 := by (obtain ⟨_, _, hv, h1, h2, _⟩ := (Sl.own Y5b.out).shape; unfold maxLen at h2; omega)
          go_loopw [21] (fun i wr => ∃ k : Nat, k ≤ R1.length ∧ i = .int .i64 k ∧ w13.grownBy wr (Value.slice ao5 R1.length c5).ownBlock ∧ ∃ l', l'.length = R1.length ∧ wr.ownsRow w4.heap.size 3 1 (.slice ao5 R1.length c5) R1.length (ic l'))
            (fun i _ => R1.length - (intOf i).toNat)
          case atStart => exact ⟨0, Nat.zero_le _, rfl, World.grownBy.refl _ _, R1, rfl, Y5b.out⟩
          case round =>
            obtain ⟨k, hk, rfl, hg, l', hl', ho⟩ := hrel
            have G := hid hg; have O := hid ho; have HLn := hid hl'; clear hg ho hl'
            by_cases hlt : k < R1.length
            · obtain ⟨g, cap, hv, _, hgl, _, _⟩ := ownsRow_form O.out (by
                rintro h
                simp only [Value.slice.injEq] at h
                omega)
              simp only [Value.slice.injEq] at hv
              obtain ⟨rfl, _, rfl⟩ := hv
              have hcb : wr.cell? ⟨g, k, none⟩ = some (.int .i64 (l'.getD k 0)) := by
                rw [O.out.cellAt k (by omega), ic_get _ _ (by rw [HLn.out]; exact hlt)]
              have hfb : wr.frozen? ⟨g, k, none⟩ = false := O.out.frozenAt k
              generalize l'.getD k 0 = B at *
              have i1 : (k : Int) < (R1.length : Int) := by omega
              go_wp2
              go_roundw
              case rel =>
                refine ⟨k + 1, by omega, by go_num, grown_setCell G.out _ _ rfl, l'.set k (-3), by rw [List.length_set]; exact HLn.out, ?_⟩
                rw [show ic (l'.set k (-3)) = (ic l').set k (.int .i64 (-3)) by simp [ic, List.map_set]]
                exact own_store O.out k hlt _
              case measure => simp [intOf]; omega
            · obtain rfl : k = R1.length := by omega
              obtain ⟨w14, rfl⟩ : ∃ x : World, x = wr := ⟨_, rfl⟩
              have M14 := hid (M13.out.grown G.out M13.out.size (fun k hk => Nat.le_trans s4' (Y5b.out.lt k hk).1))
              clear G O HLn
              go_wp2_with fail
              refine (kept77_any g1 c1 va a w14 (by omega) ((Sl.own O1a.out).below M14.out (fun _ _ h => h)) ((Ha.out.below L2.out (fun _ _ h => h)).below M14.out (fun _ _ h => h))).mono ?_
              rintro e w15 ⟨rfl, hb15⟩
              have M15 := hid (M14.out.trans (hb15.mono M14.out.size)); clear hb15
              go_wp2_with fail
              refine (kept77_any g2 c2 vb b w15 (by omega) ((Sl.own O2.out).below M15.out (fun _ _ h => h)) ((Hb.out.below L2.out (fun _ _ h => h)).below M15.out (fun _ _ h => h))).mono ?_
              rintro e w16 ⟨rfl, hb16⟩
              have M16 := hid (M15.out.trans (hb16.mono M15.out.size)); clear hb16
              go_wp2_with fail
              refine (lives_any w16).mono ?_
              rintro e w17 ⟨rfl, hb17⟩
              have M17 := hid (M16.out.trans (hb17.mono M16.out.size)); clear hb17
              go_wp2
              go_ret
              exact ⟨rfl, L2.out.trans (M17.out.mono s2)⟩
end Go.Proofs.Ytimeadnkligkaaa
