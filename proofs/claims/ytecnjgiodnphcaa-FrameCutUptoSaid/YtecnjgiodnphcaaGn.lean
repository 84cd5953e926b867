/- The walk of FrameCut (for rows that are together not too long). -/
import Derived.Test.YtecnjgiodnphcaaGm
namespace Go.Proofs.Ytecnjgiodnphcaa
open Go.RowKit

theorem infoInt : (Try.prog.info? 3).map (fun i => (i.zero, i.size, i.bytes)) = some (some (.int .i64 0), 1, 8) := by kernel_rfl

theorem own_capn {w : World} {base : Nat} {e : TypeId} {size : Nat} {ao : Option Addr} {n cap : Nat} {xs : List Value} (h : w.ownsRow base e size (.slice ao n cap) n xs) : n ≤ cap := by
  obtain ⟨_, c', hv, hc, _⟩ := (Sl.own h).shape
  simp only [Value.slice.injEq] at hv
  omega
theorem own_grown_ne {w w' : World} {base base2 size size2 n n2 : Nat} {e e2 : TypeId} {v v2 : Value} {xs xs2 : List Value} (h : w.ownsRow base e size v n xs) (h2 : w.ownsRow base2 e2 size2 v2 n2 xs2) (hg : w.grownBy w' v2.ownBlock) (hne : e ≠ e2) : w'.ownsRow base e size v n xs :=
  own_keep h fun k hk => hg.block k (h.lt k hk).2 (fun e => by
    rcases h.2 with ⟨hnil, _⟩ | ⟨g', cap', cur, hv', _, hg', _⟩
    · rw [hnil] at hk; simp [Value.ownBlock] at hk
    · rw [hv'] at hk
      simp only [Value.ownBlock, Option.some.injEq] at hk
      subst hk
      exact own_ne_blk h2 hg' hne e.symm)
theorem RdRows.below {w w' : World} {v : Value} {Ls : List (List UInt8)} (h : RdRows w v Ls) (hb : Below w.heap.size w w') : RdRows w' v Ls := by
  obtain ⟨ao, c, hv, hc, hi⟩ := h
  refine ⟨ao, c, hv, hc, fun i hlt => ?_⟩
  obtain ⟨b, off, ai, ci, h1, h2, h3, h4⟩ := hi i hlt
  exact ⟨b, off, ai, ci, h1, Nat.lt_of_lt_of_le h2 hb.size, (hb.cell (p := ⟨b, off + i, none⟩) h2).trans h3, h4.below hb (fun _ _ h => h)⟩

/-- append of one int onto ints of the call's own -/
theorem wpList_appI {ops : Array Oper} {rest : List Oper} {o : Oper} {a : Act} {w : World} {Q : Exit → Act → World → Prop} (hgd : o.guard = none) (s x : Operand) (ho : o.op = .call { callee := .builtin .append, args := #[s, x], argTypes := #[62, 62] })
    (base : Nat) (v : Value) (n : Nat) (xs : List Value) (hsv : a.eval s = v) (hown : w.ownsRow base 3 1 v n xs) (y : Int) (H0 : Nat) (hH0 : w.heap.size = H0) (hxv : a.eval x = .slice (some ⟨H0, 0, none⟩) 1 1)
    (hn : n ≤ 20000000000000) (hbase : base ≤ w.heap.size)
    (h : ∀ g cap w', w'.ownsRow base 3 1 (.slice (some ⟨g, 0, none⟩) (n + 1) cap) (n + 1) (xs ++ [.int .i64 y]) → w.grownBy w' v.ownBlock → (∀ W, Below base W w → Below base W w') → base ≤ w'.heap.size →
      wpList Try.prog ops Q rest (a.put o.dst (.slice (some ⟨g, 0, none⟩) (n + 1) cap)) w') : wpList Try.prog ops Q (o :: rest) a (w.alloc (.cells #[.int .i64 y] 3)) := by
  subst hH0
  obtain ⟨i0, hi, hz0, hz1, hz2⟩ := info_parts infoInt
  have hsrc : Src Try.prog 1 62 (.slice (some ⟨w.heap.size, 0, none⟩) 1 1) 1 [.int .i64 y] (w.alloc (.cells #[.int .i64 y] 3)) :=
    Src.ofSlice _ Try.underlying62 _ 1 1 [.int .i64 y] rfl (World.news_of_block (cs := #[.int .i64 y]) (t := 3) (fr := (0, 0)) (heap_alloc_new w _)) (by simp [Value.oneCell'])
  refine wpList_append_put hgd s x 62 62 ho base 3 i0 (.int .i64 0) 1 8 Try.underlying62 hi hz0 hz1 hz2 rfl v n xs hsv (hown.alloc _) _ 1 _ hxv hsrc (.inr (by omega)) (by unfold maxLen; omega) (by omega) (by simp; omega) (w.heap.size + 1) (by simp) ?_
  intro g cap w' h1 h2 h3 _ _
  refine h g cap w' h1 ⟨h2.os, h2.tape, h2.output, by have := h2.size; simp at this; omega, fun k hk hne => ?_⟩ (fun W hW => (hW.alloc hbase _).grown h2 (by simp; omega) (fun k hk => (hown.lt k hk).1)) (by have := h2.size; simp at this; omega)
  rw [h2.block k (by simp; omega) hne]
  exact Below.heap_alloc w _ k hk

def endsV (Ls : List (List UInt8)) (k : Nat) : List Value := (List.range k).map fun j => Value.int .i64 ((catTo Ls (j + 1)).length : Nat)
theorem endsV_succ (Ls : List (List UInt8)) (k : Nat) : endsV Ls (k + 1) = endsV Ls k ++ [.int .i64 ((catTo Ls (k + 1)).length : Nat)] := by simp [endsV, List.range_succ]

theorem cut_place (a : Int) (n : Nat) (hn : n ≤ 100000000) : ∃ K : Nat, wrap64 ((IntKind.u64.wrap a).tmod ((n : Int) + 1)) = (K : Int) ∧ K ≤ n := by
  have h0 : 0 ≤ IntKind.u64.wrap a := by rw [IntKind.wrap_u64]; exact Int.emod_nonneg _ (by decide)
  have h1 := Int.tmod_eq_emod_of_nonneg (b := (n : Int) + 1) h0
  have h2 := Int.emod_nonneg (IntKind.u64.wrap a) (b := (n : Int) + 1) (by omega)
  have h3 := Int.emod_lt_of_pos (IntKind.u64.wrap a) (b := (n : Int) + 1) (by omega)
  rw [h1]
  generalize IntKind.u64.wrap a % ((n : Int) + 1) = m at *
  rw [IntWalk.wrap64_in m ⟨by omega, by omega⟩]
  exact ⟨m.toNat, by omega, by omega⟩

set_option maxRecDepth 100000 in
set_option maxHeartbeats 4000000 in
theorem walk_FrameCut (w : World) (v : Value) (Ls : List (List UInt8)) (hb : RdRows w v Ls) (a : Int) (_ha0 : -9223372036854775808 ≤ a) (_ha : a ≤ 9223372036854775807) (tot : Ls.length + sumLen Ls ≤ 1048576) :
    Calls Try.prog 11 #[v, .int .i64 a] w fun e w' => e = .returned (.bool true) ∧ Below w.heap.size w w' := by
  have Hb := hid hb
  obtain ⟨ao, c, rfl, hlc, hi⟩ := hb
  have HI := hid hi
  have hcat : ∀ i, i ≤ Ls.length → (catTo Ls i).length ≤ 8000000 := fun i hi => by
    have h1 := catTo_le Ls i hi
    have h2 := sum_take_le Ls i
    omega
  have HCat := hid hcat
  have hlen : Ls.length ≤ 1048576 := by omega
  clear hi hcat tot
  go_enter Try.func11, Try.ntmps11
  go_wp2
  go_loopw [5, 6, 7, 8, 9] (fun b ends i _ _ wr => ∃ k ab cb ae ce, k ≤ Ls.length ∧ i = .int .i64 ((k : Nat) : Int) ∧ b = .slice ab (catTo Ls k).length cb ∧ ends = .slice ae k ce ∧ (∀ j, j < k → (Ls.getD j []).length ≤ 65535) ∧ w.heap.size ≤ wr.heap.size ∧ Below w.heap.size w wr ∧
      wr.ownsRow w.heap.size 5 1 (.slice ab (catTo Ls k).length cb) (catTo Ls k).length (bc (catTo Ls k)) ∧ wr.ownsRow w.heap.size 3 1 (.slice ae k ce) k (endsV Ls k))
    (fun _ _ i _ _ _ => Ls.length - (intOf i).toNat)
  case atStart => exact ⟨0, none, 0, none, 0, Nat.zero_le _, rfl, rfl, rfl, fun j h => by omega, Nat.le_refl _, Below.refl _ _, World.ownsRow_nil _ _ _ _, World.ownsRow_nil _ _ _ _⟩
  case round =>
    obtain ⟨k, ab, cb, ae, ce, hk, rfl, rfl, rfl, hsm, hsz, hbel, hob, hoe⟩ := hrel
    have L := hid hbel; have OB := hid hob; have OE := hid hoe; have SM := hid hsm
    clear hbel hob hoe hsm
    by_cases hlt : k < Ls.length
    · obtain ⟨bb, off, ai, ci, rfl, hbl, hcell, hsl⟩ := HI.out k hlt
      have hcw : wr.cell? ⟨bb, off + k, none⟩ = some (.slice ai (Ls.getD k []).length ci) := (L.out.cell (p := ⟨bb, off + k, none⟩) hbl).trans hcell
      have HSl := hid (hsl.below L.out (fun _ _ h => h))
      have hck := HCat.out k hk
      have hck1 := HCat.out (k + 1) (by omega)
      have hx20 : (Ls.getD k []).length ≤ 8000000 := by rw [catTo_length] at hck1; omega
      have HL1 := hid (catTo_length Ls k)
      have HC1 := hid (show catTo Ls (k + 1) = catTo Ls k ++ frameL (Ls.getD k []) from rfl)
      have HE1 := hid (endsV_succ Ls k)
      have hi0 : (k : Int) < (Ls.length : Int) := by omega
      have hrest := hid (fun (h : (Ls.getD k []).length ≤ 65535) => put_in (.slice ab (catTo Ls k).length cb) (.slice ai (Ls.getD k []).length ci) (catTo Ls k) (Ls.getD k []) wr (by omega) h (Sl.own OB.out) HSl.out)
      clear hcell hsl
      generalize hX : Ls.getD k [] = X at *
      have HX := hid hX; clear hX
      by_cases hbig : 65535 < X.length
      · have hd : decide (65535 < (X.length : Int)) = true := by simp; omega
        go_wp2_with fail
        refine (lives_any wr).mono ?_
        rintro e w2 ⟨rfl, hb2⟩
        have L2 := hid hb2; clear hb2
        go_wp2
        go_ret
        exact ⟨rfl, L.out.trans (L2.out.mono hsz)⟩
      · have hd : decide (65535 < (X.length : Int)) = false := by simp; omega
        have hP := hrest.out (by omega)
        rw [← HC1.out] at hP
        have HP := hid hP
        clear hP
        go_wp2_with fail
        refine HP.out.mono ?_
        rintro e w2 ⟨ab2, cb2, rfl, hb2, hown2⟩
        have L2 := hid (L.out.trans (hb2.mono hsz)); have OB2 := hid (own_base hown2 hsz); have s2 := hb2.size
        have OE2 := hid (own_below OE.out hb2 (Nat.le_refl _))
        clear hb2 hown2
        generalize hC : (catTo Ls (k + 1)).length = C at *
        have HC := hid hC
        clear hC
        go_wp2_with (at_builtin; refine wpList_appI rfl (.tmp 41) (.tmp 44) rfl w.heap.size (.slice ae k ce) k (endsV Ls k) rfl OE2.out (C : Nat) w2.heap.size rfl rfl (by omega) (by omega) ?_; intro g3 cap3 w3 hown3 hgrow3 hbel3 hsz3; have OE3 := hid hown3; have OB3 := hid (own_grown_ne OB2.out OE2.out hgrow3 (by decide)); have L3 := hid (hbel3 w L2.out); have G3 := hid hgrow3; clear hown3 hgrow3 hbel3)
        go_roundw
        case rel => exact ⟨k + 1, ab2, cb2, some ⟨g3, 0, none⟩, cap3, by omega, by go_num, by rw [HC.out], rfl, fun j hj => by
            by_cases h : j < k
            · exact SM.out j h
            · obtain rfl : j = k := by omega
              rw [HX.out]; omega, hsz3, L3.out, by rw [HC.out]; exact OB3.out, by rw [HE1.out]; exact OE3.out⟩
        case measure => simp [intOf]; omega
    · obtain rfl : k = Ls.length := by omega
      have hN := HCat.out Ls.length (Nat.le_refl _)
      obtain ⟨K, hKe, hKl⟩ := cut_place a (catTo Ls Ls.length).length (by omega)
      obtain ⟨n, hn⟩ : ∃ n, n = (catTo Ls Ls.length).length := ⟨_, rfl⟩
      have HNN := hid hn
      rw [← hn] at OB hN hKe hKl ⊢
      clear hn
      go_wp2
      rw [hKe]
      clear hKe hlt
      have hcb := own_capn OB.out
      have hAll := hid (fun m (h1 : m ≤ Ls.length) (h2 : (catTo Ls m).length ≤ K) (h3 : m < Ls.length → K < (catTo Ls (m + 1)).length) => cut_all Ls Ls.length K m h1 (Nat.le_refl _) h2 (by rw [← HNN.out]; exact hKl) h3 (fun j => by
        by_cases h : j < Ls.length
        · exact SM.out j h
        · simp [List.getD, List.getElem?_eq_none (Nat.le_of_not_lt h)]))
      have HEc := hid (fun j (hj : j < Ls.length) => (show ∃ ge ce', (Value.slice ae Ls.length ce) = .slice (some ⟨ge, 0, none⟩) Ls.length ce' ∧ Ls.length ≤ ce' ∧ wr.cell? ⟨ge, j, none⟩ = some (.int .i64 ((catTo Ls (j + 1)).length : Nat)) from by
        obtain ⟨ge, ce', e1, _, _, h2, _⟩ := ownsRow_form OE.out (by
          rintro h
          simp only [Value.slice.injEq] at h
          omega)
        refine ⟨ge, ce', e1, h2, ?_⟩
        have h := OE.out
        rw [e1] at h
        rw [h.cellAt j (by omega)]
        simp [endsV, hj]))
      have HAllC := hid (fun m (hp : allL ((catTo Ls Ls.length).take K) = (Ls.take m, (catTo Ls m).length)) => (show Calls Try.prog 31 #[.slice ab K cb] wr (AllPost wr (Ls.take m, (catTo Ls m).length)) from by
        have hT : ((catTo Ls Ls.length).take K).length = K := by rw [List.length_take, ← HNN.out]; omega
        have h := all_any (.slice ab K cb) ((catTo Ls Ls.length).take K) wr (by rw [hT]; omega) (by
          rw [hT]
          exact Sl.cut (Sl.own OB.out) (ys := bc ((catTo Ls Ls.length).take K)) K hKl (by simp [bc]))
        rw [hp] at h
        exact h))
      obtain ⟨wo, rfl⟩ : ∃ wo : World, wo = wr := ⟨_, rfl⟩
      go_loop [11, 12] (fun wh en => ∃ j, j ≤ Ls.length ∧ wh = .int .i64 ((j : Nat) : Int) ∧ en = .int .i64 (((catTo Ls j).length : Nat) : Int) ∧ (catTo Ls j).length ≤ K)
        (fun wh _ => Ls.length - (intOf wh).toNat)
      case atStart => exact ⟨0, Nat.zero_le _, rfl, rfl, Nat.zero_le _⟩
      case round =>
        obtain ⟨j, hj, rfl, rfl, hjK⟩ := hrel
        by_cases hgo : j < Ls.length ∧ (catTo Ls (j + 1)).length ≤ K
        · obtain ⟨hjn, hle⟩ := hgo
          obtain ⟨ge, ce', e1, hcc, hcell⟩ := HEc.out j hjn
          simp only [Value.slice.injEq] at e1
          obtain ⟨rfl, _, rfl⟩ := e1
          have hi0 : (j : Int) < (Ls.length : Int) := by omega
          generalize hC1 : (catTo Ls (j + 1)).length = C1 at *
          have HC1 := hid hC1; clear hC1
          have hd : decide ((C1 : Int) ≤ (K : Int)) = true := by simp; omega
          have hd2 : decide (C1 ≤ K) = true := by simp; omega
          go_wp2
          go_round
          case rel => exact ⟨j + 1, by omega, by go_num, by rw [HC1.out], by rw [HC1.out]; exact hle⟩
          case measure => simp [intOf]; omega
        · have hp := hAll.out j hj hjK (fun h => by
            by_cases h2 : (catTo Ls (j + 1)).length ≤ K
            · exact absurd ⟨h, h2⟩ hgo
            · omega)
          have HC := hid (HAllC.out j hp)
          have hcase : j = Ls.length ∨ (j < Ls.length ∧ K < (catTo Ls (j + 1)).length) := by
            by_cases h : j < Ls.length
            · right
              refine ⟨h, ?_⟩
              by_cases h2 : (catTo Ls (j + 1)).length ≤ K
              · exact absurd ⟨h, h2⟩ hgo
              · omega
            · left; omega
          clear hp hgo
          generalize hCj : (catTo Ls j).length = Cj at *
          have htl : (Ls.take j).length = j := by simp; omega
          have HTL := hid htl
          clear htl hCj
          have hK0 : (0 : Int) ≤ (K : Int) := by omega
          have hK1 : (K : Int) ≤ (cb : Int) := by omega
          rcases hcase with hjn | ⟨hjn, hKlt⟩
          · have hi0 : ¬ (j : Int) < (Ls.length : Int) := by omega
            have hi1 : ¬ j < Ls.length := by omega
            have HJ := hid hjn; clear hjn
            go_wp2_with fail
            refine HC.out.mono ?_
            rintro e w5 ⟨v5, rfl, hb5, hrow5⟩
            obtain ⟨ao5, c5, rfl, _⟩ := hrow5.shape
            rw [HTL.out]
            have L5 := hid (L.out.trans (hb5.mono hsz))
            have R5 := hid hrow5
            have RD5 := hid (Hb.out.below L5.out)
            clear hb5 hrow5
            go_wp2_with fail
            go_loopw [15] (fun i wr => ∃ k q, k ≤ j ∧ i = .int .i64 ((k : Nat) : Int) ∧ wr = w5.drewN q)
              (fun i _ => j - (intOf i).toNat)
            case atStart => exact ⟨0, 0, Nat.zero_le _, rfl, rfl⟩
            case round =>
              obtain ⟨k, q, hk, rfl, rfl⟩ := hrel
              by_cases hlt : k < j
              · obtain ⟨g5, cap5, e5, hc5, _, f5, hf5, hcell5⟩ := R5.out.at (by rw [HTL.out]; omega)
                simp only [Value.slice.injEq] at e5
                obtain ⟨rfl, _, rfl⟩ := e5
                obtain ⟨ao', c', hv', _, hi'⟩ := RD5.out
                simp only [Value.slice.injEq] at hv'
                obtain ⟨rfl, _, rfl⟩ := hv'
                obtain ⟨b6, off6, ai6, ci6, rfl, _, d2, ho2⟩ := hi' k (by omega)
                obtain ⟨⟨x1, y1, hx1⟩, ho1⟩ := hf5.1 k (by rw [HTL.out]; omega)
                have d1 := hcell5 k (by rw [HTL.out]; omega)
                have eg : (Ls.take j).getD k [] = Ls.getD k [] := by simp only [List.getD]; rw [List.getElem?_take, if_pos hlt]
                rw [eg] at hx1 ho1
                rw [hx1] at d1 ho1
                have q1 : ∀ nq, (convert 22 9 (.slice x1 (Ls.getD k []).length y1)).run Try.prog (w5.drewN nq) = .ok (.string ⟨(Ls.getD k []).toArray⟩) (w5.drewN nq) := fun nq =>
                  run_convert_sl (P := Try.prog) (w5.drewN nq) 22 9 5 Try.underlying22 Try.underlying5 Try.underlying9 ((Sl.own ho1).keep fun _ _ _ => rfl)
                have q2 : ∀ nq, (convert 22 9 (.slice ai6 (Ls.getD k []).length ci6)).run Try.prog (w5.drewN nq) = .ok (.string ⟨(Ls.getD k []).toArray⟩) (w5.drewN nq) := fun nq =>
                  run_convert_sl (P := Try.prog) (w5.drewN nq) 22 9 5 Try.underlying22 Try.underlying5 Try.underlying9 (ho2.keep fun _ _ _ => rfl)
                rw [HTL.out] at hc5
                generalize Ls.getD k [] = X at *
                have i0 : (k : Int) < (j : Int) := by omega
                have i7 : (k : Int) < (Ls.length : Int) := by omega
                clear hf5 hcell5 hx1 ho1 ho2 eg hi'
                go_wp2
                go_quiet (fail)
                go_wp2
                go_roundw
                case rel => exact ⟨k + 1, _, by omega, by go_num, rfl⟩
                case measure => simp [intOf]; omega
              · go_wp2_with fail
                refine (lives_any _).mono ?_
                rintro e w7 ⟨rfl, hb7⟩
                have L7 := hid hb7; clear hb7
                have L6 := hid (Below_drewN L5.out q)
                go_wp2
                go_ret
                exact ⟨rfl, L6.out.trans (L7.out.mono L6.out.size)⟩
          · obtain ⟨ge, ce', e1, hcc, hcell⟩ := HEc.out j hjn
            simp only [Value.slice.injEq] at e1
            obtain ⟨rfl, _, rfl⟩ := e1
            have hi0 : (j : Int) < (Ls.length : Int) := by omega
            generalize (catTo Ls (j + 1)).length = C1 at *
            have hd : decide ((C1 : Int) ≤ (K : Int)) = false := by simp; omega
            have hd2 : decide (C1 ≤ K) = false := by simp; omega
            go_wp2_with fail
            refine HC.out.mono ?_
            rintro e w5 ⟨v5, rfl, hb5, hrow5⟩
            obtain ⟨ao5, c5, rfl, _⟩ := hrow5.shape
            rw [HTL.out]
            have L5 := hid (L.out.trans (hb5.mono hsz))
            have R5 := hid hrow5
            have RD5 := hid (Hb.out.below L5.out)
            clear hb5 hrow5
            go_wp2_with fail
            go_loopw [15] (fun i wr => ∃ k q, k ≤ j ∧ i = .int .i64 ((k : Nat) : Int) ∧ wr = w5.drewN q)
              (fun i _ => j - (intOf i).toNat)
            case atStart => exact ⟨0, 0, Nat.zero_le _, rfl, rfl⟩
            case round =>
              obtain ⟨k, q, hk, rfl, rfl⟩ := hrel
              by_cases hlt : k < j
              · obtain ⟨g5, cap5, e5, hc5, _, f5, hf5, hcell5⟩ := R5.out.at (by rw [HTL.out]; omega)
                simp only [Value.slice.injEq] at e5
                obtain ⟨rfl, _, rfl⟩ := e5
                obtain ⟨ao', c', hv', _, hi'⟩ := RD5.out
                simp only [Value.slice.injEq] at hv'
                obtain ⟨rfl, _, rfl⟩ := hv'
                obtain ⟨b6, off6, ai6, ci6, rfl, _, d2, ho2⟩ := hi' k (by omega)
                obtain ⟨⟨x1, y1, hx1⟩, ho1⟩ := hf5.1 k (by rw [HTL.out]; omega)
                have d1 := hcell5 k (by rw [HTL.out]; omega)
                have eg : (Ls.take j).getD k [] = Ls.getD k [] := by simp only [List.getD]; rw [List.getElem?_take, if_pos hlt]
                rw [eg] at hx1 ho1
                rw [hx1] at d1 ho1
                have q1 : ∀ nq, (convert 22 9 (.slice x1 (Ls.getD k []).length y1)).run Try.prog (w5.drewN nq) = .ok (.string ⟨(Ls.getD k []).toArray⟩) (w5.drewN nq) := fun nq =>
                  run_convert_sl (P := Try.prog) (w5.drewN nq) 22 9 5 Try.underlying22 Try.underlying5 Try.underlying9 ((Sl.own ho1).keep fun _ _ _ => rfl)
                have q2 : ∀ nq, (convert 22 9 (.slice ai6 (Ls.getD k []).length ci6)).run Try.prog (w5.drewN nq) = .ok (.string ⟨(Ls.getD k []).toArray⟩) (w5.drewN nq) := fun nq =>
                  run_convert_sl (P := Try.prog) (w5.drewN nq) 22 9 5 Try.underlying22 Try.underlying5 Try.underlying9 (ho2.keep fun _ _ _ => rfl)
                rw [HTL.out] at hc5
                generalize Ls.getD k [] = X at *
                have i0 : (k : Int) < (j : Int) := by omega
                have i7 : (k : Int) < (Ls.length : Int) := by omega
                clear hf5 hcell5 hx1 ho1 ho2 eg hi'
                go_wp2
                go_quiet (fail)
                go_wp2
                go_roundw
                case rel => exact ⟨k + 1, _, by omega, by go_num, rfl⟩
                case measure => simp [intOf]; omega
              · go_wp2_with fail
                refine (lives_any _).mono ?_
                rintro e w7 ⟨rfl, hb7⟩
                have L7 := hid hb7; clear hb7
                have L6 := hid (Below_drewN L5.out q)
                go_wp2
                go_ret
                exact ⟨rfl, L6.out.trans (L7.out.mono L6.out.size)⟩
end Go.Proofs.Ytecnjgiodnphcaa
