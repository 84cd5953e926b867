/- the reference's values, Sum. -/
import Derived.Test.YtebjdiiogihcdaaRd
import Derived.Test.YtebjdiiogihcdaaWu
namespace Go.Proofs.Ytebjdiiogihcdaa
open Go.RowKit
set_option linter.unusedSimpArgs false

/-- ints as cells -/
def iz (l : List Int) : List Value := l.map fun n => Value.int .i64 n
@[simp] theorem iz_length (l : List Int) : (iz l).length = l.length := by simp [iz]
theorem iz_append (a b : List Int) : iz (a ++ b) = iz a ++ iz b := by simp [iz]
theorem iz_one (l : List Int) : ∀ u ∈ iz l, u.oneCell' = true := by
  intro u hu
  simp only [iz, List.mem_map] at hu
  obtain ⟨n, _, rfl⟩ := hu
  rfl
theorem iz_get (l : List Int) (i : Nat) (h : i < l.length) : (iz l)[i]? = some (.int .i64 (l.getD i 0)) := by simp [iz, h]
def vals (l : List (Int × Int)) : List Int := l.map Prod.snd
@[simp] theorem vals_length (l : List (Int × Int)) : (vals l).length = l.length := by simp [vals]
theorem vals_get (l : List (Int × Int)) (j : Nat) (h : j < l.length) : (vals l).getD j 0 = (l.getD j (0, 0)).2 := by
  simp [vals, List.getD_eq_getElem?_getD, h]
theorem vals_cells {w : World} {ao : Option Addr} {n c : Nat} {l : List (Int × Int)} (h : Sl w 1 (.slice ao n c) l.length (iz (vals l))) (hk : 0 < l.length) : ∃ b off, ao = some ⟨b, off, none⟩ ∧ b < w.heap.size ∧
    ∀ j, j < l.length → w.cell? ⟨b, off + j, none⟩ = some (.int .i64 (l.getD j (0, 0)).2) := by
  obtain ⟨b, off, c', hv, _, _, hbl, hcell⟩ := h.form (by decide) hk
  simp only [Value.slice.injEq] at hv
  exact ⟨b, off, hv.1, hbl, fun j hj => by rw [hcell j (by omega), iz_get _ _ (by simpa using hj), vals_get l j hj]⟩

/-- append of one int onto ints of the call's own -/
theorem wpList_appI {ops : Array Oper} {rest : List Oper} {o : Oper} {a : Act} {w : World} {Q : Exit → Act → World → Prop} (hgd : o.guard = none) (s x : Operand) (ho : o.op = .call { callee := .builtin .append, args := #[s, x], argTypes := #[51, 51] })
    (base : Nat) (v : Value) (n : Nat) (l : List Int) (hsv : a.eval s = v) (hown : w.ownsRow base 3 1 v n (iz l)) (y : Int) (H0 : Nat) (hH0 : w.heap.size = H0) (hxv : a.eval x = .slice (some ⟨H0, 0, none⟩) 1 1)
    (hn : n ≤ 20000000000000) (hbase : base ≤ w.heap.size)
    (h : ∀ g cap w', w'.ownsRow base 3 1 (.slice (some ⟨g, 0, none⟩) (n + 1) cap) (n + 1) (iz (l ++ [y])) → w.grownBy w' v.ownBlock → (∀ W, Below base W w → Below base W w') → base ≤ w'.heap.size →
      wpList Try.prog ops Q rest (a.put o.dst (.slice (some ⟨g, 0, none⟩) (n + 1) cap)) w') : wpList Try.prog ops Q (o :: rest) a (w.alloc (.cells #[.int .i64 y] 3)) := by
  subst hH0
  obtain ⟨i0, hi, hz0, hz1, hz2⟩ := info_parts infoIntR
  have hsrc : Src Try.prog 1 51 (.slice (some ⟨w.heap.size, 0, none⟩) 1 1) 1 (iz [y]) (w.alloc (.cells #[.int .i64 y] 3)) :=
    Src.ofSlice _ Try.underlying51 _ 1 1 [.int .i64 y] rfl (World.news_of_block (cs := #[.int .i64 y]) (t := 3) (fr := (0, 0)) (heap_alloc_new w _)) (by simp [Value.oneCell'])
  refine wpList_append_put hgd s x 51 51 ho base 3 i0 (.int .i64 0) 1 8 Try.underlying51 hi hz0 hz1 hz2 rfl v n (iz l) hsv (hown.alloc _) _ 1 _ hxv hsrc (.inr (by omega)) (by unfold maxLen; omega) (by omega) (by simp; omega) (w.heap.size + 1) (by simp) ?_
  intro g cap w' h1 h2 h3 _ _
  rw [← iz_append] at h1
  refine h g cap w' h1 ⟨h2.os, h2.tape, h2.output, by have := h2.size; simp at this; omega, fun k hk hne => ?_⟩ (fun W hW => (hW.alloc hbase _).grown h2 (by simp; omega) (fun k hk => (hown.lt k hk).1)) (by have := h2.size; simp at this; omega)
  rw [h2.block k (by simp; omega) hne]
  exact Below.heap_alloc w _ k hk

theorem vals_next (l : List (Int × Int)) (k : Nat) (h : k < l.length) : vals (l.take (k + 1)) = vals (l.take k) ++ [(l.getD k (0, 0)).2] := by
  rw [take_next l k h]; simp [vals]
set_option maxRecDepth 100000 in
set_option maxHeartbeats 2000000 in
theorem values_any (v : Value) (l : List (Int × Int)) (w : World) (hl : l.length ≤ 10000000000000) (hb : Sl w 2 v l.length (sc l)) :
    Calls Try.prog 25 #[v] w fun e w' => ∃ ao cap, e = .returned (.slice ao l.length cap) ∧ Below w.heap.size w w' ∧ w'.ownsRow w.heap.size 3 1 (.slice ao l.length cap) l.length (iz (vals l)) := by
  obtain ⟨ao, c, rfl, hlc, hcm, hao⟩ := hb.shape
  have Hb := hid hb
  clear hb hao
  go_enter Try.func25, Try.ntmps25
  go_wp2
  go_loopw [3, 4] (fun ov i wr => ∃ (k : Nat) (oo : Option Addr) (cc : Nat), k ≤ l.length ∧ i = .int .i64 ((k : Nat) : Int) ∧ ov = .slice oo k cc ∧ Below w.heap.size w wr ∧ wr.ownsRow w.heap.size 3 1 (.slice oo k cc) k (iz (vals (l.take k))))
    (fun _ i _ => l.length - (intOf i).toNat)
  case atStart => exact ⟨0, none, 0, Nat.zero_le _, rfl, rfl, Below.refl _ _, World.ownsRow_nil _ _ _ _⟩
  case round =>
    obtain ⟨k, oo, cc, hk, rfl, rfl, hbel, hown⟩ := hrel
    have L := hid hbel; have O := hid hown
    clear hbel hown
    by_cases hlt : k < l.length
    · obtain ⟨b, off, rfl, hbl, hcell⟩ := sc_cells Hb.out (by omega)
      have hc1 : wr.cell? ⟨b, off + k * 2 + 1, none⟩ = some (.int .i64 (l.getD k (0, 0)).2) := by rw [World.cell?_of_block (L.out.block b hbl)]; exact (hcell k hlt).2
      have i1 : (k : Int) < (l.length : Int) := by omega
      have HN := hid (vals_next l k hlt)
      obtain ⟨p, hp⟩ : ∃ p, p = (l.getD k (0, 0)).2 := ⟨_, rfl⟩
      rw [← hp] at HN hc1
      clear hcell hp
      go_wp2_with (at_builtin; refine wpList_appI rfl (.tmp 11) (.tmp 17) rfl w.heap.size (.slice oo k cc) k (vals (l.take k)) rfl O.out p wr.heap.size rfl rfl (by omega) L.out.size ?_; intro g1 c1 w1 hown1 hgrow1 hat1 hlt1; have O1 := hid hown1; have L1 := hid (hat1 w L.out); clear hown1 hgrow1 hat1)
      go_roundw
      case rel => exact ⟨k + 1, some ⟨g1, 0, none⟩, c1, hlt, by go_num, rfl, L1.out, by rw [HN.out]; exact O1.out⟩
      case measure => simp [intOf]; omega
    · obtain rfl : k = l.length := by omega
      rw [List.take_length] at O
      go_wp2
      go_ret
      exact ⟨oo, cc, rfl, L.out, O.out⟩

/-- the sum of the first k values -/
def sumK (l : List (Int × Int)) : Nat → Int × Int
  | 0 => (0, 0)
  | k + 1 => foldTo (fun s v _ => addV s v) l (firstV l) k
theorem sumK_step {l : List (Int × Int)} (hc : chkA none l = 0) (k : Nat) (hk : k < l.length) (h : (sumK l k).2 = 0) : sumK l (k + 1) = if (addV (sumK l k).1 (l.getD k (0, 0)).2).2 ≠ 0 then (0, (addV (sumK l k).1 (l.getD k (0, 0)).2).2) else addV (sumK l k).1 (l.getD k (0, 0)).2 := by
  cases k with
  | zero =>
    have hf := rise_fit hc 0 hk
    have e : addV (sumK l 0).1 (l.getD 0 (0, 0)).2 = ((l.getD 0 (0, 0)).2, 0) := by
      unfold addV
      rw [if_pos ⟨rfl, hf⟩, show (sumK l 0).1 + (l.getD 0 (0, 0)).2 = (l.getD 0 (0, 0)).2 by simp [sumK], toldV_fit hf]
    rw [e, if_neg (by simp)]
    rfl
  | succ k =>
    simp only [sumK] at h ⊢
    rw [foldTo, if_neg (by rw [h]; simp)]
    rfl

set_option maxRecDepth 100000 in
set_option maxHeartbeats 2000000 in
theorem refSum_any (v : Value) (l : List (Int × Int)) (w : World) (hc : chkA none l = 0) (hn : 1 ≤ l.length) (hl : l.length ≤ 10000000000000) (hb : Sl w 1 v l.length (iz (vals l))) :
    Calls Try.prog 43 #[v] w fun e w' => e = two (sumV l) ∧ w' = w := by
  obtain ⟨ao, c, rfl, hlc, hcm, hao⟩ := hb.shape
  obtain ⟨b, off, rfl, _, hcell⟩ := vals_cells hb hn
  have HC := hid hcell; have HCH := hid hc
  have HA := hid refAdd_any
  clear hb hao hcell hc
  unfold two
  go_enter Try.func43, Try.ntmps43
  go_wp2
  go_loopw [4, 5, 6, 7] (fun sv i _ _ wr => ∃ k, k ≤ l.length ∧ i = .int .i64 ((k : Nat) : Int) ∧ sv = .int .i64 (sumK l k).1 ∧ (sumK l k).2 = 0 ∧ wr = w)
    (fun _ i _ _ _ => l.length - (intOf i).toNat)
  case atStart => exact ⟨0, Nat.zero_le _, rfl, rfl, rfl, rfl⟩
  case round =>
    obtain ⟨k, hk, rfl, rfl, hz, rfl⟩ := hrel
    have HZ := hid hz
    clear hz
    by_cases hlt : k < l.length
    · have c0 := HC.out k hlt
      have i1 : (k : Int) < (l.length : Int) := by omega
      have HN := hid (sumK_step HCH.out k hlt HZ.out)
      have HE := hid (fun (h : (sumK l (k + 1)).2 ≠ 0) => (foldTo_err (f := fun s v _ => addV s v) (l := l) (c := firstV l) (k := k) h (l.length - 1) (by omega)))
      have HAA := hid (HA.out (sumK l k).1 (l.getD k (0, 0)).2)
      generalize (l.getD k (0, 0)).2 = p at *
      obtain ⟨s, hs⟩ : ∃ s, s = (sumK l k).1 := ⟨_, rfl⟩
      rw [← hs] at HAA HN ⊢
      clear hs
      obtain ⟨r, hr⟩ : ∃ r, r = addV s p := ⟨_, rfl⟩
      rw [← hr] at HAA HN
      clear hr
      unfold two at HAA
      rcases Bool.eq_false_or_eq_true (r.2 != 0) with hd | hd
      · have hne : r.2 ≠ 0 := by simpa using hd
        have HR := hid (show sumV l = (0, r.2) by
          have e := HN.out
          rw [if_pos hne] at e
          have e2 := HE.out (by rw [e]; exact hne)
          exact e2.trans e)
        clear hne
        go_wp2_with fail
        refine (HAA.out _).mono ?_
        rintro e wz ⟨rfl, hwz⟩
        subst wz
        go_wp2
        go_ret2
        exact ⟨by rw [HR.out]; rfl, rfl⟩
      · have hne : r.2 = 0 := by simpa using hd
        have HR := hid (show sumK l (k + 1) = r by rw [HN.out, if_neg (by rw [hne]; simp)])
        have HNE := hid hne
        clear hne
        go_wp2_with fail
        refine (HAA.out _).mono ?_
        rintro e wz ⟨rfl, hwz⟩
        subst wz
        go_wp2
        go_roundw
        case rel => exact ⟨k + 1, hlt, by go_num, by rw [HR.out], by rw [HR.out]; exact HNE.out, by first | rfl | trivial⟩
        case measure => simp [intOf]; omega
    · obtain rfl : k = l.length := by omega
      have HF := hid (show sumV l = ((sumK l l.length).1, 0) by
        have e : sumK l l.length = sumV l := by
          obtain ⟨m, hm⟩ : ∃ m, l.length = m + 1 := ⟨l.length - 1, by omega⟩
          unfold sumV
          rw [hm]; rfl
        rw [← e]; exact Prod.ext rfl HZ.out)
      go_wp2
      go_ret2
      exact ⟨by rw [HF.out]; rfl, rfl⟩
end Go.Proofs.Ytebjdiiogihcdaa
