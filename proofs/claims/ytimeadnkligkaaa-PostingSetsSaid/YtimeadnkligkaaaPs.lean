/- The reference's refused, Pick, Both, Without. -/
import Derived.Test.YtimeadnkligkaaaPq
import Derived.Test.YtimeadnkligkaaaPi
namespace Go.Proofs.Ytimeadnkligkaaa
open Go.RowKit

def refV (a b : List Int) : Int := if chkL a ≠ 0 then chkL a else chkL b
theorem refused_any (va vb : Value) (a b : List Int) (w : World) (hla : a.length ≤ 20000000000000) (hlb : b.length ≤ 20000000000000) (ha : Sl w 1 va a.length (ic a)) (hb : Sl w 1 vb b.length (ic b)) (ha64 : I64 a) (hb64 : I64 b) :
    Calls Try.prog 30 #[va, vb] w fun e w' => e = .returned (.int .i64 (refV a b)) ∧ Below w.heap.size w w' := by
  have H1 := hid (refCheck_any va a w hla ha ha64)
  have H2 := hid fun wx (hx : Below w.heap.size w wx) => refCheck_any vb b wx hlb (hb.below hx (fun _ _ h => h)) hb64
  by_cases hc : chkL a = 0
  · have e : refV a b = chkL b := by unfold refV; rw [if_neg (by simp [hc])]
    rw [e]
    rw [hc] at H1
    generalize chkL b = m at *
    clear ha hb ha64 hb64 e
    go_enter Try.func30, Try.ntmps30
    go_wp2_with fail
    refine H1.out.mono ?_
    rintro e w1 ⟨rfl, hb1⟩
    have L1 := hid hb1; have s1 := hb1.size; clear hb1
    go_wp2_with fail
    refine (H2.out w1 L1.out).mono ?_
    rintro e w2 ⟨rfl, hb2⟩
    have L2 := hid (L1.out.trans (hb2.mono s1)); clear hb2
    go_wp2
    go_ret
    exact ⟨rfl, L2.out⟩
  · have e : refV a b = chkL a := by unfold refV; rw [if_pos hc]
    rw [e]
    generalize chkL a = m at *
    have hne : (m == 0) = false := by simpa using hc
    clear ha hb ha64 hb64 e
    go_enter Try.func30, Try.ntmps30
    go_wp2_with fail
    refine H1.out.mono ?_
    rintro e w1 ⟨rfl, hb1⟩
    have L1 := hid hb1; have s1 := hb1.size; clear hb1
    go_wp2
    go_ret
    exact ⟨rfl, L1.out⟩

def pickV (a b : List Int) (inn : Bool) : List Int := a.filter fun x => decide (x ∈ b) == inn
theorem pick_next (a b : List Int) (inn : Bool) (k : Nat) (h : k < a.length) : pickV (a.take (k + 1)) b inn = pickV (a.take k) b inn ++ (if (decide (a.getD k 0 ∈ b) == inn) = true then [a.getD k 0] else []) := by
  unfold pickV
  rw [take_next a k h, List.filter_append]
  simp only [List.filter_cons, List.filter_nil]
set_option maxRecDepth 100000 in
set_option maxHeartbeats 2000000 in
theorem pick_any (va vb : Value) (a b : List Int) (inn : Bool) (w : World) (hla : a.length ≤ 19000000000000) (hlb : b.length ≤ 20000000000000) (ha : Sl w 1 va a.length (ic a)) (hb : Sl w 1 vb b.length (ic b)) :
    Calls Try.prog 31 #[va, vb, .bool inn] w fun e w' => ∃ ao c, e = .returned (.slice ao (pickV a b inn).length c) ∧ Below w.heap.size w w' ∧
      w'.ownsRow w.heap.size 3 1 (.slice ao (pickV a b inn).length c) (pickV a b inn).length (ic (pickV a b inn)) := by
  have HC := hid (fun k (hk : k < a.length) => (show ∃ b off c, va = .slice (some ⟨b, off, none⟩) a.length c ∧ b < w.heap.size ∧ w.cell? ⟨b, off + k, none⟩ = some (.int .i64 (a.getD k 0)) from by
    obtain ⟨b, off, c', hv, _, _, hbl, hcell⟩ := ha.form (by decide) (by omega)
    exact ⟨b, off, c', hv, hbl, by rw [hcell k (by omega), ic_get a k hk]⟩))
  obtain ⟨ao, c, rfl, _⟩ := ha.shape
  obtain ⟨R, hR⟩ : ∃ R, R = pickV a b inn := ⟨_, rfl⟩
  rw [← hR]
  have HR := hid hR; have Hb := hid hb
  clear ha hb hR
  go_enter Try.func31, Try.ntmps31
  go_wp2
  go_loopw [7, 8] (fun out i wr => ∃ k L ao2 c2, k ≤ a.length ∧ i = .int .i64 ((k : Nat) : Int) ∧ L = pickV (a.take k) b inn ∧ L.length ≤ k ∧ out = .slice ao2 L.length c2 ∧ w.heap.size ≤ wr.heap.size ∧ Below w.heap.size w wr ∧ wr.ownsRow w.heap.size 3 1 (.slice ao2 L.length c2) L.length (ic L))
    (fun _ i _ => a.length - (intOf i).toNat)
  case atStart => exact ⟨0, [], none, 0, Nat.zero_le _, rfl, by simp [pickV], by simp, rfl, Nat.le_refl _, Below.refl _ _, World.ownsRow_nil _ _ _ _⟩
  case round =>
    obtain ⟨k, L, ao2, c2, hk, rfl, hL, hLk, rfl, hsz, hbel, hown⟩ := hrel
    have LW := hid hbel; have O := hid hown; have HLL := hid hL
    clear hbel hown hL
    by_cases hlt : k < a.length
    · obtain ⟨b1, off1, c1, hv, hbl, hc0⟩ := HC.out k hlt
      simp only [Value.slice.injEq] at hv
      obtain ⟨rfl, _, rfl⟩ := hv
      have hcw : wr.cell? ⟨b1, off1 + k, none⟩ = some (.int .i64 (a.getD k 0)) := (LW.out.cell (p := ⟨b1, off1 + k, none⟩) hbl).trans hc0
      have hN := pick_next a b inn k hlt
      rw [← HLL.out] at hN
      generalize a.getD k 0 = n at *
      have hH := has_any vb b n wr hlb (Hb.out.below LW.out (fun _ _ h => h))
      generalize decide (n ∈ b) = h0 at *
      have HH := hid hH; clear hH hc0
      by_cases hq : (h0 == inn) = true
      · rw [if_pos hq] at hN
        have HN := hid hN; clear hN
        go_wp2_with fail
        refine HH.out.mono ?_
        rintro e wz ⟨rfl, hwz⟩
        subst wz
        go_wp2_with (at_builtin; refine wpList_appI rfl (.tmp 23) (.tmp 28) rfl w.heap.size (.slice ao2 L.length c2) L.length L rfl O.out n _ rfl rfl (by omega) hsz ?_; intro g3 cap3 w3 hown3 hgrow3 hbel3 hsz3; have O3 := hid hown3; have L3 := hid (hbel3 w LW.out); clear hown3 hgrow3 hbel3)
        go_roundw
        case rel => exact ⟨k + 1, L ++ [n], some ⟨g3, 0, none⟩, cap3, by omega, by go_num, HN.out.symm, by simp; omega, by simp, hsz3, L3.out, by simpa using O3.out⟩
        case measure => simp [intOf]; omega
      · rw [if_neg hq] at hN
        have HN := hid hN; clear hN
        have hq : (h0 == inn) = false := by simpa using hq
        go_wp2_with fail
        refine HH.out.mono ?_
        rintro e wz ⟨rfl, hwz⟩
        subst wz
        go_wp2
        go_roundw
        case rel => exact ⟨k + 1, L, ao2, c2, by omega, by go_num, by rw [HN.out, List.append_nil], by omega, rfl, hsz, LW.out, O.out⟩
        case measure => simp [intOf]; omega
    · obtain rfl : k = a.length := by omega
      have e : R = L := by rw [HR.out, HLL.out, List.take_length]
      go_wp2
      go_ret
      rw [e]
      exact ⟨ao2, c2, rfl, LW.out, O.out⟩

/-- the reference's Both (inn) and Without in plain words -/
def refBW (a b : List Int) (inn : Bool) : List Int × Int := if refV a b ≠ 0 then ([], refV a b) else (pickV a b inn, 0)
theorem refBoth_any (va vb : Value) (a b : List Int) (w : World) (hla : a.length ≤ 19000000000000) (hlb : b.length ≤ 19000000000000) (ha : Sl w 1 va a.length (ic a)) (hb : Sl w 1 vb b.length (ic b)) (ha64 : I64 a) (hb64 : I64 b) :
    Calls Try.prog 16 #[va, vb] w (PutPostI w (refBW a b true)) := by
  have H1 := hid (refused_any va vb a b w (by omega) (by omega) ha hb ha64 hb64)
  have H2 := hid fun wx (hx : Below w.heap.size w wx) => pick_any va vb a b true wx hla (by omega) (ha.below hx (fun _ _ h => h)) (hb.below hx (fun _ _ h => h))
  unfold refBW
  by_cases hc : refV a b = 0
  · rw [if_neg (by simp [hc])]
    rw [hc] at H1
    clear ha hb ha64 hb64 hc
    go_enter Try.func16, Try.ntmps16
    go_wp2_with fail
    refine H1.out.mono ?_
    rintro e w1 ⟨rfl, hb1⟩
    have L1 := hid hb1; have s1 := hb1.size; clear hb1
    go_wp2_with fail
    refine (H2.out w1 L1.out).mono ?_
    rintro e w2 ⟨ao, c, rfl, hb2, ho2⟩
    have L2 := hid (L1.out.trans (hb2.mono s1)); have O2 := hid (own_base ho2 s1); clear hb2 ho2
    go_wp2
    go_ret2
    exact ⟨ao, c, rfl, L2.out, O2.out⟩
  · rw [if_pos hc]
    generalize refV a b = m at *
    have hne : (m == 0) = false := by simpa using hc
    clear ha hb ha64 hb64
    go_enter Try.func16, Try.ntmps16
    go_wp2_with fail
    refine H1.out.mono ?_
    rintro e w1 ⟨rfl, hb1⟩
    have L1 := hid hb1; have s1 := hb1.size; clear hb1
    go_wp2
    go_ret2
    exact ⟨none, 0, rfl, L1.out, World.ownsRow_nil _ _ _ _⟩
theorem refWithout_any (va vb : Value) (a b : List Int) (w : World) (hla : a.length ≤ 19000000000000) (hlb : b.length ≤ 19000000000000) (ha : Sl w 1 va a.length (ic a)) (hb : Sl w 1 vb b.length (ic b)) (ha64 : I64 a) (hb64 : I64 b) :
    Calls Try.prog 18 #[va, vb] w (PutPostI w (refBW a b false)) := by
  have H1 := hid (refused_any va vb a b w (by omega) (by omega) ha hb ha64 hb64)
  have H2 := hid fun wx (hx : Below w.heap.size w wx) => pick_any va vb a b false wx hla (by omega) (ha.below hx (fun _ _ h => h)) (hb.below hx (fun _ _ h => h))
  unfold refBW
  by_cases hc : refV a b = 0
  · rw [if_neg (by simp [hc])]
    rw [hc] at H1
    clear ha hb ha64 hb64 hc
    go_enter Try.func18, Try.ntmps18
    go_wp2_with fail
    refine H1.out.mono ?_
    rintro e w1 ⟨rfl, hb1⟩
    have L1 := hid hb1; have s1 := hb1.size; clear hb1
    go_wp2_with fail
    refine (H2.out w1 L1.out).mono ?_
    rintro e w2 ⟨ao, c, rfl, hb2, ho2⟩
    have L2 := hid (L1.out.trans (hb2.mono s1)); have O2 := hid (own_base ho2 s1); clear hb2 ho2
    go_wp2
    go_ret2
    exact ⟨ao, c, rfl, L2.out, O2.out⟩
  · rw [if_pos hc]
    generalize refV a b = m at *
    have hne : (m == 0) = false := by simpa using hc
    clear ha hb ha64 hb64
    go_enter Try.func18, Try.ntmps18
    go_wp2_with fail
    refine H1.out.mono ?_
    rintro e w1 ⟨rfl, hb1⟩
    have L1 := hid hb1; have s1 := hb1.size; clear hb1
    go_wp2
    go_ret2
    exact ⟨none, 0, rfl, L1.out, World.ownsRow_nil _ _ _ _⟩
end Go.Proofs.Ytimeadnkligkaaa
