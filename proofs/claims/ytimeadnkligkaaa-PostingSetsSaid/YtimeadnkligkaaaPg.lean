/- gaugelaw09.lives; the walk of PostingChecks. -/
import Derived.Test.YtimeadnkligkaaaPe
import Derived.Test.YtimeadnkligkaaaPf
import Derived.OpenShut
namespace Go.Proofs.Ytimeadnkligkaaa
open Go.RowKit

theorem lives1 : bothV [1, 3, 5] [3, 4, 5] = ([3, 5], 0) := by decide +kernel
theorem lives2 : chkL [1, 300] = 0 := by decide +kernel
theorem lives3 : [] ++ lvL [1, 300] = [2, 1, 171, 2] := by decide +kernel
theorem sl_lit (w : World) (H : Nat) (hH : w.heap.size = H) (l : List Int) (cs : Array Value) (n : Nat) (hcs : cs.toList = ic l) (hn : l.length = n) (hn0 : n < 1000000) : Sl (w.alloc (.cells cs 3)) 1 (.slice (some ⟨H, 0, none⟩) n n) n (ic l) :=
  Sl.blk (blk_new w _ H hH) n (ic l) hcs (by simpa using hn) (by unfold maxLen; omega)

set_option maxHeartbeats 1000000 in
theorem lives_any (w : World) : Calls Try.prog 12 #[] w fun e w' => e = .returned (.bool true) ∧ Below w.heap.size w w' := by
  have h1 := fun va vb wx (ha : Sl wx 1 va 3 (ic [1, 3, 5])) (hb : Sl wx 1 vb 3 (ic [3, 4, 5])) => both_any va vb [1, 3, 5] [3, 4, 5] wx (by simp) (by simp) ha hb (by simp [I64]) (by simp [I64])
  have h2 := fun vl wx (hx : Sl wx 1 vl 2 (ic [1, 300])) => pput_ok (.slice none 0 0) vl [] [1, 300] wx (by simp) (Sl.nil wx 1) (by simp) hx (by simp [I64]) lives2
  rw [lives1] at h1
  rw [lives3] at h2
  have h3 := fun va vb wx (ha : Sl wx 1 va 2 (ic [3, 5])) (hb : Sl wx 1 vb 2 (ic [3, 5])) => same_any va vb [3, 5] [3, 5] wx ha hb
  have H1 := hid h1; have H2 := hid h2; have H3 := hid h3
  clear h1 h2 h3
  go_enter Try.func12, Try.ntmps12
  go_wp2_with fail
  refine (H1.out _ _ _ ((sl_lit w _ rfl [1, 3, 5] _ 3 rfl rfl (by decide)).alloc _) (sl_lit _ _ (by simp) [3, 4, 5] _ 3 rfl rfl (by decide))).mono ?_
  rintro e w1 ⟨ao, c, rfl, hb1, hown1⟩
  have L1 := hid ((((Below.refl w.heap.size w).alloc (Nat.le_refl _) _).alloc (by simp) _).trans (hb1.mono (by simp; omega))); have O1 := hid hown1; clear hb1 hown1
  go_wp2_with fail
  refine (H2.out _ _ (sl_lit w1 _ rfl [1, 300] _ 2 rfl rfl (by decide))).mono ?_
  rintro e w2 ⟨g, c2, rfl, hb2, hown2⟩
  have hs1 := L1.out.size
  have L2 := hid ((L1.out.alloc hs1 _).trans (hb2.mono (by simp; omega))); have O2 := hid hown2
  have O1' := hid ((((Sl.own O1.out).alloc (.cells #[.int .i64 1, .int .i64 300] 3)).below hb2 (fun _ _ h => h)))
  clear hb2 hown2
  go_wp2_with fail
  refine (H3.out _ _ _ (O1'.out.alloc _) (sl_lit w2 _ rfl [3, 5] _ 2 rfl rfl (by decide))).mono ?_
  rintro e w3 ⟨rfl, hb3⟩
  have hs2 := L2.out.size
  have L3 := hid ((L2.out.alloc hs2 _).trans (hb3.mono (by simp; omega)))
  have O2' := hid (((Sl.own O2.out).alloc (.cells #[.int .i64 3, .int .i64 5] 3)).below hb3 (fun _ _ h => h))
  clear hb3
  have q1 := run_convert_sl (P := Try.prog) w3 36 9 5 Try.underlying36 Try.underlying5 Try.underlying9 O2'.out
  simp only [List.length_cons, List.length_nil, Nat.zero_add] at q1
  have d : decide (([3, 5] : List Int) = [3, 5]) = true := rfl
  go_wp2
  go_ret
  exact ⟨rfl, L3.out⟩

set_option maxHeartbeats 1000000 in
theorem walk_PostingChecks (w : World) (v : Value) (l : List Int) (h : Sl w 1 v l.length (ic l)) (hf : ∀ n ∈ l, (Lit.int .i64 n).wf = true) (hl : l.length * 8 ≤ 140737488351232) :
    Calls Try.prog 3 #[v] w fun e w' => e = .returned (.bool true) ∧ Below w.heap.size w w' := by
  have h64 : I64 l := fun n hn => bounds_i64 (hf n hn)
  have HO := hid (own77_any v l w (by omega) h)
  have H := hid h
  clear h hf
  go_enter Try.func3, Try.ntmps3
  go_wp2_with fail
  refine HO.out.mono ?_
  rintro e w1 ⟨g, cap, rfl, hb1, hown1⟩
  have L1 := hid hb1
  have S1 := hid (Sl.cut (Sl.own hown1) l.length (by omega) (ys := ic l) (by rw [ic_append, List.take_left' (by simp)]))
  have S2 := hid (H.out.below hb1 (fun _ _ h => h))
  clear hb1 hown1
  go_wp2_with fail
  refine (check_any _ l w1 (by omega) S1.out h64).mono ?_
  rintro e wz ⟨rfl, hwz⟩
  subst wz
  go_wp2_with fail
  refine (refCheck_any v l w1 (by omega) S2.out h64).mono ?_
  rintro e w2 ⟨rfl, hb2⟩
  have L2 := hid (L1.out.trans (hb2.mono L1.out.size)); clear hb2
  go_wp2_with fail
  refine (lives_any w2).mono ?_
  rintro e w3 ⟨rfl, hb3⟩
  have L3 := hid (L2.out.trans (hb3.mono L2.out.size)); clear hb3
  go_wp2
  go_ret
  exact ⟨rfl, L3.out⟩
end Go.Proofs.Ytimeadnkligkaaa
