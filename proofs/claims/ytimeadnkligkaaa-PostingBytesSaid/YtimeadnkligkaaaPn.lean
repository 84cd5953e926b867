/- The walk of PostingBytes. -/
import Derived.Test.YtimeadnkligkaaaPl
import Derived.Test.YtimeadnkligkaaaPm
namespace Go.Proofs.Ytimeadnkligkaaa
open Go.RowKit

set_option maxRecDepth 100000 in
set_option maxHeartbeats 2000000 in
theorem walk_PostingBytes (w : World) (vb : Value) (b : List UInt8) (hb : Sl w 1 vb b.length (bc b)) (hbl : b.length ≤ 140737488351232) (v : Value) (l : List Int) (h : Sl w 1 v l.length (ic l)) (hf : ∀ n ∈ l, (Lit.int .i64 n).wf = true) (hl : l.length * 8 ≤ 140737488351232)
    (a : Int) (ha0 : -9223372036854775808 ≤ a) (ha1 : a ≤ 9223372036854775807) :
    Calls Try.prog 6 #[vb, v, .int .i64 a] w fun e w' => e = .returned (.bool true) ∧ Below w.heap.size w w' := by
  have h64 : I64 l := fun n hn => bounds_i64 (hf n hn)
  have H64 := hid h64
  have Hb := hid hb; have H := hid h
  obtain ⟨aob, cb, rfl, _⟩ := hb.shape
  obtain ⟨P, hP⟩ : ∃ P, P = pputV b l := ⟨_, rfl⟩
  obtain ⟨R, hR⟩ : ∃ R, R = readV b a := ⟨_, rfl⟩
  have HP := hid hP; have HR := hid hR
  clear hb h hf h64 hP hR
  go_enter Try.func6, Try.ntmps6
  go_wp2_with (at_builtin; refine wpList_appS rfl (.tmp 18) (.tmp 19) 36 rfl w.heap.size (.slice (some ⟨w.heap.size, 0, none⟩) 0 0) 0 [] rfl (own_made _ _ 0 w.heap.size rfl (Nat.le_refl _) (by unfold maxLen; omega) (by simp)) (.slice aob b.length cb) b.length b rfl (Src.ofSl Try.underlying36 (Hb.out.alloc _) (bc_one b)) (.inl (by simp)) (by omega) (by simp) _ rfl ?_; intro g2 cap2 w2 hown2 hgrow2 hbel2 hsz2 hat2; simp only [Nat.zero_add, List.nil_append] at hown2 ⊢; have O2 := hid hown2; have L2 := hid (hbel2 w ((Below.refl _ _).alloc (Nat.le_refl _) _)); clear hown2 hgrow2 hbel2 hat2)
  refine (own77_any v l w2 (by omega) (H.out.below L2.out (fun _ _ h => h))).mono ?_
  rintro e w3 ⟨g3, c3, rfl, hb3, hown3⟩
  have L3 := hid (L2.out.trans (hb3.mono hsz2)); have s3 := Nat.le_trans hsz2 hb3.size
  have O3 := hid (Sl.cut (Sl.own hown3) l.length (by omega) (ys := ic l) (by rw [ic_append, List.take_left' (by simp)]))
  have O2' := hid (Sl.own (own_below O2.out hb3 (Nat.le_refl _)))
  clear hb3 hown3
  go_wp2_with fail
  have hp := pput_any (.slice (some ⟨g2, 0, none⟩) b.length cap2) (.slice (some ⟨g3, 0, none⟩) l.length c3) b l w3 (by omega) O2'.out (by omega) O3.out H64.out
  rw [← HP.out] at hp
  refine hp.mono ?_
  rintro e w4 ⟨ao4, c4, rfl, hb4, hs4⟩
  have L4 := hid (L3.out.trans (hb4.mono s3)); have s4 := Nat.le_trans s3 hb4.size; have X4 := hid hs4
  clear hp hb4 hs4
  go_wp2_with fail
  have hp := refPut_any (.slice aob b.length cb) v b l w4 (by omega) (Hb.out.below L4.out (fun _ _ h => h)) (by omega) (H.out.below L4.out (fun _ _ h => h)) H64.out
  rw [← HP.out] at hp
  refine hp.mono ?_
  rintro e w5 ⟨ao5, c5, rfl, hb5, hs5⟩
  have L5 := hid (L4.out.trans (hb5.mono s4)); have s5 := Nat.le_trans s4 hb5.size; have X5 := hid hs5
  have X4' := hid (X4.out.below hb5 (fun _ _ h => h))
  clear hp hb5 hs5
  go_wp2_with fail
  have hp := read_any (.slice aob b.length cb) b a w5 (by omega) ha0 ha1 (Hb.out.below L5.out (fun _ _ h => h))
  rw [← HR.out] at hp
  refine hp.mono ?_
  rintro e w6 ⟨ao6, c6, rfl, hb6, hs6⟩
  have L6 := hid (L5.out.trans (hb6.mono s5)); have s6 := Nat.le_trans s5 hb6.size; have X6 := hid (Sl.own hs6)
  have X4a := hid (X4'.out.below hb6 (fun _ _ h => h)); have X5a := hid (X5.out.below hb6 (fun _ _ h => h))
  clear hp hb6 hs6
  go_wp2_with fail
  have hp := refRead_any (.slice aob b.length cb) b a w6 (by omega) ha0 ha1 (Hb.out.below L6.out (fun _ _ h => h))
  rw [← HR.out] at hp
  refine hp.mono ?_
  rintro e w7 ⟨ao7, c7, rfl, hb7, hs7⟩
  have L7 := hid (L6.out.trans (hb7.mono s6)); have s7 := Nat.le_trans s6 hb7.size; have X7 := hid (Sl.own hs7)
  have X4b := hid (X4a.out.below hb7 (fun _ _ h => h)); have X5b := hid (X5a.out.below hb7 (fun _ _ h => h)); have X6a := hid (X6.out.below hb7 (fun _ _ h => h))
  clear hp hb7 hs7
  have q1 := run_convert_sl (P := Try.prog) w7 36 9 5 Try.underlying36 Try.underlying5 Try.underlying9 X4b.out
  have q2 := run_convert_sl (P := Try.prog) w7 36 9 5 Try.underlying36 Try.underlying5 Try.underlying9 X5b.out
  obtain ⟨p1, p2⟩ := P
  obtain ⟨r1, r2, r3⟩ := R
  simp only at q1 q2 X6a X7
  go_wp2_with fail
  refine (same_any _ _ r1 r1 w7 X6a.out X7.out).mono ?_
  rintro e w8 ⟨rfl, hb8⟩
  have L8 := hid (L7.out.trans (hb8.mono s7)); have s8 := Nat.le_trans s7 hb8.size; clear hb8
  rw [show decide (r1 = r1) = true from decide_eq_true rfl]
  go_wp2_with fail
  refine (lives_any w8).mono ?_
  rintro e w9 ⟨rfl, hb9⟩
  have L9 := hid (L8.out.trans (hb9.mono s8)); clear hb9
  go_wp2
  go_ret
  exact ⟨rfl, L9.out⟩
end Go.Proofs.Ytimeadnkligkaaa
