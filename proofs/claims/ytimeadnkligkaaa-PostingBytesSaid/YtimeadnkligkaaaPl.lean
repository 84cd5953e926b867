/- The reference's Put and Read. -/
import Derived.Test.YtimeadnkligkaaaPk
namespace Go.Proofs.Ytimeadnkligkaaa
open Go.RowKit

def BPost (w : World) (r : List UInt8 × Int) (e : Ending) (w' : World) : Prop :=
  ∃ ao c, e = .returned (.tuple #[.slice ao r.1.length c, .int .i64 r.2]) ∧ Below w.heap.size w w' ∧ Sl w' 1 (.slice ao r.1.length c) r.1.length (bc r.1)
theorem pput_any (v vl : Value) (b : List UInt8) (l : List Int) (w : World) (hbl : b.length ≤ 140737488360000) (hb : Sl w 1 v b.length (bc b)) (hl : l.length ≤ 20000000000000) (hx : Sl w 1 vl l.length (ic l)) (h64 : I64 l) :
    Calls Try.prog 22 #[v, vl] w (BPost w (pputV b l)) := by
  by_cases hc : chkL l = 0
  · have hV : pputV b l = (b ++ lvL l, 0) := by unfold pputV; rw [if_neg (by simp [hc])]
    rw [hV]
    refine (pput_wide v vl b l w hbl hb hl hx h64 hc).mono ?_
    rintro e w1 ⟨g, c, rfl, hb1, hown⟩
    exact ⟨_, _, rfl, hb1, Sl.own hown⟩
  · have hV : pputV b l = ([], chkL l) := by unfold pputV; rw [if_pos hc]
    rw [hV]
    refine (pput_err v vl l w hl hx h64 hc).mono ?_
    rintro e w1 ⟨rfl, rfl⟩
    exact ⟨none, 0, rfl, Below.refl _ _, Sl.nil _ _⟩

set_option maxRecDepth 100000 in
set_option maxHeartbeats 1000000 in
theorem refPut_any (v vl : Value) (b : List UInt8) (l : List Int) (w : World) (hbl : b.length ≤ 140737488360000) (hb : Sl w 1 v b.length (bc b)) (hl : l.length ≤ 20000000000000) (hx : Sl w 1 vl l.length (ic l)) (h64 : I64 l) :
    Calls Try.prog 23 #[v, vl] w (BPost w (pputV b l)) := by
  have HC := hid (refCheck_any vl l w hl hx h64)
  by_cases hc : chkL l = 0
  · have hV : pputV b l = (b ++ lvL l, 0) := by unfold pputV; rw [if_neg (by simp [hc])]
    rw [hV]
    rw [hc] at HC
    have h1024 := (chkL_ok hc).1
    have hlv : (lvL l).length ≤ 10000 := by
      have := dl_length l 0
      have := uintL_length l.length
      simp [lvL]; omega
    have HB := hid fun wx (hw : Below w.heap.size w wx) => refBytes_any vl l wx h1024 (hx.below hw (fun _ _ h => h)) hc
    obtain ⟨X, hX⟩ : ∃ X, X = lvL l := ⟨_, rfl⟩
    rw [← hX] at HB hlv ⊢
    obtain ⟨aob, cb, rfl, _⟩ := hb.shape
    have Hb := hid hb
    clear hb hx h64 hX hV hc
    go_enter Try.func23, Try.ntmps23
    go_wp2_with fail
    refine HC.out.mono ?_
    rintro e w1 ⟨rfl, hb1⟩
    have L1 := hid hb1; have s1 := hb1.size; clear hb1
    go_wp2_with (at_builtin; refine wpList_appS rfl (.tmp 12) (.tmp 13) 36 rfl w.heap.size (.slice (some ⟨w1.heap.size, 0, none⟩) 0 0) 0 [] rfl (own_made _ _ 0 w1.heap.size rfl s1 (by unfold maxLen; omega) (by simp)) (.slice aob b.length cb) b.length b rfl (Src.ofSl Try.underlying36 ((Hb.out.below L1.out (fun _ _ h => h)).alloc _) (bc_one b)) (.inl (by simp)) (by omega) (by simp; omega) _ rfl ?_; intro g2 cap2 w2 hown2 hgrow2 hbel2 hsz2 hat2; simp only [Nat.zero_add, List.nil_append] at hown2 ⊢; have O2 := hid hown2; have L2 := hid (hbel2 w (L1.out.alloc s1 _)); clear hown2 hgrow2 hbel2 hat2)
    refine (HB.out w2 L2.out).mono ?_
    rintro e w3 ⟨g3, c3, rfl, hb3, hown3⟩
    have L3 := hid (L2.out.trans (hb3.mono hsz2)); have O3 := hid (Sl.own hown3); have O2' := hid (own_below O2.out hb3 (Nat.le_refl _)); have s3 := Nat.le_trans hsz2 hb3.size; clear hb3 hown3
    go_wp2_with (at_builtin; refine wpList_appS rfl (.tmp 14) (.tmp 16) 36 rfl w.heap.size (.slice (some ⟨g2, 0, none⟩) b.length cap2) b.length b rfl O2'.out (.slice (some ⟨g3, 0, none⟩) X.length c3) X.length X rfl (Src.ofSl Try.underlying36 O3.out (bc_one X)) (.inl (by simp)) (by omega) s3 _ rfl ?_; intro g4 cap4 w4 hown4 hgrow4 hbel4 hsz4 hat4; have O4 := hid hown4; have L4 := hid (hbel4 w L3.out); clear hown4 hgrow4 hbel4 hat4)
    go_ret2
    exact ⟨some ⟨g4, 0, none⟩, cap4, by simp, L4.out, by have h := Sl.own O4.out; simpa using h⟩
  · have hV : pputV b l = ([], chkL l) := by unfold pputV; rw [if_pos hc]
    rw [hV]
    generalize chkL l = n at *
    have hne : (n == 0) = false := by simpa using hc
    clear hb hx h64 hV
    go_enter Try.func23, Try.ntmps23
    go_wp2_with fail
    refine HC.out.mono ?_
    rintro e w1 ⟨rfl, hb1⟩
    have L1 := hid hb1; clear hb1
    go_wp2
    go_ret2
    exact ⟨none, 0, rfl, L1.out, Sl.nil _ _⟩
end Go.Proofs.Ytimeadnkligkaaa
