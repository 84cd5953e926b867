/- frame.All and its reference. -/
import Derived.Test.YtecnjgiodnphcaaGh
namespace Go.Proofs.Ytecnjgiodnphcaa
open Go.RowKit

/-- the frames from a place on, at most f; the place behind them -/
def allF (l : List UInt8) : Nat → Nat → List (List UInt8) × Nat
  | 0, a => ([], a)
  | f + 1, a => if (getF l a).2.2 = 0 then ((getF l a).1 :: (allF l f (getF l a).2.1.toNat).1, (allF l f (getF l a).2.1.toNat).2) else ([], a)
/-- frame.All in plain words -/
def allL (l : List UInt8) : List (List UInt8) × Nat := allF l (l.length + 1) 0
theorem getF_ok (l : List UInt8) (a : Nat) (h : (getF l a).2.2 = 0) : ∃ b : Nat, getF l a = ((getF l a).1, (b : Int), 0) ∧ a + 6 ≤ b ∧ b ≤ l.length := by
  unfold getF at h ⊢
  by_cases h1 : (a : Int) < 0 ∨ (l.length : Int) < a
  · rw [if_pos h1] at h; exact absurd h (by decide)
  rw [if_neg h1] at h ⊢
  rw [Int.toNat_natCast] at h ⊢
  by_cases h2 : l.length < a + 6
  · rw [if_pos h2] at h; exact absurd h (by decide)
  rw [if_neg h2] at h ⊢
  by_cases h3 : l.length < a + 6 + frN l a
  · rw [if_pos h3] at h; exact absurd h (by decide)
  rw [if_neg h3] at h ⊢
  by_cases h4 : le4 (sumL ((l.drop a).take (2 + frN l a))) ≠ (l.drop (a + (2 + frN l a))).take 4
  · rw [if_pos h4] at h; exact absurd h (by decide)
  rw [if_neg h4]
  exact ⟨a + 6 + frN l a, Prod.ext rfl (Prod.ext (by simp) rfl), by omega, by omega⟩
theorem getF_no (l : List UInt8) (a : Int) (h : (getF l a).2.2 ≠ 0) : ∃ er : Int, er ≠ 0 ∧ getF l a = ([], 0, er) := by
  refine ⟨(getF l a).2.2, h, ?_⟩
  unfold getF at h ⊢
  split
  · rfl
  · split
    · rfl
    · split
      · rfl
      · split
        · rfl
        · rename_i h1 h2 h3 h4
          rw [if_neg h1, if_neg h2, if_neg h3, if_neg h4] at h
          exact absurd rfl h
theorem getF_len (l : List UInt8) (a : Int) : (getF l a).1.length ≤ l.length := by
  unfold getF
  split
  · simp
  · split
    · simp
    · split
      · simp
      · split
        · simp
        · simp; omega
theorem allF_len (l : List UInt8) (f a : Nat) (ha : a ≤ l.length) : (allF l f a).1.length ≤ l.length - a ∧ (allF l f a).2 ≤ l.length := by
  induction f generalizing a with
  | zero => exact ⟨by simp [allF], ha⟩
  | succ f ih =>
    unfold allF
    by_cases h : (getF l a).2.2 = 0
    · rw [if_pos h]
      obtain ⟨b, hb, h1, h2⟩ := getF_ok l a h
      rw [hb]
      have := ih b h2
      simp only [Int.toNat_natCast, List.length_cons]
      omega
    · rw [if_neg h]; exact ⟨by simp, ha⟩

def AllPost (w : World) (r : List (List UInt8) × Nat) (e : Ending) (w' : World) : Prop :=
  ∃ v, e = .returned (.tuple #[v, .int .i64 (r.2 : Nat)]) ∧ Below w.heap.size w w' ∧ RowsOf w' w.heap.size v r.1
/-- what the loops keep: so many frames, the place, what is still to come -/
def AllRel (w : World) (l : List UInt8) (k a : Nat) (v : Value) (wr : World) : Prop :=
  ∃ Ls, k ≤ a ∧ a ≤ l.length ∧ Ls.length = k ∧ allL l = (Ls ++ (allF l (l.length + 1 - k) a).1, (allF l (l.length + 1 - k) a).2) ∧ w.heap.size ≤ wr.heap.size ∧ Below w.heap.size w wr ∧ RowsOf wr w.heap.size v Ls
theorem AllRel.start (w : World) (l : List UInt8) : AllRel w l 0 0 (.slice none 0 0) w := ⟨[], Nat.le_refl _, Nat.zero_le _, rfl, rfl, Nat.le_refl _, Below.refl _ _, RowsOf.nil _ _⟩
theorem AllRel.stop {w wr w' : World} {l : List UInt8} {k a : Nat} {v : Value} (h : AllRel w l k a v wr) (hb : Below wr.heap.size wr w') (he : (getF l a).2.2 ≠ 0) : AllPost w (allL l) (.returned (.tuple #[v, .int .i64 (a : Nat)])) w' := by
  obtain ⟨Ls, h1, h2, h3, h4, h5, h6, h7⟩ := h
  have e : allF l (l.length + 1 - k) a = ([], a) := by
    rw [show l.length + 1 - k = (l.length - k) + 1 by omega, allF, if_neg he]
  rw [e, List.append_nil] at h4
  rw [h4]
  exact ⟨v, rfl, h6.trans (hb.mono h5), h7.below hb⟩
theorem AllRel.step {l : List UInt8} {k a b : Nat} {Ls : List (List UInt8)} {x : List UInt8} (ha : k ≤ a) (hal : a ≤ l.length) (hg : getF l a = (x, (b : Int), 0)) (h4 : allL l = (Ls ++ (allF l (l.length + 1 - k) a).1, (allF l (l.length + 1 - k) a).2)) :
    allL l = (Ls ++ [x] ++ (allF l (l.length + 1 - (k + 1)) b).1, (allF l (l.length + 1 - (k + 1)) b).2) := by
  have e : allF l (l.length + 1 - k) a = (x :: (allF l (l.length + 1 - (k + 1)) b).1, (allF l (l.length + 1 - (k + 1)) b).2) := by
    rw [show l.length + 1 - k = (l.length + 1 - (k + 1)) + 1 by omega, allF, hg]
    simp
  rw [h4, e]
  simp

set_option maxRecDepth 100000 in
set_option maxHeartbeats 2000000 in
theorem all_any (v : Value) (l : List UInt8) (w : World) (hl : l.length ≤ 9000000) (hb : Sl w 1 v l.length (bc l)) :
    Calls Try.prog 31 #[v] w (AllPost w (allL l)) := by
  have Hb := hid hb; clear hb
  obtain ⟨p, hp⟩ : ∃ p, p = allL l := ⟨_, rfl⟩
  have HS := hid (AllRel.start w l)
  go_enter Try.func31, Try.ntmps31
  go_wp2
  go_step3
  go_wp2
  go_step3
  go_wp2
  go_loopw [4, 5] (fun out at_ wr => ∃ k a, at_ = .int .i64 ((a : Nat) : Int) ∧ AllRel w l k a out wr)
    (fun _ at_ _ => l.length - (intOf at_).toNat)
  case atStart => exact ⟨0, 0, rfl, HS.out⟩
  case round =>
    obtain ⟨k, a, rfl, hrel'⟩ := hrel
    have HR := hid hrel'
    obtain ⟨Ls, h1, h2, h3, h4, h5, h6, h7⟩ := hrel'
    have L := hid h6; have R7 := hid h7; have H4 := hid h4; have H3 := hid h3
    clear h6 h7 h4 h3
    have hG := get_any v l a wr (by omega) (by omega) (by omega) (Hb.out.below L.out (fun _ _ h => h))
    by_cases he : (getF l a).2.2 = 0
    · obtain ⟨b, hg, hb1, hb2⟩ := getF_ok l a he
      have hxl := getF_len l a
      generalize (getF l a).1 = x at *
      rw [hg] at hG
      have HG := hid hG; have HGG := hid hg
      clear hG hg he
      go_wp2_with fail
      refine HG.out.mono ?_
      rintro e w2 ⟨ao2, c2, rfl, hb2', hown2⟩
      have L2 := hid hb2'; have O2 := hid hown2; have s2 := hb2'.size
      obtain ⟨f, hv7, hf7⟩ := R7.out
      have HV := hid (own_below hv7 hb2' (Nat.le_refl _))
      have HF := hid (hf7.below hb2')
      have HD := hid (show ∀ i, i < Ls.length → ∀ q, (f i).ownBlock = some q → (Value.slice ao2 x.length c2).ownBlock ≠ some q from fun i hi q hq hq2 => by
        have q1 := ((hf7.1 i hi).2.lt q hq).2
        have q2 := (hown2.lt q hq2).1
        omega)
      obtain ⟨aoo, co, rfl, _⟩ := R7.out.shape
      have hkl : Ls.length ≤ 10000000 := by have := H3.out; omega
      have hbase2 : w.heap.size ≤ w2.heap.size := by omega
      clear hb2' hown2 hv7 hf7
      go_wp2_with (at_builtin; refine wpList_appR rfl (.tmp 18) (.tmp 20) rfl w.heap.size (.slice aoo Ls.length co) Ls rfl f HV.out HF.out ao2 c2 x (own_base O2.out h5) HD.out w2.heap.size rfl rfl hkl hbase2 ?_; intro g3 cap3 w3 hr3 hbel3 hsz3; have R3 := hid hr3; have L3 := hid (hbel3 w (L.out.trans (L2.out.mono h5))); clear hr3 hbel3)
      go_roundw
      case rel => exact ⟨k + 1, b, rfl, Ls ++ [x], by omega, hb2, by rw [List.length_append, H3.out]; rfl, AllRel.step h1 h2 HGG.out H4.out, hsz3, L3.out, by have := R3.out; exact this⟩
      case measure => simp [intOf]; omega
    · obtain ⟨er, her, hg⟩ := getF_no l a he
      rw [hg] at hG
      have HG := hid hG; have HE := hid he
      have hd : (er != 0) = true := by simpa using her
      clear hG hg he her
      go_wp2_with fail
      refine HG.out.mono ?_
      rintro e w2 ⟨ao2, c2, rfl, hb2, _⟩
      have L2 := hid hb2; clear hb2
      go_wp2
      go_ret2
      exact HR.out.stop L2.out HE.out
end Go.Proofs.Ytecnjgiodnphcaa
