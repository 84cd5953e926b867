/- gaugelaw18.of; the folds in plain words. -/
import Derived.Test.YtebjdiiogihcdaaWp
namespace Go.Proofs.Ytebjdiiogihcdaa
open Go.RowKit
set_option linter.unusedSimpArgs false

def retO (x : Int × Bool) : Ending := .returned (.tuple #[.int .i64 x.1, .bool x.2])

set_option maxRecDepth 100000 in
set_option maxHeartbeats 1000000 in
theorem of_any (s : ByteArray) (v : Value) (x : Int × Bool × Int) (w : World) (h : Calls Try.prog 9 #[.string s, v, .int .i64 1000] w fun e w' => e = retA x ∧ Below w.heap.size w w') :
    Calls Try.prog 14 #[.string s, v] w fun e w' => e = retO (x.1, x.2.1 && (x.2.2 == 0)) ∧ Below w.heap.size w w' := by
  have H := hid h
  clear h
  obtain ⟨a, b, c⟩ := x
  unfold retA retO at *
  cases b with
  | false =>
    rw [Bool.false_and]
    go_enter Try.func14, Try.ntmps14
    go_wp2_with fail
    refine H.out.mono ?_
    rintro e w1 ⟨rfl, hb1⟩
    have L1 := hid hb1
    clear hb1
    go_wp2
    go_ret2
    exact ⟨rfl, L1.out⟩
  | true =>
    rw [Bool.true_and]
    go_enter Try.func14, Try.ntmps14
    go_wp2_with fail
    refine H.out.mono ?_
    rintro e w1 ⟨rfl, hb1⟩
    have L1 := hid hb1
    clear hb1
    go_wp2
    go_ret2
    exact ⟨rfl, L1.out⟩

/-- enough samples that rise -/
theorem of_need (s : ByteArray) (v : Value) (l : List (Int × Int)) (need : Nat) (w : World) (hch : chkA none l = 0) (h0 : need ≠ 0) (hn : need ≤ l.length) (hl : l.length ≤ 10000000000000) (hb : Sl w 2 v l.length (sc l))
    (hk : ∀ w, Calls Try.prog 20 #[.string s] w fun e w' => e = .returned (.int .i64 need) ∧ w' = w)
    (t : Int × Int) (ht : ∀ wx, Sl wx 2 v l.length (sc l) → Calls Try.prog 22 #[.string s, v, .int .i64 1000] wx fun e w' => e = two t ∧ Below wx.heap.size wx w') :
    Calls Try.prog 14 #[.string s, v] w fun e w' => e = retO (t.1, t.2 == 0) ∧ Below w.heap.size w w' := by
  have h := of_any s v _ w (apply_any s v l need 1000 w hl hb hk t (fun _ _ _ _ _ => ht))
  rw [show apV need l 1000 t = (t.1, t.2 == 0, t.2) by unfold apV; rw [if_neg h0, if_neg (by omega), if_neg (by rw [hch]; simp), if_neg (by omega)]] at h
  simpa using h
/-- too few -/
theorem of_few (s : ByteArray) (v : Value) (l : List (Int × Int)) (need : Nat) (w : World) (hch : chkA none l = 0) (h0 : need ≠ 0) (hn : l.length < need) (hl : l.length ≤ 10000000000000) (hb : Sl w 2 v l.length (sc l))
    (hk : ∀ w, Calls Try.prog 20 #[.string s] w fun e w' => e = .returned (.int .i64 need) ∧ w' = w) :
    Calls Try.prog 14 #[.string s, v] w fun e w' => e = retO (0, false) ∧ Below w.heap.size w w' := by
  have h := of_any s v _ w (apply_any s v l need 1000 w hl hb hk (0, 0) (fun _ _ _ _ h => by omega))
  rw [show apV need l 1000 (0, 0) = (0, false, 0) by unfold apV; rw [if_neg h0, if_neg (by omega), if_neg (by rw [hch]; simp), if_pos hn]] at h
  simpa using h

section
variable (v : Value) (l : List (Int × Int)) (w : World) (hch : chkA none l = 0) (hn : 1 ≤ l.length) (hl : l.length ≤ 1000000000000) (hb : Sl w 2 v l.length (sc l))
include hch hn hl hb
theorem of_count : Calls Try.prog 14 #[opS0, v] w fun e w' => e = retO ((l.length : Int) * 1000000, true) ∧ Below w.heap.size w w' :=
  of_need _ v l 1 w hch (by decide) hn (by omega) hb known_0 ((l.length : Int) * 1000000, 0) fun wx hx => tell_0 v l 1000 wx (by omega) hx (by omega)
theorem of_sum : Calls Try.prog 14 #[opS1, v] w fun e w' => e = retO ((sumV l).1, (sumV l).2 == 0) ∧ Below w.heap.size w w' :=
  of_need _ v l 1 w hch (by decide) hn (by omega) hb known_1 _ fun wx hx => tell_1 v l 1000 wx (by omega) hx
theorem of_min : Calls Try.prog 14 #[opS3, v] w fun e w' => e = retO ((minV l).1, (minV l).2 == 0) ∧ Below w.heap.size w w' :=
  of_need _ v l 1 w hch (by decide) hn (by omega) hb known_3 _ fun wx hx => tell_3 v l 1000 wx (by omega) hx
theorem of_max : Calls Try.prog 14 #[opS4, v] w fun e w' => e = retO ((maxV l).1, (maxV l).2 == 0) ∧ Below w.heap.size w w' :=
  of_need _ v l 1 w hch (by decide) hn (by omega) hb known_4 _ fun wx hx => tell_4 v l 1000 wx (by omega) hx
end

/-- all values together -/
def vsum (l : List (Int × Int)) : Int := (l.map Prod.snd).sum
theorem vsum_append (a b : List (Int × Int)) : vsum (a ++ b) = vsum a + vsum b := by simp [vsum]
theorem addV_ok {a b : Int} (h : (addV a b).2 = 0) : (addV a b).1 = a + b ∧ fitB (a + b) = true := by
  unfold addV toldV at *
  split at h
  · rename_i hf
    rw [if_pos hf]
    split at h
    · rename_i h2; rw [if_pos h2]; exact ⟨rfl, h2⟩
    · cases h
  · cases h
theorem sumTo_ok (l : List (Int × Int)) (n : Nat) (hn : n < l.length) (h : (foldTo (fun s v _ => addV s v) l (firstV l) n).2 = 0) : (foldTo (fun s v _ => addV s v) l (firstV l) n).1 = vsum (l.take (n + 1)) := by
  induction n with
  | zero =>
    cases l with
    | nil => simp at hn
    | cons a t => simp [foldTo, firstV, vsum]
  | succ n ih =>
    rw [foldTo] at h ⊢
    split at h
    · rename_i h1; exact absurd h h1
    · rename_i h1
      rw [if_neg h1]
      split at h
      · rename_i h2; exact absurd h h2
      · rename_i h2
        rw [if_neg h2, (addV_ok h).1, ih (by omega) (by simpa using h1), take_next l (n + 1) hn, vsum_append]
        simp [vsum]
theorem sumV_ok {l : List (Int × Int)} (hn : 1 ≤ l.length) (h : (sumV l).2 = 0) : (sumV l).1 = vsum l := by
  have := sumTo_ok l (l.length - 1) (by omega) h
  rw [show l.length - 1 + 1 = l.length by omega, List.take_length] at this
  exact this
theorem sumV_fit {l : List (Int × Int)} (hn : 0 < l.length) (hc : chkA none l = 0) (h : (sumV l).2 = 0) : -9223372036854775808 ≤ (sumV l).1 ∧ (sumV l).1 ≤ 9223372036854775807 := by
  unfold sumV at *
  generalize hk : l.length - 1 = n at *
  have hn' : n < l.length := by omega
  clear hk
  cases n with
  | zero =>
    have := rise_at hc 0 hn
    simp only [foldTo, firstV]
    omega
  | succ n =>
    rw [foldTo] at h ⊢
    split at h
    · rename_i h1; exact absurd h h1
    · rename_i h1
      rw [if_neg h1]
      split at h
      · rename_i h2; exact absurd h h2
      · rename_i h2
        rw [if_neg h2]
        obtain ⟨e1, e2⟩ := addV_ok h
        rw [e1]
        have := fitB_iff.1 e2
        omega
/-- the greatest -/
def isMax (l : List (Int × Int)) (n : Nat) (m : Int) : Prop := (∀ j, j ≤ n → (l.getD j (0, 0)).2 ≤ m) ∧ ∃ j, j ≤ n ∧ (l.getD j (0, 0)).2 = m
def isMin (l : List (Int × Int)) (n : Nat) (m : Int) : Prop := (∀ j, j ≤ n → m ≤ (l.getD j (0, 0)).2) ∧ ∃ j, j ≤ n ∧ (l.getD j (0, 0)).2 = m
theorem maxTo (l : List (Int × Int)) (n : Nat) : (foldTo (fun s v _ => (max s v, 0)) l (firstV l) n).2 = 0 ∧ isMax l n (foldTo (fun s v _ => (max s v, 0)) l (firstV l) n).1 := by
  induction n with
  | zero => exact ⟨rfl, (fun j hj => by (have hj0 : j = 0 := by omega); subst hj0; exact Int.le_refl _), 0, Nat.le_refl _, rfl⟩
  | succ n ih =>
    obtain ⟨h0, h1, j, hj, h2⟩ := ih
    rw [foldTo, if_neg (by rw [h0]; simp), if_neg (by simp)]
    refine ⟨rfl, fun i hi => ?_, ?_⟩
    · by_cases e : i = n + 1
      · subst e; exact Int.le_max_right _ _
      · exact Int.le_trans (h1 i (by omega)) (Int.le_max_left _ _)
    · rcases Int.le_total (foldTo (fun s v _ => (max s v, 0)) l (firstV l) n).1 (l.getD (n + 1) (0, 0)).2 with hle | hle
      · exact ⟨n + 1, Nat.le_refl _, by rw [Int.max_eq_right hle]⟩
      · exact ⟨j, by omega, by rw [Int.max_eq_left hle, h2]⟩
theorem minTo (l : List (Int × Int)) (n : Nat) : (foldTo (fun s v _ => (min s v, 0)) l (firstV l) n).2 = 0 ∧ isMin l n (foldTo (fun s v _ => (min s v, 0)) l (firstV l) n).1 := by
  induction n with
  | zero => exact ⟨rfl, (fun j hj => by (have hj0 : j = 0 := by omega); subst hj0; exact Int.le_refl _), 0, Nat.le_refl _, rfl⟩
  | succ n ih =>
    obtain ⟨h0, h1, j, hj, h2⟩ := ih
    rw [foldTo, if_neg (by rw [h0]; simp), if_neg (by simp)]
    refine ⟨rfl, fun i hi => ?_, ?_⟩
    · by_cases e : i = n + 1
      · subst e; exact Int.min_le_right _ _
      · exact Int.le_trans (Int.min_le_left _ _) (h1 i (by omega))
    · rcases Int.le_total (foldTo (fun s v _ => (min s v, 0)) l (firstV l) n).1 (l.getD (n + 1) (0, 0)).2 with hle | hle
      · exact ⟨j, by omega, by rw [Int.min_eq_left hle, h2]⟩
      · exact ⟨n + 1, Nat.le_refl _, by rw [Int.min_eq_right hle]⟩
theorem maxV_ok (l : List (Int × Int)) : (maxV l).2 = 0 ∧ isMax l (l.length - 1) (maxV l).1 := maxTo l _
theorem minV_ok (l : List (Int × Int)) : (minV l).2 = 0 ∧ isMin l (l.length - 1) (minV l).1 := minTo l _

theorem getD_take (l : List (Int × Int)) (k j : Nat) (hj : j < k) : (l.take k).getD j (0, 0) = l.getD j (0, 0) := by
  simp [List.getD_eq_getElem?_getD, List.getElem?_take, hj]
theorem getD_drop (l : List (Int × Int)) (k j : Nat) : (l.drop k).getD j (0, 0) = l.getD (k + j) (0, 0) := by
  simp [List.getD_eq_getElem?_getD, List.getElem?_drop]
theorem max_parts (l : List (Int × Int)) (k : Nat) (h0 : 0 < k) (hk : k < l.length) : (maxV l).1 = max (maxV (l.take k)).1 (maxV (l.drop k)).1 := by
  obtain ⟨h1, j, hj, h2⟩ := (maxV_ok l).2
  obtain ⟨a1, ja, hja, a2⟩ := (maxV_ok (l.take k)).2
  obtain ⟨b1, jb, hjb, b2⟩ := (maxV_ok (l.drop k)).2
  generalize (maxV l).1 = M at *
  generalize (maxV (l.take k)).1 = A at *
  generalize (maxV (l.drop k)).1 = B at *
  simp only [List.length_take, List.length_drop] at a1 hja b1 hjb
  rw [getD_take l k ja (by omega)] at a2
  rw [getD_drop] at b2
  have e1 := h1 ja (by omega)
  have e2 := h1 (k + jb) (by omega)
  by_cases hjk : j < k
  · have := a1 j (by omega)
    rw [getD_take l k j hjk] at this
    omega
  · have := b1 (j - k) (by omega)
    rw [getD_drop, show k + (j - k) = j by omega] at this
    omega
theorem min_parts (l : List (Int × Int)) (k : Nat) (h0 : 0 < k) (hk : k < l.length) : (minV l).1 = min (minV (l.take k)).1 (minV (l.drop k)).1 := by
  obtain ⟨h1, j, hj, h2⟩ := (minV_ok l).2
  obtain ⟨a1, ja, hja, a2⟩ := (minV_ok (l.take k)).2
  obtain ⟨b1, jb, hjb, b2⟩ := (minV_ok (l.drop k)).2
  generalize (minV l).1 = M at *
  generalize (minV (l.take k)).1 = A at *
  generalize (minV (l.drop k)).1 = B at *
  simp only [List.length_take, List.length_drop] at a1 hja b1 hjb
  rw [getD_take l k ja (by omega)] at a2
  rw [getD_drop] at b2
  have e1 := h1 ja (by omega)
  have e2 := h1 (k + jb) (by omega)
  by_cases hjk : j < k
  · have := a1 j (by omega)
    rw [getD_take l k j hjk] at this
    omega
  · have := b1 (j - k) (by omega)
    rw [getD_drop, show k + (j - k) = j by omega] at this
    omega
theorem sum_parts (l : List (Int × Int)) (k : Nat) (h0 : 0 < k) (hk : k < l.length) (e1 : (sumV l).2 = 0) (e2 : (sumV (l.take k)).2 = 0) (e3 : (sumV (l.drop k)).2 = 0) : (sumV l).1 = (sumV (l.take k)).1 + (sumV (l.drop k)).1 := by
  rw [sumV_ok (by omega) e1, sumV_ok (by simp; omega) e2, sumV_ok (by simp; omega) e3, ← vsum_append, List.take_append_drop]
theorem rise_take {l : List (Int × Int)} (h : chkA none l = 0) (k : Nat) : chkA none (l.take k) = 0 :=
  chkA_of _ none (fun s hs => rise_mem h s (List.mem_of_mem_take hs)) ((rise_pair h).sublist (List.take_sublist _ _)) (fun q hq => by cases hq)
theorem rise_drop {l : List (Int × Int)} (h : chkA none l = 0) (k : Nat) : chkA none (l.drop k) = 0 :=
  chkA_of _ none (fun s hs => rise_mem h s (List.mem_of_mem_drop hs)) ((rise_pair h).sublist (List.drop_sublist _ _)) (fun q hq => by cases hq)
end Go.Proofs.Ytebjdiiogihcdaa
