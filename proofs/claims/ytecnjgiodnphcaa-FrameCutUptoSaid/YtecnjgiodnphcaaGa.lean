/- Texts: PutText, GetText, their references; the walk of FrameTexts. -/
import Derived.Test.YtecnjgiodnphcaaFq
namespace Go.Proofs.Ytecnjgiodnphcaa
open Go.RowKit

theorem getU_ok (l : List UInt8) (a : Int) (h : (getU l a).2.2 = 0) : ∃ n next : Nat, getU l a = ((n : Int), (next : Int), 0) ∧ next ≤ l.length ∧ 0 < l.length ∧ n ≤ 9223372036854775807 ∧ a ≤ next := by
  unfold getU at h ⊢
  by_cases ho : a < 0 ∨ (l.length : Int) < a
  · rw [if_pos ho] at h; exact absurd h (by decide)
  · rw [if_neg ho] at h ⊢
    have hpos : 0 < l.length := by
      rcases Nat.eq_zero_or_pos l.length with h0 | h0
      · exfalso
        rw [getG_short l a.toNat 8 0 0 (by omega)] at h
        exact absurd h (by decide)
      · exact h0
    obtain ⟨m, j, h1, h2, h3, h4, _, h6⟩ := getG_back l a.toNat 8 0 0 rfl h
    refine ⟨m, a.toNat + j, Prod.ext (by rw [h1]; simp) (Prod.ext (by rw [h2]; simp) h), by omega, hpos, ?_, by omega⟩
    have : (128 : Nat) * 128 ^ 8 = 9223372036854775808 := by decide
    omega
theorem getU_no (l : List UInt8) (a : Int) (h : (getU l a).2.2 ≠ 0) : getU l a = (0, 0, (getU l a).2.2) := by
  by_cases ho : a < 0 ∨ (l.length : Int) < a
  · unfold getU at h ⊢; rw [if_pos ho]
  · unfold getU at h ⊢
    rw [if_neg ho] at h ⊢
    have := getG_fail l a.toNat 9 0 0 h
    exact Prod.ext this.1 (Prod.ext this.2 rfl)

/-- PutText in plain words. -/
def putT (l s : List UInt8) : List UInt8 × Int := if 65535 < s.length then ([], 3) else (l ++ uintL s.length ++ s, 0)
theorem putT_len (l s : List UInt8) : (putT l s).1.length ≤ l.length + 65544 := by
  unfold putT
  split
  · simp
  · have : (uintL s.length).length ≤ 9 := uintF_length 8 _
    simp only [List.length_append]; omega
theorem src_str (s : ByteArray) (w : World) : Src Try.prog 1 9 (.string s) s.size (bc s.data.toList) w := Src.ofString w Try.underlying9 s

set_option maxHeartbeats 1000000 in
theorem putText_in (v : Value) (l : List UInt8) (s : ByteArray) (w : World) (hl : l.length ≤ 140737488354000) (hs : s.size ≤ 65535) (hb : Sl w 1 v l.length (bc l)) :
    Calls Try.prog 26 #[v, .string s] w (PutPostB w (l ++ uintL s.size ++ s.data.toList, 0)) := by
  have hs' := hid (show s.data.toList.length = s.size by simp)
  have hP := hid (putUint_pos v l s.size w (by omega) (by omega) hb)
  clear hb
  have hul : (uintL s.size).length ≤ 9 := uintF_length 8 _
  have hln := hid (show (l ++ uintL s.size).length = l.length + (uintL s.size).length from List.length_append)
  go_enter Try.func26, Try.ntmps26
  go_wp2_with fail
  refine hP.out.mono ?_
  rintro e w1 ⟨g, cap, rfl, hb1, hown1⟩
  have L1 := hid hb1; have O1 := hid hown1; have s1' := hb1.size; clear hb1 hown1
  have E1 := hid (show (l ++ uintL s.size ++ s.data.toList).length = (l ++ uintL s.size).length + s.size by rw [List.length_append, hs'.out])
  generalize l ++ uintL s.size = lu at *
  have hlu : lu.length ≤ 140737488355000 := by have := hln.out; omega
  go_wp2_with (at_builtin; refine wpList_appS rfl (.tmp 18) (.tmp 19) 9 rfl w.heap.size (.slice (some ⟨g, 0, none⟩) lu.length cap) lu.length lu rfl O1.out (.string s) s.size s.data.toList rfl (src_str s w1) (.inl (by simp)) (by omega) s1' _ rfl ?_; intro g2 cap2 w2 hown2 hgrow2 hbel2 hsz2 hat2; have O2 := hid hown2; have L2 := hid (hbel2 w L1.out); clear hown2 hgrow2 hbel2 hat2)
  go_ret2
  exact ⟨some ⟨g2, 0, none⟩, cap2, ret_sl2 E1.out.symm, L2.out, by rw [E1.out]; exact O2.out⟩

theorem putText_big (v : Value) (s : ByteArray) (w : World) (hs : 65535 < s.size) (h2 : s.size ≤ 140737488355328) :
    Calls Try.prog 26 #[v, .string s] w fun e w' => e = .returned (.tuple #[.slice none 0 0, .int .i64 3]) ∧ w' = w := by
  go_enter Try.func26, Try.ntmps26
  go_wp2
  go_ret2
  exact ⟨rfl, rfl⟩

theorem putText_any (v : Value) (l : List UInt8) (s : ByteArray) (w : World) (hl : l.length ≤ 140737488354000) (hsz : s.size ≤ 140737488355328) (hb : Sl w 1 v l.length (bc l)) :
    Calls Try.prog 26 #[v, .string s] w (PutPostB w (putT l s.data.toList)) := by
  have hs' : s.data.toList.length = s.size := by simp
  by_cases h : 65535 < s.size
  · have e : putT l s.data.toList = ([], 3) := by unfold putT; rw [if_pos (by omega)]
    rw [e]
    exact (putText_big v s w h hsz).mono fun e w' ⟨he, hw⟩ => ⟨none, 0, he, by rw [hw]; exact Below.refl _ _, World.ownsRow_nil _ _ _ _⟩
  · have e : putT l s.data.toList = (l ++ uintL s.size ++ s.data.toList, 0) := by unfold putT; rw [if_neg (by omega), hs']
    rw [e]
    exact putText_in v l s w hl (by omega) hb

set_option maxHeartbeats 1000000 in
theorem refText_any (s : ByteArray) (w : World) (hs : s.size ≤ 65535) :
    Calls Try.prog 39 #[.string s] w fun e w' => ∃ g cap, e = .returned (.slice (some ⟨g, 0, none⟩) (uintL s.size ++ s.data.toList).length cap) ∧ Below w.heap.size w w' ∧
      w'.ownsRow w.heap.size 5 1 (.slice (some ⟨g, 0, none⟩) (uintL s.size ++ s.data.toList).length cap) (uintL s.size ++ s.data.toList).length (bc (uintL s.size ++ s.data.toList)) := by
  have hs' : s.data.toList.length = s.size := by simp
  have hP := hid (refUint_any s.size w (by omega))
  have hul : (uintL s.size).length ≤ 9 := uintF_length 8 _
  have E1 := hid (show (uintL s.size ++ s.data.toList).length = (uintL s.size).length + s.size by rw [List.length_append, hs'])
  clear hs'
  generalize uintL s.size = lu at *
  go_enter Try.func39, Try.ntmps39
  go_wp2_with fail
  refine hP.out.mono ?_
  rintro e w1 ⟨g, cap, rfl, hb1, hown1⟩
  have L1 := hid hb1; have O1 := hid hown1; have s1' := hb1.size; clear hb1 hown1
  go_wp2_with (at_builtin; refine wpList_appS rfl (.tmp 5) (.tmp 6) 9 rfl w.heap.size (.slice (some ⟨g, 0, none⟩) lu.length cap) lu.length lu rfl O1.out (.string s) s.size s.data.toList rfl (src_str s w1) (.inl (by simp)) (by omega) s1' _ rfl ?_; intro g2 cap2 w2 hown2 hgrow2 hbel2 hsz2 hat2; have O2 := hid hown2; have L2 := hid (hbel2 w L1.out); clear hown2 hgrow2 hbel2 hat2)
  go_ret
  exact ⟨g2, cap2, ret_sl E1.out.symm, L2.out, by rw [E1.out]; exact O2.out⟩

set_option maxHeartbeats 1000000 in
theorem refPutText_in (v : Value) (l : List UInt8) (s : ByteArray) (w : World) (hl : l.length ≤ 140737488354000) (hs : s.size ≤ 65535) (hb : Sl w 1 v l.length (bc l)) :
    Calls Try.prog 27 #[v, .string s] w (PutPostB w (l ++ uintL s.size ++ s.data.toList, 0)) := by
  obtain ⟨ao, c, rfl, _, _, _⟩ := hb.shape
  have Hb := hid hb; clear hb
  have HT := hid (fun wx => refText_any s wx hs)
  have hul : (uintL s.size ++ s.data.toList).length ≤ 65544 := by
    have : (uintL s.size).length ≤ 9 := uintF_length 8 _
    rw [List.length_append]; simp; omega
  have E1 := hid (show l ++ uintL s.size ++ s.data.toList = l ++ (uintL s.size ++ s.data.toList) from List.append_assoc _ _ _)
  generalize uintL s.size ++ s.data.toList = lt at *
  go_enter Try.func27, Try.ntmps27
  go_wp2_with (first
    | (at_builtin; refine wpList_appS rfl (.tmp 9) (.tmp 10) 22 rfl w.heap.size (.slice (some ⟨w.heap.size, 0, none⟩) 0 0) 0 [] rfl (own_made _ _ 0 w.heap.size rfl (Nat.le_refl _) (by unfold maxLen; omega) (by simp)) (.slice ao l.length c) l.length l rfl (Src.ofSl Try.underlying22 (Hb.out.alloc _) (bc_one l)) (.inl (by simp)) (by omega) (by simp) _ rfl ?_; intro g1 cap1 w1 hown1 hgrow1 hbel1 hsz1 hat1; simp only [Nat.zero_add, List.nil_append] at hown1; have O1 := hid hown1; have L1 := hid (hbel1 w ((Below.refl _ _).alloc (Nat.le_refl _) _)); clear hown1 hgrow1 hbel1 hat1)
    | (go_at_call 39; refine (HT.out w1).mono ?_; rintro e w2 ⟨g2, cap2, rfl, hb2, hown2⟩; have B2 := hid hb2; have O2 := hid hown2; have s2 := hb2.size; have O1' := hid (own_below O1.out hb2 (Nat.le_refl _)); clear hb2 hown2)
    | (at_builtin; refine wpList_appS rfl (.tmp 11) (.tmp 13) 22 rfl w.heap.size (.slice (some ⟨g1, 0, none⟩) l.length cap1) l.length l rfl O1'.out (.slice (some ⟨g2, 0, none⟩) lt.length cap2) lt.length lt rfl (Src.ofSl Try.underlying22 (Sl.own O2.out) (bc_one _)) (.inl (by simp)) (by omega) (by omega) _ rfl ?_; intro g3 cap3 w3 hown3 hgrow3 hbel3 hsz3 hat3; have O3 := hid hown3; have L3 := hid (hbel3 w (L1.out.trans (B2.out.mono hsz1))); clear hown3 hgrow3 hbel3 hat3))
  go_ret2
  have e1 : (l ++ lt).length = l.length + lt.length := List.length_append
  exact ⟨some ⟨g3, 0, none⟩, cap3, ret_sl2 (by rw [E1.out, e1]), L3.out, by rw [E1.out, e1]; exact O3.out⟩

theorem refPutText_big (v : Value) (s : ByteArray) (w : World) (hs : 65535 < s.size) (h2 : s.size ≤ 140737488355328) :
    Calls Try.prog 27 #[v, .string s] w fun e w' => e = .returned (.tuple #[.slice none 0 0, .int .i64 3]) ∧ w' = w := by
  go_enter Try.func27, Try.ntmps27
  go_wp2
  go_ret2
  exact ⟨rfl, rfl⟩

theorem refPutText_any (v : Value) (l : List UInt8) (s : ByteArray) (w : World) (hl : l.length ≤ 140737488354000) (hsz : s.size ≤ 140737488355328) (hb : Sl w 1 v l.length (bc l)) :
    Calls Try.prog 27 #[v, .string s] w (PutPostB w (putT l s.data.toList)) := by
  have hs' : s.data.toList.length = s.size := by simp
  by_cases h : 65535 < s.size
  · have e : putT l s.data.toList = ([], 3) := by unfold putT; rw [if_pos (by omega)]
    rw [e]
    exact (refPutText_big v s w h hsz).mono fun e w' ⟨he, hw⟩ => ⟨none, 0, he, by rw [hw]; exact Below.refl _ _, World.ownsRow_nil _ _ _ _⟩
  · have e : putT l s.data.toList = (l ++ uintL s.size ++ s.data.toList, 0) := by unfold putT; rw [if_neg (by omega), hs']
    rw [e]
    exact refPutText_in v l s w hl (by omega) hb

/-- GetText in plain words. -/
def getT (l : List UInt8) (a : Int) : List UInt8 × Int × Int :=
  if (getU l a).2.2 ≠ 0 then ([], 0, (getU l a).2.2)
  else if 65535 < (getU l a).1 then ([], 0, 3)
  else if (l.length : Int) - (getU l a).2.1 < (getU l a).1 then ([], 0, 4)
  else ((l.drop (getU l a).2.1.toNat).take (getU l a).1.toNat, (getU l a).2.1 + (getU l a).1, 0)
def retT (r : List UInt8 × Int × Int) : Ending := .returned (.tuple #[.string ⟨r.1.toArray⟩, .int .i64 r.2.1, .int .i64 r.2.2])

theorem getText_err (v : Value) (l : List UInt8) (a er : Int) (w : World) (hl : l.length ≤ 140737488355328) (ha0 : -9223372036854775808 ≤ a) (ha1 : a ≤ 9223372036854775807) (hb : Sl w 1 v l.length (bc l)) (hg : getU l a = (0, 0, er)) (he : er ≠ 0) :
    Calls Try.prog 28 #[v, .int .i64 a] w fun e w' => e = retT ([], 0, er) ∧ w' = w := by
  have hG := getUint_any v l a w hl ha0 ha1 hb
  rw [hg] at hG
  have HG := hid hG
  have hd : (er != 0) = true := by simpa using he
  have hd2 : (er == 0) = false := by simpa using he
  clear hG hg he hb
  unfold retT
  go_enter Try.func28, Try.ntmps28
  go_wp2_with fail
  refine HG.out.mono ?_
  unfold retU
  rintro e wz ⟨rfl, hwz⟩
  subst wz
  go_wp2
  go_ret3
  exact ⟨rfl, rfl⟩

theorem getText_big (v : Value) (l : List UInt8) (a : Int) (n next : Nat) (w : World) (hl : l.length ≤ 140737488355328) (ha0 : -9223372036854775808 ≤ a) (ha1 : a ≤ 9223372036854775807) (hb : Sl w 1 v l.length (bc l)) (hg : getU l a = ((n : Int), (next : Int), 0)) (hn : 65535 < n) :
    Calls Try.prog 28 #[v, .int .i64 a] w fun e w' => e = retT ([], 0, 3) ∧ w' = w := by
  have hG := getUint_any v l a w hl ha0 ha1 hb
  rw [hg] at hG
  have HG := hid hG
  have hd : decide (65535 < (n : Int)) = true := by simp; omega
  clear hG hg hb
  unfold retT
  go_enter Try.func28, Try.ntmps28
  go_wp2_with fail
  refine HG.out.mono ?_
  unfold retU
  rintro e wz ⟨rfl, hwz⟩
  subst wz
  go_wp2
  go_ret3
  exact ⟨rfl, rfl⟩

theorem getText_short (v : Value) (l : List UInt8) (a : Int) (n next : Nat) (w : World) (hl : l.length ≤ 140737488355328) (ha0 : -9223372036854775808 ≤ a) (ha1 : a ≤ 9223372036854775807) (hb : Sl w 1 v l.length (bc l)) (hg : getU l a = ((n : Int), (next : Int), 0)) (hn : n ≤ 65535) (hx : next ≤ l.length) (hs : l.length < next + n) :
    Calls Try.prog 28 #[v, .int .i64 a] w fun e w' => e = retT ([], 0, 4) ∧ w' = w := by
  have hG := getUint_any v l a w hl ha0 ha1 hb
  rw [hg] at hG
  have HG := hid hG
  have hd : decide (65535 < (n : Int)) = false := by simp; omega
  have hd1 : decide ((l.length : Int) - next < (n : Int)) = true := by simp; omega
  obtain ⟨ao, c, rfl, _, _, _⟩ := hb.shape
  clear hG hg hb
  unfold retT
  go_enter Try.func28, Try.ntmps28
  go_wp2_with fail
  refine HG.out.mono ?_
  unfold retU
  rintro e wz ⟨rfl, hwz⟩
  subst wz
  go_wp2
  go_ret3
  exact ⟨rfl, rfl⟩

theorem getText_good (v : Value) (l : List UInt8) (a : Int) (n next : Nat) (w : World) (hl : l.length ≤ 140737488355328) (ha0 : -9223372036854775808 ≤ a) (ha1 : a ≤ 9223372036854775807) (hb : Sl w 1 v l.length (bc l)) (hg : getU l a = ((n : Int), (next : Int), 0)) (hn : n ≤ 65535) (hpos : 0 < l.length) (hs : next + n ≤ l.length) :
    Calls Try.prog 28 #[v, .int .i64 a] w fun e w' => e = retT ((l.drop next).take n, (next : Int) + n, 0) ∧ w' = w := by
  have hG := getUint_any v l a w hl ha0 ha1 hb
  rw [hg] at hG
  have HG := hid hG
  have hd : decide (65535 < (n : Int)) = false := by simp; omega
  have hd1 : decide ((l.length : Int) - next < (n : Int)) = false := by simp; omega
  obtain ⟨b, off, c, rfl, hlc, _, _, _⟩ := hb.form (by decide) (by omega)
  have hcv : (convert 22 9 (.slice (some ⟨b, off + next, none⟩) n (c - next))).run Try.prog w = .ok (.string ⟨((l.drop next).take n).toArray⟩) w := by
    refine run_convert_sl (P := Try.prog) w 22 9 5 Try.underlying22 Try.underlying5 Try.underlying9 (n := n) ?_
    have h := Sl.drop hb (ys := bc (l.drop next)) next (by omega) (by simp [bc])
    exact Sl.cut h (ys := bc ((l.drop next).take n)) n (by omega) (by simp [bc])
  clear hG hg
  unfold retT
  have i0 : (0 : Int) ≤ (next : Int) := by omega
  have i2 : (next : Int) ≤ (next : Int) + n := by omega
  have i3 : (next : Int) + n ≤ (c : Int) := by omega
  by_cases hc : next < c
  · have i4 : (next : Int) < c := by omega
    clear hb
    go_enter Try.func28, Try.ntmps28
    go_wp2_with fail
    refine HG.out.mono ?_
    unfold retU
    rintro e wz ⟨rfl, hwz⟩
    subst wz
    go_wp2
    go_ret3
    exact ⟨rfl, rfl⟩
  · obtain rfl : next = c := by omega
    obtain rfl : n = 0 := by omega
    have hcv0 : (convert 22 9 (.slice (some ⟨b, off, none⟩) 0 0)).run Try.prog w = .ok (.string ⟨(([] : List UInt8)).toArray⟩) w := by
      refine run_convert_sl (P := Try.prog) w 22 9 5 Try.underlying22 Try.underlying5 Try.underlying9 (n := 0) ⟨rfl, _, _, rfl, by omega, by simp [maxLen], by simp, fun a h j u hu => by simp [bc] at hu⟩
    clear hb
    go_enter Try.func28, Try.ntmps28
    go_wp2_with fail
    refine HG.out.mono ?_
    unfold retU
    rintro e wz ⟨rfl, hwz⟩
    subst wz
    go_wp2
    go_ret3
    exact ⟨rfl, rfl⟩

theorem getText_any (v : Value) (l : List UInt8) (a : Int) (w : World) (hl : l.length ≤ 140737488355328) (ha0 : -9223372036854775808 ≤ a) (ha1 : a ≤ 9223372036854775807) (hb : Sl w 1 v l.length (bc l)) :
    Calls Try.prog 28 #[v, .int .i64 a] w fun e w' => e = retT (getT l a) ∧ w' = w := by
  by_cases he : (getU l a).2.2 = 0
  · obtain ⟨n, next, hg, hx, hpos, _, _⟩ := getU_ok l a he
    by_cases h1 : 65535 < n
    · rw [show getT l a = ([], 0, 3) by unfold getT; rw [hg]; simp; omega]
      exact getText_big v l a n next w hl ha0 ha1 hb hg h1
    by_cases h2 : l.length < next + n
    · rw [show getT l a = ([], 0, 4) by unfold getT; rw [hg]; simp only [ne_eq, not_true_eq_false, if_false]; rw [if_neg (by omega), if_pos (by omega)]]
      exact getText_short v l a n next w hl ha0 ha1 hb hg (by omega) hx h2
    · rw [show getT l a = ((l.drop next).take n, (next : Int) + n, 0) by unfold getT; rw [hg]; simp only [ne_eq, not_true_eq_false, if_false]; rw [if_neg (by omega), if_neg (by omega)]; simp]
      exact getText_good v l a n next w hl ha0 ha1 hb hg (by omega) hpos (by omega)
  · rw [show getT l a = ([], 0, (getU l a).2.2) by unfold getT; rw [if_pos he]]
    exact getText_err v l a _ w hl ha0 ha1 hb (getU_no l a he) he

theorem refGetText_err (v : Value) (l : List UInt8) (a er : Int) (w : World) (hl : l.length ≤ 140737488355328) (ha0 : -9223372036854775808 ≤ a) (ha1 : a ≤ 9223372036854775807) (hb : Sl w 1 v l.length (bc l)) (hg : getU l a = (0, 0, er)) (he : er ≠ 0) :
    Calls Try.prog 29 #[v, .int .i64 a] w fun e w' => e = retT ([], 0, er) ∧ w' = w := by
  have hG := refGetUint_any v l a w hl ha0 ha1 hb
  rw [hg] at hG
  have HG := hid hG
  have hd : (er != 0) = true := by simpa using he
  have hd2 : (er == 0) = false := by simpa using he
  clear hG hg he hb
  unfold retT
  go_enter Try.func29, Try.ntmps29
  go_wp2_with fail
  refine HG.out.mono ?_
  unfold retU
  rintro e wz ⟨rfl, hwz⟩
  subst wz
  go_wp2
  go_ret3
  exact ⟨rfl, rfl⟩

theorem refGetText_big (v : Value) (l : List UInt8) (a : Int) (n next : Nat) (w : World) (hl : l.length ≤ 140737488355328) (ha0 : -9223372036854775808 ≤ a) (ha1 : a ≤ 9223372036854775807) (hb : Sl w 1 v l.length (bc l)) (hg : getU l a = ((n : Int), (next : Int), 0)) (hn : 65535 < n) :
    Calls Try.prog 29 #[v, .int .i64 a] w fun e w' => e = retT ([], 0, 3) ∧ w' = w := by
  have hG := refGetUint_any v l a w hl ha0 ha1 hb
  rw [hg] at hG
  have HG := hid hG
  have hd : decide (65535 < (n : Int)) = true := by simp; omega
  clear hG hg hb
  unfold retT
  go_enter Try.func29, Try.ntmps29
  go_wp2_with fail
  refine HG.out.mono ?_
  unfold retU
  rintro e wz ⟨rfl, hwz⟩
  subst wz
  go_wp2
  go_ret3
  exact ⟨rfl, rfl⟩

theorem refGetText_short (v : Value) (l : List UInt8) (a : Int) (n next : Nat) (w : World) (hl : l.length ≤ 140737488355328) (ha0 : -9223372036854775808 ≤ a) (ha1 : a ≤ 9223372036854775807) (hb : Sl w 1 v l.length (bc l)) (hg : getU l a = ((n : Int), (next : Int), 0)) (hn : n ≤ 65535) (hx : next ≤ l.length) (hs : l.length < next + n) :
    Calls Try.prog 29 #[v, .int .i64 a] w fun e w' => e = retT ([], 0, 4) ∧ w' = w := by
  have hG := refGetUint_any v l a w hl ha0 ha1 hb
  rw [hg] at hG
  have HG := hid hG
  have hd : decide (65535 < (n : Int)) = false := by simp; omega
  have hd1 : decide ((l.length : Int) - next < (n : Int)) = true := by simp; omega
  obtain ⟨ao, c, rfl, _, _, _⟩ := hb.shape
  clear hG hg hb
  unfold retT
  go_enter Try.func29, Try.ntmps29
  go_wp2_with fail
  refine HG.out.mono ?_
  unfold retU
  rintro e wz ⟨rfl, hwz⟩
  subst wz
  go_wp2
  go_ret3
  exact ⟨rfl, rfl⟩

theorem refGetText_good (v : Value) (l : List UInt8) (a : Int) (n next : Nat) (w : World) (hl : l.length ≤ 140737488355328) (ha0 : -9223372036854775808 ≤ a) (ha1 : a ≤ 9223372036854775807) (hb : Sl w 1 v l.length (bc l)) (hg : getU l a = ((n : Int), (next : Int), 0)) (hn : n ≤ 65535) (hpos : 0 < l.length) (hs : next + n ≤ l.length) :
    Calls Try.prog 29 #[v, .int .i64 a] w fun e w' => e = retT ((l.drop next).take n, (next : Int) + n, 0) ∧ w' = w := by
  have hG := refGetUint_any v l a w hl ha0 ha1 hb
  rw [hg] at hG
  have HG := hid hG
  have hd : decide (65535 < (n : Int)) = false := by simp; omega
  have hd1 : decide ((l.length : Int) - next < (n : Int)) = false := by simp; omega
  obtain ⟨b, off, c, rfl, hlc, _, _, _⟩ := hb.form (by decide) (by omega)
  have hcv : (convert 22 9 (.slice (some ⟨b, off + next, none⟩) n (c - next))).run Try.prog w = .ok (.string ⟨((l.drop next).take n).toArray⟩) w := by
    refine run_convert_sl (P := Try.prog) w 22 9 5 Try.underlying22 Try.underlying5 Try.underlying9 (n := n) ?_
    have h := Sl.drop hb (ys := bc (l.drop next)) next (by omega) (by simp [bc])
    exact Sl.cut h (ys := bc ((l.drop next).take n)) n (by omega) (by simp [bc])
  clear hG hg
  unfold retT
  have i0 : (0 : Int) ≤ (next : Int) := by omega
  have i2 : (next : Int) ≤ (next : Int) + n := by omega
  have i3 : (next : Int) + n ≤ (c : Int) := by omega
  by_cases hc : next < c
  · have i4 : (next : Int) < c := by omega
    clear hb
    go_enter Try.func29, Try.ntmps29
    go_wp2_with fail
    refine HG.out.mono ?_
    unfold retU
    rintro e wz ⟨rfl, hwz⟩
    subst wz
    go_wp2
    go_ret3
    exact ⟨rfl, rfl⟩
  · obtain rfl : next = c := by omega
    obtain rfl : n = 0 := by omega
    have hcv0 : (convert 22 9 (.slice (some ⟨b, off, none⟩) 0 0)).run Try.prog w = .ok (.string ⟨(([] : List UInt8)).toArray⟩) w := by
      refine run_convert_sl (P := Try.prog) w 22 9 5 Try.underlying22 Try.underlying5 Try.underlying9 (n := 0) ⟨rfl, _, _, rfl, by omega, by simp [maxLen], by simp, fun a h j u hu => by simp [bc] at hu⟩
    clear hb
    go_enter Try.func29, Try.ntmps29
    go_wp2_with fail
    refine HG.out.mono ?_
    unfold retU
    rintro e wz ⟨rfl, hwz⟩
    subst wz
    go_wp2
    go_ret3
    exact ⟨rfl, rfl⟩

theorem refGetText_any (v : Value) (l : List UInt8) (a : Int) (w : World) (hl : l.length ≤ 140737488355328) (ha0 : -9223372036854775808 ≤ a) (ha1 : a ≤ 9223372036854775807) (hb : Sl w 1 v l.length (bc l)) :
    Calls Try.prog 29 #[v, .int .i64 a] w fun e w' => e = retT (getT l a) ∧ w' = w := by
  by_cases he : (getU l a).2.2 = 0
  · obtain ⟨n, next, hg, hx, hpos, _, _⟩ := getU_ok l a he
    by_cases h1 : 65535 < n
    · rw [show getT l a = ([], 0, 3) by unfold getT; rw [hg]; simp; omega]
      exact refGetText_big v l a n next w hl ha0 ha1 hb hg h1
    by_cases h2 : l.length < next + n
    · rw [show getT l a = ([], 0, 4) by unfold getT; rw [hg]; simp only [ne_eq, not_true_eq_false, if_false]; rw [if_neg (by omega), if_pos (by omega)]]
      exact refGetText_short v l a n next w hl ha0 ha1 hb hg (by omega) hx h2
    · rw [show getT l a = ((l.drop next).take n, (next : Int) + n, 0) by unfold getT; rw [hg]; simp only [ne_eq, not_true_eq_false, if_false]; rw [if_neg (by omega), if_neg (by omega)]; simp]
      exact refGetText_good v l a n next w hl ha0 ha1 hb hg (by omega) hpos (by omega)
  · rw [show getT l a = ([], 0, (getU l a).2.2) by unfold getT; rw [if_pos he]]
    exact refGetText_err v l a _ w hl ha0 ha1 hb (getU_no l a he) he
end Go.Proofs.Ytecnjgiodnphcaa
