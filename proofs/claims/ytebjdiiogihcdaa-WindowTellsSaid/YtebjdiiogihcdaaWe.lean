/- window.folded, whatever the fold; total, risen. -/
import Derived.Test.YtebjdiiogihcdaaWd
namespace Go.Proofs.Ytebjdiiogihcdaa
open Go.RowKit
set_option linter.unusedSimpArgs false

/-- a fold along k + 1 samples -/
def foldTo (f : Int → Int → Int → Int × Int) (l : List (Int × Int)) (c : Int) : Nat → Int × Int
  | 0 => (c, 0)
  | k + 1 => if (foldTo f l c k).2 ≠ 0 then foldTo f l c k else if (f (foldTo f l c k).1 (l.getD (k + 1) (0, 0)).2 (l.getD k (0, 0)).2).2 ≠ 0 then (0, (f (foldTo f l c k).1 (l.getD (k + 1) (0, 0)).2 (l.getD k (0, 0)).2).2) else f (foldTo f l c k).1 (l.getD (k + 1) (0, 0)).2 (l.getD k (0, 0)).2
theorem foldTo_err {f : Int → Int → Int → Int × Int} {l : List (Int × Int)} {c : Int} {k : Nat} (h : (foldTo f l c k).2 ≠ 0) : ∀ n, k ≤ n → foldTo f l c n = foldTo f l c k := by
  intro n hn
  induction n with
  | zero => (have hk : k = 0 := by omega); rw [hk]
  | succ n ih =>
    by_cases hk : k = n + 1
    · rw [hk]
    · have e := ih (by omega)
      rw [foldTo, e, if_pos h]

set_option maxRecDepth 100000 in
set_option maxHeartbeats 2000000 in
theorem folded_total (f : Int → Int → Int → Int × Int) (hF : ∀ s v a w, Calls Try.prog 35 #[.int .i64 s, .int .i64 v, .int .i64 a] w fun e w' => e = two (f s v a) ∧ w' = w)
    (v : Value) (l : List (Int × Int)) (c : Int) (w : World) (hl : 0 < l.length) (hb : Sl w 2 v l.length (sc l)) :
    Calls Try.prog 34 #[v, .int .i64 c, .func (Fn.func 35) #[] #[]] w fun e w' => e = two (foldTo f l c (l.length - 1)) ∧ Below w.heap.size w w' := by
  have HF := hid hF
  have Hb := hid hb
  obtain ⟨ao, cc, rfl, hlc, hcm, _⟩ := hb.shape
  obtain ⟨b, off, rfl, hbl, hcell⟩ := sc_cells hb hl
  have HC := hid hcell
  unfold maxLen at hcm
  clear hb hcell hF
  go_enter Try.func34, Try.ntmps34
  go_wp2
  go_loopw [8, 9, 10] (fun sv i _ wr => ∃ k, k < l.length ∧ i = .int .i64 (((k + 1 : Nat) : Nat) : Int) ∧ sv = .int .i64 (foldTo f l c k).1 ∧ (foldTo f l c k).2 = 0 ∧ Below w.heap.size w wr)
    (fun _ i _ _ => l.length - (intOf i).toNat)
  case atStart => exact ⟨0, hl, rfl, rfl, rfl, Below.refl _ _⟩
  case round =>
    obtain ⟨k, hk, rfl, rfl, hz, hbel⟩ := hrel
    have HZ := hid hz; have L0 := hid hbel
    clear hz hbel
    by_cases hlt : k + 1 < l.length
    · have h1 : wr.cell? ⟨b, off + (k + 1) * 2 + 1, none⟩ = some (.int .i64 (l.getD (k + 1) (0, 0)).2) := by rw [World.cell?_of_block (L0.out.block b hbl)]; exact (HC.out (k + 1) hlt).2
      have h0 : wr.cell? ⟨b, off + k * 2 + 1, none⟩ = some (.int .i64 (l.getD k (0, 0)).2) := by rw [World.cell?_of_block (L0.out.block b hbl)]; exact (HC.out k hk).2
      have i0 : (0 : Int) ≤ (k : Int) := by omega
      have i1 : (k : Int) < (l.length : Int) := by omega
      have i2 : (k : Int) + 1 < (l.length : Int) := by omega
      have i3 : (0 : Int) ≤ (k : Int) + 1 := by omega
      have n1 : ((k : Int) + 1).toNat = k + 1 := by omega
      have kj : IntKind.i64.wrap (k : Int) = (k : Int) := IntWalk.i64_in _ (by omega)
      obtain ⟨v1, hv1⟩ : ∃ x, x = (l.getD (k + 1) (0, 0)).2 := ⟨_, rfl⟩
      obtain ⟨v0, hv0⟩ : ∃ x, x = (l.getD k (0, 0)).2 := ⟨_, rfl⟩
      obtain ⟨s, hs⟩ : ∃ x, x = (foldTo f l c k).1 := ⟨_, rfl⟩
      rw [← hv1] at h1
      rw [← hv0] at h0
      have HN := hid (show foldTo f l c (k + 1) = if (f s v1 v0).2 ≠ 0 then (0, (f s v1 v0).2) else f s v1 v0 by rw [foldTo, if_neg (by rw [HZ.out]; simp), ← hv1, ← hv0, ← hs])
      rw [← hs]
      have HR := hid (HF.out s v1 v0)
      obtain ⟨r, hr⟩ : ∃ r, r = f s v1 v0 := ⟨_, rfl⟩
      rw [← hr] at HN HR
      clear hv1 hv0 hs hr
      unfold two at HR
      go_wp2
      go_quiet ((go_at_call 35; exact Calls.quiet_of_same (HR.out _)))
      rename_i nq
      rcases Bool.eq_false_or_eq_true (r.2 != 0) with hr2 | hr2
      · have hne : r.2 ≠ 0 := by simpa using hr2
        have HE := hid (show foldTo f l c (l.length - 1) = (0, r.2) by
          have e : foldTo f l c (k + 1) = (0, r.2) := by rw [HN.out, if_pos hne]
          rw [foldTo_err (k := k + 1) (by rw [e]; exact hne) (l.length - 1) (by omega), e])
        clear hne
        have L := hid (Below_drewN L0.out nq)
        generalize wr.drewN nq = W0 at *
        go_wp2
        go_ret2
        rw [HE.out]
        exact ⟨rfl, L.out⟩
      · have hne : r.2 = 0 := by simpa using hr2
        have HE := hid (show foldTo f l c (k + 1) = r by rw [HN.out, if_neg (by rw [hne]; simp)])
        have HNE := hid hne
        clear hne
        have L := hid (Below_drewN L0.out nq)
        generalize wr.drewN nq = W0 at *
        go_wp2
        go_roundw
        case rel => exact ⟨k + 1, hlt, by go_num, by rw [HE.out], by rw [HE.out]; exact HNE.out, L.out⟩
        case measure => simp [intOf]; omega
    · have hkl : k = l.length - 1 := by omega
      have hkl' : ((k + 1 : Nat) : Int) = (l.length : Int) := by omega
      rw [hkl']
      have HK := hid hkl
      clear hkl hkl'
      have hfin := hid (show foldTo f l c k = ((foldTo f l c k).1, 0) from Prod.ext rfl HZ.out)
      go_wp2
      go_ret2
      exact ⟨by rw [← HK.out, hfin.out]; rfl, L0.out⟩

set_option maxRecDepth 100000 in
set_option maxHeartbeats 2000000 in
theorem folded_risen (f : Int → Int → Int → Int × Int) (hF : ∀ s v a w, Calls Try.prog 42 #[.int .i64 s, .int .i64 v, .int .i64 a] w fun e w' => e = two (f s v a) ∧ w' = w)
    (v : Value) (l : List (Int × Int)) (c : Int) (w : World) (hl : 0 < l.length) (hb : Sl w 2 v l.length (sc l)) :
    Calls Try.prog 34 #[v, .int .i64 c, .func (Fn.func 42) #[] #[]] w fun e w' => e = two (foldTo f l c (l.length - 1)) ∧ Below w.heap.size w w' := by
  have HF := hid hF
  have Hb := hid hb
  obtain ⟨ao, cc, rfl, hlc, hcm, _⟩ := hb.shape
  obtain ⟨b, off, rfl, hbl, hcell⟩ := sc_cells hb hl
  have HC := hid hcell
  unfold maxLen at hcm
  clear hb hcell hF
  go_enter Try.func34, Try.ntmps34
  go_wp2
  go_loopw [8, 9, 10] (fun sv i _ wr => ∃ k, k < l.length ∧ i = .int .i64 (((k + 1 : Nat) : Nat) : Int) ∧ sv = .int .i64 (foldTo f l c k).1 ∧ (foldTo f l c k).2 = 0 ∧ Below w.heap.size w wr)
    (fun _ i _ _ => l.length - (intOf i).toNat)
  case atStart => exact ⟨0, hl, rfl, rfl, rfl, Below.refl _ _⟩
  case round =>
    obtain ⟨k, hk, rfl, rfl, hz, hbel⟩ := hrel
    have HZ := hid hz; have L0 := hid hbel
    clear hz hbel
    by_cases hlt : k + 1 < l.length
    · have h1 : wr.cell? ⟨b, off + (k + 1) * 2 + 1, none⟩ = some (.int .i64 (l.getD (k + 1) (0, 0)).2) := by rw [World.cell?_of_block (L0.out.block b hbl)]; exact (HC.out (k + 1) hlt).2
      have h0 : wr.cell? ⟨b, off + k * 2 + 1, none⟩ = some (.int .i64 (l.getD k (0, 0)).2) := by rw [World.cell?_of_block (L0.out.block b hbl)]; exact (HC.out k hk).2
      have i0 : (0 : Int) ≤ (k : Int) := by omega
      have i1 : (k : Int) < (l.length : Int) := by omega
      have i2 : (k : Int) + 1 < (l.length : Int) := by omega
      have i3 : (0 : Int) ≤ (k : Int) + 1 := by omega
      have n1 : ((k : Int) + 1).toNat = k + 1 := by omega
      have kj : IntKind.i64.wrap (k : Int) = (k : Int) := IntWalk.i64_in _ (by omega)
      obtain ⟨v1, hv1⟩ : ∃ x, x = (l.getD (k + 1) (0, 0)).2 := ⟨_, rfl⟩
      obtain ⟨v0, hv0⟩ : ∃ x, x = (l.getD k (0, 0)).2 := ⟨_, rfl⟩
      obtain ⟨s, hs⟩ : ∃ x, x = (foldTo f l c k).1 := ⟨_, rfl⟩
      rw [← hv1] at h1
      rw [← hv0] at h0
      have HN := hid (show foldTo f l c (k + 1) = if (f s v1 v0).2 ≠ 0 then (0, (f s v1 v0).2) else f s v1 v0 by rw [foldTo, if_neg (by rw [HZ.out]; simp), ← hv1, ← hv0, ← hs])
      rw [← hs]
      have HR := hid (HF.out s v1 v0)
      obtain ⟨r, hr⟩ : ∃ r, r = f s v1 v0 := ⟨_, rfl⟩
      rw [← hr] at HN HR
      clear hv1 hv0 hs hr
      unfold two at HR
      go_wp2
      go_quiet ((go_at_call 42; exact Calls.quiet_of_same (HR.out _)))
      rename_i nq
      rcases Bool.eq_false_or_eq_true (r.2 != 0) with hr2 | hr2
      · have hne : r.2 ≠ 0 := by simpa using hr2
        have HE := hid (show foldTo f l c (l.length - 1) = (0, r.2) by
          have e : foldTo f l c (k + 1) = (0, r.2) := by rw [HN.out, if_pos hne]
          rw [foldTo_err (k := k + 1) (by rw [e]; exact hne) (l.length - 1) (by omega), e])
        clear hne
        have L := hid (Below_drewN L0.out nq)
        generalize wr.drewN nq = W0 at *
        go_wp2
        go_ret2
        rw [HE.out]
        exact ⟨rfl, L.out⟩
      · have hne : r.2 = 0 := by simpa using hr2
        have HE := hid (show foldTo f l c (k + 1) = r by rw [HN.out, if_neg (by rw [hne]; simp)])
        have HNE := hid hne
        clear hne
        have L := hid (Below_drewN L0.out nq)
        generalize wr.drewN nq = W0 at *
        go_wp2
        go_roundw
        case rel => exact ⟨k + 1, hlt, by go_num, by rw [HE.out], by rw [HE.out]; exact HNE.out, L.out⟩
        case measure => simp [intOf]; omega
    · have hkl : k = l.length - 1 := by omega
      have hkl' : ((k + 1 : Nat) : Int) = (l.length : Int) := by omega
      rw [hkl']
      have HK := hid hkl
      clear hkl hkl'
      have hfin := hid (show foldTo f l c k = ((foldTo f l c k).1, 0) from Prod.ext rfl HZ.out)
      go_wp2
      go_ret2
      exact ⟨by rw [← HK.out, hfin.out]; rfl, L0.out⟩

set_option maxRecDepth 100000 in
set_option maxHeartbeats 2000000 in
theorem folded_picked (f : Int → Int → Int → Int × Int) (p : Nat) (g : Value) (hF : ∀ s v a w, w.heap[p]? = some (.cells #[g] 63 (0, 0)) → Calls Try.prog 51 #[.int .i64 s, .int .i64 v, .int .i64 a, .pointer (some ⟨p, 0, none⟩)] w fun e w' => e = two (f s v a) ∧ w' = w)
    (v : Value) (l : List (Int × Int)) (c : Int) (w : World) (hl : 0 < l.length) (hb : Sl w 2 v l.length (sc l)) (hg : w.heap[p]? = some (.cells #[g] 63 (0, 0))) :
    Calls Try.prog 34 #[v, .int .i64 c, .func (Fn.func 51) #[] #[.pointer (some ⟨p, 0, none⟩)]] w fun e w' => e = two (foldTo f l c (l.length - 1)) ∧ Below w.heap.size w w' := by
  have HF := hid hF; have HG := hid hg; have HP := hid (lt_of_blk hg)
  have Hb := hid hb
  obtain ⟨ao, cc, rfl, hlc, hcm, _⟩ := hb.shape
  obtain ⟨b, off, rfl, hbl, hcell⟩ := sc_cells hb hl
  have HC := hid hcell
  unfold maxLen at hcm
  clear hb hcell hF hg
  go_enter Try.func34, Try.ntmps34
  go_wp2
  go_loopw [8, 9, 10] (fun sv i _ wr => ∃ k, k < l.length ∧ i = .int .i64 (((k + 1 : Nat) : Nat) : Int) ∧ sv = .int .i64 (foldTo f l c k).1 ∧ (foldTo f l c k).2 = 0 ∧ Below w.heap.size w wr)
    (fun _ i _ _ => l.length - (intOf i).toNat)
  case atStart => exact ⟨0, hl, rfl, rfl, rfl, Below.refl _ _⟩
  case round =>
    obtain ⟨k, hk, rfl, rfl, hz, hbel⟩ := hrel
    have HZ := hid hz; have L0 := hid hbel
    clear hz hbel
    by_cases hlt : k + 1 < l.length
    · have h1 : wr.cell? ⟨b, off + (k + 1) * 2 + 1, none⟩ = some (.int .i64 (l.getD (k + 1) (0, 0)).2) := by rw [World.cell?_of_block (L0.out.block b hbl)]; exact (HC.out (k + 1) hlt).2
      have h0 : wr.cell? ⟨b, off + k * 2 + 1, none⟩ = some (.int .i64 (l.getD k (0, 0)).2) := by rw [World.cell?_of_block (L0.out.block b hbl)]; exact (HC.out k hk).2
      have i0 : (0 : Int) ≤ (k : Int) := by omega
      have i1 : (k : Int) < (l.length : Int) := by omega
      have i2 : (k : Int) + 1 < (l.length : Int) := by omega
      have i3 : (0 : Int) ≤ (k : Int) + 1 := by omega
      have n1 : ((k : Int) + 1).toNat = k + 1 := by omega
      have kj : IntKind.i64.wrap (k : Int) = (k : Int) := IntWalk.i64_in _ (by omega)
      obtain ⟨v1, hv1⟩ : ∃ x, x = (l.getD (k + 1) (0, 0)).2 := ⟨_, rfl⟩
      obtain ⟨v0, hv0⟩ : ∃ x, x = (l.getD k (0, 0)).2 := ⟨_, rfl⟩
      obtain ⟨s, hs⟩ : ∃ x, x = (foldTo f l c k).1 := ⟨_, rfl⟩
      rw [← hv1] at h1
      rw [← hv0] at h0
      have HN := hid (show foldTo f l c (k + 1) = if (f s v1 v0).2 ≠ 0 then (0, (f s v1 v0).2) else f s v1 v0 by rw [foldTo, if_neg (by rw [HZ.out]; simp), ← hv1, ← hv0, ← hs])
      rw [← hs]
      have HR := hid (fun n => HF.out s v1 v0 (wr.drewN n) (by have h := blk_below HG.out L0.out HP.out; exact h))
      obtain ⟨r, hr⟩ : ∃ r, r = f s v1 v0 := ⟨_, rfl⟩
      rw [← hr] at HN HR
      clear hv1 hv0 hs hr
      unfold two at HR
      go_wp2
      go_quiet ((go_at_call 51; exact Calls.quiet_of_same (HR.out _)))
      rename_i nq
      rcases Bool.eq_false_or_eq_true (r.2 != 0) with hr2 | hr2
      · have hne : r.2 ≠ 0 := by simpa using hr2
        have HE := hid (show foldTo f l c (l.length - 1) = (0, r.2) by
          have e : foldTo f l c (k + 1) = (0, r.2) := by rw [HN.out, if_pos hne]
          rw [foldTo_err (k := k + 1) (by rw [e]; exact hne) (l.length - 1) (by omega), e])
        clear hne
        have L := hid (Below_drewN L0.out nq)
        generalize wr.drewN nq = W0 at *
        go_wp2
        go_ret2
        rw [HE.out]
        exact ⟨rfl, L.out⟩
      · have hne : r.2 = 0 := by simpa using hr2
        have HE := hid (show foldTo f l c (k + 1) = r by rw [HN.out, if_neg (by rw [hne]; simp)])
        have HNE := hid hne
        clear hne
        have L := hid (Below_drewN L0.out nq)
        generalize wr.drewN nq = W0 at *
        go_wp2
        go_roundw
        case rel => exact ⟨k + 1, hlt, by go_num, by rw [HE.out], by rw [HE.out]; exact HNE.out, L.out⟩
        case measure => simp [intOf]; omega
    · have hkl : k = l.length - 1 := by omega
      have hkl' : ((k + 1 : Nat) : Int) = (l.length : Int) := by omega
      rw [hkl']
      have HK := hid hkl
      clear hkl hkl'
      have hfin := hid (show foldTo f l c k = ((foldTo f l c k).1, 0) from Prod.ext rfl HZ.out)
      go_wp2
      go_ret2
      exact ⟨by rw [← HK.out, hfin.out]; rfl, L0.out⟩

end Go.Proofs.Ytebjdiiogihcdaa
