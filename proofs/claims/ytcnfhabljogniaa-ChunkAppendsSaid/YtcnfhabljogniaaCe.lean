/- chunk.Encode. -/
import Derived.Test.YtcnfhabljogniaaCd
import Derived.StillTailTactics
namespace Go.Proofs.Ytcnfhabljogniaa
open Go.RowKit
set_option linter.unusedSimpArgs false

/-- the distance of a sample from the one ahead of it -/
def farAt (l : List (Int × Int)) (i : Nat) : Int := (l.getD i (0, 0)).1 - (l.getD (i - 1) (0, 0)).1
/-- the two numbers of a sample that is not the first -/
def numsAt (l : List (Int × Int)) (i : Nat) : List Nat :=
  [if i = 1 then (farAt l 1).toNat else zigN (farAt l i - farAt l (i - 1)), zigN ((l.getD i (0, 0)).2 - (l.getD (i - 1) (0, 0)).2)]
/-- the numbers of a chunk, up to sample j -/
def nums (l : List (Int × Int)) : Nat → List Nat
  | 0 => [l.length, (l.getD 0 (0, 0)).1.toNat, zigN (l.getD 0 (0, 0)).2]
  | j + 1 => nums l j ++ numsAt l (j + 1)
def pushAll (x : List UInt8 × Nat) (ns : List Nat) : List UInt8 × Nat := ns.foldl pushNum x
def encB (l : List (Int × Int)) (j : Nat) : List UInt8 × Nat := pushAll ([], 0) (nums l j)
/-- chunk.Encode in plain words -/
def encV (l : List (Int × Int)) : List UInt8 × Int := if chkL l = 0 then ((encB l (l.length - 1)).1, 0) else ([], chkL l)

theorem pushAll_append (x : List UInt8 × Nat) (a b : List Nat) : pushAll x (a ++ b) = pushAll (pushAll x a) b := by simp [pushAll]
theorem pushAll_bits (ns : List Nat) : ∀ x, (pushAll x ns).2 ≤ x.2 + 71 * ns.length := by
  induction ns with
  | nil => intro x; simp [pushAll]
  | cons a t ih =>
    intro x
    have h1 := ih (pushNum x a)
    have h2 := bitLen_le64 a
    have h3 : (pushNum x a).2 = x.2 + 7 + Lib.bitLen a := rfl
    have h4 : pushAll x (a :: t) = pushAll (pushNum x a) t := rfl
    rw [h4, List.length_cons]
    omega
theorem nums_length (l : List (Int × Int)) (j : Nat) : (nums l j).length = 3 + 2 * j := by
  induction j with
  | zero => rfl
  | succ j ih => rw [nums, List.length_append, ih]; simp [numsAt]; omega
theorem encB_bits (l : List (Int × Int)) (j : Nat) : (encB l j).2 ≤ 71 * (3 + 2 * j) := by
  have := pushAll_bits (nums l j) ([], 0)
  rw [nums_length] at this
  simpa [encB] using this
theorem encB_next (l : List (Int × Int)) (j : Nat) : encB l (j + 1) = pushNum (pushNum (encB l j) (if j + 1 = 1 then (farAt l 1).toNat else zigN (farAt l (j + 1) - farAt l j))) (zigN ((l.getD (j + 1) (0, 0)).2 - (l.getD j (0, 0)).2)) := by
  unfold encB
  rw [nums, pushAll_append]
  rfl
theorem chkL_zero {l : List (Int × Int)} (h : chkL l = 0) : 0 < l.length ∧ l.length ≤ 120 ∧ chkA none l = 0 := by
  unfold chkL at h
  by_cases hc : l.length = 0 ∨ 120 < l.length
  · rw [if_pos hc] at h; exact absurd h (by decide)
  · rw [if_neg hc] at h; exact ⟨by omega, by omega, h⟩
/-- what the samples of a chunk are -/
theorem chk_at {l : List (Int × Int)} (h : chkL l = 0) (k : Nat) (hk : k < l.length) :
    (0 ≤ (l.getD k (0, 0)).1 ∧ (l.getD k (0, 0)).1 ≤ 1099511627776 ∧ -1152921504606846976 ≤ (l.getD k (0, 0)).2 ∧ (l.getD k (0, 0)).2 ≤ 1152921504606846976) ∧ (0 < k → (l.getD (k - 1) (0, 0)).1 < (l.getD k (0, 0)).1) := by
  have := chkA_zero (chkL_zero h).2.2 k hk
  exact ⟨mayB_iff.1 this.1, this.2⟩

/-- A slice of bytes, with an error: in memory of the call's own. -/
def EncPost (w : World) (r : List UInt8 × Int) (e : Ending) (w' : World) : Prop :=
  ∃ ao c, e = .returned (.tuple #[.slice ao r.1.length c, .int .i64 r.2]) ∧ Below w.heap.size w w' ∧ w'.ownsRow w.heap.size 5 1 (.slice ao r.1.length c) r.1.length (bc r.1)

set_option maxRecDepth 100000 in
set_option maxHeartbeats 2000000 in
theorem encode_bad (v : Value) (l : List (Int × Int)) (w : World) (hl : l.length ≤ 20000000000000) (hb : Sl w 2 v l.length (sc l)) (hc : chkL l ≠ 0) :
    Calls Try.prog 13 #[v] w (EncPost w ([], chkL l)) := by
  have HC := hid (check_any v l w hl hb)
  generalize chkL l = n at *
  have hne : (n != 0) = true := by simpa using hc
  clear hb hc
  go_enter Try.func13, Try.ntmps13
  go_wp2_with fail
  refine HC.out.mono ?_
  rintro e w1 ⟨rfl, hb1⟩
  have L := hid hb1; clear hb1
  go_wp2
  go_ret2
  exact ⟨none, 0, rfl, L.out, World.ownsRow_nil _ _ _ _⟩

set_option maxRecDepth 100000 in
set_option maxHeartbeats 4000000 in
theorem encode_good (v : Value) (l : List (Int × Int)) (w : World) (hb : Sl w 2 v l.length (sc l)) (hc : chkL l = 0) :
    Calls Try.prog 13 #[v] w (EncPost w ((encB l (l.length - 1)).1, 0)) := by
  have h120 := (chkL_zero hc).2.1
  have hpos := (chkL_zero hc).1
  have HCk := hid (check_any v l w (by omega) hb)
  rw [hc] at HCk
  have HAt := hid (fun k hk => chk_at hc k hk)
  have Hb := hid hb
  obtain ⟨ao, c, rfl, _, _, _⟩ := hb.shape
  obtain ⟨b, off, rfl, hbl, hcell⟩ := sc_cells Hb.out hpos
  have HC := hid hcell
  clear hcell hb hc
  go_enter Try.func13, Try.ntmps13
  go_wp2_with fail
  refine HCk.out.mono ?_
  rintro e w1 ⟨rfl, hb1⟩
  have L1 := hid hb1; clear hb1
  have s1 := L1.out.size
  have hwl : IntKind.u64.wrap (l.length : Int) = ((l.length : Nat) : Int) := by rw [IntKind.wrap_u64]; omega
  go_wp2_with fail
  have W1 := hid (show Wr w1.heap.size ([], 0) (w1.alloc (.cells #[.slice none 0 0, .int .i64 0] 60)) from ⟨.slice none 0 0, blk_new w1 _ _ rfl, World.ownsRow_nil _ _ _ _, by simp [Rt]⟩)
  refine (wnum_any w1.heap.size ([], 0) l.length _ (by omega) (by simp) W1.out).mono ?_
  rintro e w2 ⟨rfl, hb2, hw2⟩
  have L2 := hid (L1.out.trans ((((Below.refl _ w1).alloc (Nat.le_refl _) _).trans hb2).mono s1))
  have W2 := hid hw2
  generalize hpp : w1.heap.size = p at *
  clear W1 hb2 hw2 L1 hpp
  have r0 := HAt.out 0 hpos
  have c0 : w2.cell? ⟨b, off, none⟩ = some (.int .i64 (l.getD 0 (0, 0)).1) := by rw [World.cell?_of_block (L2.out.block b hbl)]; simpa using (HC.out 0 hpos).1
  obtain ⟨t, ht⟩ : ∃ t : Nat, (l.getD 0 (0, 0)).1 = (t : Int) := Int.eq_ofNat_of_zero_le r0.1.1
  obtain ⟨u, hu⟩ : ∃ u, u = (l.getD 0 (0, 0)).2 := ⟨_, rfl⟩
  have HT := hid ht; have HU := hid hu
  rw [ht] at c0 r0
  rw [← hu] at r0
  clear ht hu
  have hwt : IntKind.u64.wrap (t : Int) = ((t : Nat) : Int) := by rw [IntKind.wrap_u64]; omega
  have i0 : (0 : Int) < (l.length : Int) := by omega
  go_wp2_with fail
  refine (wnum_any p _ t _ (by omega) (by simp [pushNum]; have := bitLen_le64 l.length; omega) W2.out).mono ?_
  rintro e w3 ⟨rfl, hb3, hw3⟩
  have L3 := hid (L2.out.trans (hb3.mono s1))
  have W3 := hid hw3
  clear W2 hb3 hw3 L2 c0
  have c1 : w3.cell? ⟨b, off + 1, none⟩ = some (.int .i64 u) := by rw [World.cell?_of_block (L3.out.block b hbl), HU.out]; simpa using (HC.out 0 hpos).2
  go_wp2_with fail
  refine (wsigned_any p _ u _ (by omega) (by omega) (by simp [pushNum]; have := bitLen_le64 l.length; have := bitLen_le64 t; omega) W3.out).mono ?_
  rintro e w4 ⟨rfl, hb4, hw4⟩
  have L4 := hid (L3.out.trans (hb4.mono s1))
  have W4 := hid (show Wr p (encB l 0) w4 from by
    have : encB l 0 = pushNum (pushNum (pushNum ([], 0) l.length) t) (zigN u) := by
      unfold encB nums pushAll
      rw [HT.out, HU.out]; rfl
    rw [this]; exact hw4)
  clear W3 hb4 hw4 L3 c1 hwt hwl HT HU r0
  go_wp2
  go_loopw [8, 9] (fun i _ wr => ∃ k, k < l.length ∧ i = .int .i64 (((k + 1 : Nat) : Nat) : Int) ∧ Below w.heap.size w wr ∧ Wr p (encB l k) wr)
    (fun i _ _ => l.length - (intOf i).toNat)
  case atStart => exact ⟨0, hpos, rfl, L4.out, W4.out⟩
  case round =>
    obtain ⟨k, hk, rfl, hbel, hwr⟩ := hrel
    have L := hid hbel; have W := hid hwr
    clear hbel hwr
    by_cases hlt : k + 1 < l.length
    · have r1 := HAt.out (k + 1) hlt
      have r0 := HAt.out k hk
      have r10 := r1.2 (by omega)
      simp only [Nat.add_sub_cancel] at r10
      have hT1 : wr.cell? ⟨b, off + (k + 1) * 2, none⟩ = some (.int .i64 (l.getD (k + 1) (0, 0)).1) := by rw [World.cell?_of_block (L.out.block b hbl)]; exact (HC.out (k + 1) hlt).1
      have hT0 : wr.cell? ⟨b, off + k * 2, none⟩ = some (.int .i64 (l.getD k (0, 0)).1) := by rw [World.cell?_of_block (L.out.block b hbl)]; exact (HC.out k hk).1
      obtain ⟨t1, ht1⟩ : ∃ t, t = (l.getD (k + 1) (0, 0)).1 := ⟨_, rfl⟩
      obtain ⟨t0, ht0⟩ : ∃ t, t = (l.getD k (0, 0)).1 := ⟨_, rfl⟩
      obtain ⟨v1, hv1⟩ : ∃ t, t = (l.getD (k + 1) (0, 0)).2 := ⟨_, rfl⟩
      obtain ⟨v0, hv0⟩ : ∃ t, t = (l.getD k (0, 0)).2 := ⟨_, rfl⟩
      rw [← ht1] at r1 hT1 r10
      rw [← ht0] at r0 hT0 r10
      rw [← hv1] at r1
      rw [← hv0] at r0
      obtain ⟨d, hd⟩ : ∃ d : Nat, t1 - t0 = (d : Int) := Int.eq_ofNat_of_zero_le (by omega)
      have kw : IntKind.i64.wrap (t1 - t0) = (d : Int) := by rw [IntWalk.i64_in _ (by omega)]; exact hd
      have kd : d ≤ 1099511627776 := by omega
      have i0 : (0 : Int) ≤ (k : Int) := by omega
      have i1 : (k : Int) < (l.length : Int) := by omega
      have i2 : (k : Int) + 1 < (l.length : Int) := by omega
      have HT1 := hid ht1; have HT0 := hid ht0; have HV1 := hid hv1; have HV0 := hid hv0
      have HD := hid hd; have R1 := hid r1; have R0 := hid r0
      have hbits := encB_bits l k
      clear ht1 ht0 hv1 hv0 hd r1 r0 r10
      go_wp2
      go_quiet (fail)
      rename_i nq
      have La := hid (Below_drewN L.out nq)
      have Wa := hid (show Wr p (encB l k) (wr.drewN nq) from W.out)
      generalize wr.drewN nq = W0 at *
      clear hT1 hT0 kw
      cases k with
      | zero =>
        have kv : IntKind.u64.wrap (d : Int) = ((d : Nat) : Int) := by rw [IntKind.wrap_u64]; omega
        go_wp2_with fail
        refine (wnum_any p _ d _ (by omega) (by omega) Wa.out).mono ?_
        rintro e w5 ⟨rfl, hb5, hw5⟩
        have L5 := hid (La.out.trans (hb5.mono s1))
        have W5 := hid hw5
        have HF := hid (show (farAt l 1).toNat = d from by unfold farAt; rw [← HT1.out, ← HT0.out, HD.out]; rfl)
        clear hb5 hw5 kv
        have hV1 : w5.cell? ⟨b, off + 3, none⟩ = some (.int .i64 v1) := by rw [World.cell?_of_block (L5.out.block b hbl), HV1.out]; exact (HC.out (0 + 1) hlt).2
        have hV0 : w5.cell? ⟨b, off + 1, none⟩ = some (.int .i64 v0) := by rw [World.cell?_of_block (L5.out.block b hbl), HV0.out]; simpa using (HC.out 0 hk).2
        have i3 : (1 : Int) < (l.length : Int) := by omega
        have i4 : (0 : Int) < (l.length : Int) := by omega
        have kz : IntKind.i64.wrap 0 = 0 := by decide
        have kw : IntKind.i64.wrap (v1 - v0) = v1 - v0 := IntWalk.i64_in _ (by have := R1.out; have := R0.out; omega)
        go_wp2_with fail
        go_still_tail 13, (by kernel_rfl)
        change wpList _ _ _ _ _ w5.drew
        have L6 := hid (Below_drewN L5.out 1)
        have W6 := hid (show Wr p (pushNum (encB l 0) d) w5.drew from W5.out)
        change Hid (Below w.heap.size w w5.drew) at L6
        have s6 : (pushNum (encB l 0) d).2 ≤ 1000 := by have := bitLen_le64 d; simp only [pushNum]; omega
        generalize w5.drew = w6 at *
        go_wp2_with fail
        refine (wsigned_any p _ (v1 - v0) _ (by have := R1.out; have := R0.out; omega) (by have := R1.out; have := R0.out; omega) (by omega) W6.out).mono ?_
        rintro e w7 ⟨rfl, hb7, hw7⟩
        have L7 := hid (L6.out.trans (hb7.mono s1))
        have W7 := hid (show Wr p (encB l 1) w7 from by rw [encB_next, if_pos rfl, HF.out, ← HV1.out, ← HV0.out]; exact hw7)
        clear hb7 hw7
        go_wp2
        go_roundw
        case rel => exact ⟨1, hlt, by go_num, L7.out, W7.out⟩
        case measure => simp [intOf]; omega
      | succ j =>
        have rm := HAt.out j (by omega)
        have r0m := (HAt.out (j + 1) hk).2 (by omega)
        simp only [Nat.add_sub_cancel] at r0m
        have hTm : W0.cell? ⟨b, off + j * 2, none⟩ = some (.int .i64 (l.getD j (0, 0)).1) := by rw [World.cell?_of_block (La.out.block b hbl)]; exact (HC.out j (by omega)).1
        have hT0 : W0.cell? ⟨b, off + (j + 1) * 2, none⟩ = some (.int .i64 t0) := by rw [World.cell?_of_block (La.out.block b hbl), HT0.out]; exact (HC.out (j + 1) hk).1
        obtain ⟨tm, htm⟩ : ∃ t, t = (l.getD j (0, 0)).1 := ⟨_, rfl⟩
        rw [← htm] at rm hTm r0m
        rw [← HT0.out] at r0m
        have HTm := hid htm
        obtain ⟨y, hy⟩ : ∃ y : Int, y = (d : Int) - (t0 - tm) := ⟨_, rfl⟩
        have ky : -9223372036854775808 ≤ y ∧ y ≤ 9223372036854775807 := by have := R0.out; omega
        have kw1 : IntKind.i64.wrap (t0 - tm) = t0 - tm := IntWalk.i64_in _ (by have := R0.out; omega)
        have kw2 : IntKind.i64.wrap ((d : Int) - (t0 - tm)) = y := by rw [hy]; exact IntWalk.i64_in _ (by omega)
        have HF := hid (show zigN (farAt l (j + 1 + 1) - farAt l (j + 1)) = zigN y from by
          unfold farAt
          simp only [Nat.add_sub_cancel]
          rw [← HT1.out, ← HT0.out, ← HTm.out, HD.out, hy])
        have k1 : IntKind.i64.wrap ((j : Int) + 1) = (j : Int) + 1 := IntWalk.i64_in _ (by omega)
        have k0 : IntKind.i64.wrap ((j : Int) + 1 + 1 - 2) = (j : Int) := by rw [show (j : Int) + 1 + 1 - 2 = j by omega]; exact IntWalk.i64_in _ (by omega)
        have n1 : ((j : Int) + 1).toNat = j + 1 := by omega
        have m0 : (0 : Int) ≤ (j : Int) := by omega
        have m1 : (0 : Int) ≤ (j : Int) + 1 := by omega
        have m2 : (j : Int) < (l.length : Int) := by omega
        have m3 : (j : Int) + 1 < (l.length : Int) := by omega
        have m5 : (j : Int) + 1 + 1 < (l.length : Int) := by omega
        have m6 : (0 : Int) ≤ (j : Int) + 1 + 1 := by omega
        have n2 : ((j : Int) + 1 + 1).toNat = j + 1 + 1 := by omega
        have m4 : ((j : Int) + 1 + 1 == 1) = false := by simp; omega
        clear htm hy rm r0m
        go_wp2_with fail
        go_still_tail 16, (by kernel_rfl)
        change wpList _ _ _ _ _ W0.drew
        have Lb := hid (Below_drewN La.out 1)
        have Wb := hid (show Wr p (encB l (j + 1)) W0.drew from Wa.out)
        change Hid (Below w.heap.size w W0.drew) at Lb
        clear hTm hT0 kw1 kw2 k0
        generalize W0.drew = w4b at *
        go_wp2_with fail
        refine (wsigned_any p _ y _ ky.1 ky.2 (by omega) Wb.out).mono ?_
        rintro e w5 ⟨rfl, hb5, hw5⟩
        have L5 := hid (Lb.out.trans (hb5.mono s1))
        have W5 := hid hw5
        clear hb5 hw5
        have hV1 : w5.cell? ⟨b, off + (j + 1 + 1) * 2 + 1, none⟩ = some (.int .i64 v1) := by rw [World.cell?_of_block (L5.out.block b hbl), HV1.out]; exact (HC.out (j + 1 + 1) hlt).2
        have hV0 : w5.cell? ⟨b, off + (j + 1) * 2 + 1, none⟩ = some (.int .i64 v0) := by rw [World.cell?_of_block (L5.out.block b hbl), HV0.out]; exact (HC.out (j + 1) hk).2
        have kw : IntKind.i64.wrap (v1 - v0) = v1 - v0 := IntWalk.i64_in _ (by have := R1.out; have := R0.out; omega)
        go_wp2_with fail
        go_still_tail 13, (by kernel_rfl)
        change wpList _ _ _ _ _ w5.drew
        have L6 := hid (Below_drewN L5.out 1)
        have W6 := hid (show Wr p (pushNum (encB l (j + 1)) (zigN y)) w5.drew from W5.out)
        change Hid (Below w.heap.size w w5.drew) at L6
        have s6 : (pushNum (encB l (j + 1)) (zigN y)).2 ≤ 20000 := by have := bitLen_le64 (zigN y); simp only [pushNum]; omega
        generalize w5.drew = w6 at *
        go_wp2_with fail
        refine (wsigned_any p _ (v1 - v0) _ (by have := R1.out; have := R0.out; omega) (by have := R1.out; have := R0.out; omega) (by omega) W6.out).mono ?_
        rintro e w7 ⟨rfl, hb7, hw7⟩
        have L7 := hid (L6.out.trans (hb7.mono s1))
        have W7 := hid (show Wr p (encB l (j + 1 + 1)) w7 from by rw [encB_next, if_neg (by omega), HF.out, ← HV1.out, ← HV0.out]; exact hw7)
        clear hb7 hw7
        go_wp2
        go_roundw
        case rel => exact ⟨j + 1 + 1, hlt, by go_num, L7.out, W7.out⟩
        case measure => simp [intOf]; omega
    · have hkl : k = l.length - 1 := by omega
      have hkl' : ((k + 1 : Nat) : Int) = (l.length : Int) := by omega
      rw [hkl']
      obtain ⟨v, hp, ho, hR⟩ := W.out
      rw [hkl] at hp ho
      obtain ⟨ao, cc, rfl, _⟩ := (Sl.own ho).shape
      obtain ⟨a0, a1, a2, a3, a4⟩ := blk2 hp
      have O := hid ho
      clear hp ho hR hkl hkl'
      go_wp2
      go_ret2
      exact ⟨ao, cc, rfl, L.out, own_base O.out (by omega)⟩

/-- chunk.Encode. -/
theorem encode_any (v : Value) (l : List (Int × Int)) (w : World) (hl : l.length ≤ 20000000000000) (hb : Sl w 2 v l.length (sc l)) :
    Calls Try.prog 13 #[v] w (EncPost w (encV l)) := by
  by_cases hc : chkL l = 0
  · rw [show encV l = ((encB l (l.length - 1)).1, 0) by unfold encV; rw [if_pos hc]]
    exact encode_good v l w hb hc
  · rw [show encV l = ([], chkL l) by unfold encV; rw [if_neg hc]]
    exact encode_bad v l w hl hb hc
end Go.Proofs.Ytcnfhabljogniaa
