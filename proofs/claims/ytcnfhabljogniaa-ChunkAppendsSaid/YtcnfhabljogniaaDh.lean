/- sort.Search; chunk.Seek; the walk of ChunkSeeks. -/
import Derived.Test.YtcnfhabljogniaaDf
namespace Go.Proofs.Ytcnfhabljogniaa
open Go.RowKit
set_option linter.unusedSimpArgs false

/-- what Seek's closure captures: the samples, the time -/
def SkW (p q : Nat) (ao : Option Addr) (c : Nat) (l : List (Int × Int)) (t : Int) (w : World) : Prop :=
  w.heap[p]? = some (.cells #[.slice ao l.length c] 22 (0, 0)) ∧ w.heap[q]? = some (.cells #[.int .i64 t] 3 (0, 0)) ∧ Sl w 2 (.slice ao l.length c) l.length (sc l)

set_option maxRecDepth 100000 in
set_option maxHeartbeats 1000000 in
theorem seek1_any (p q : Nat) (ao : Option Addr) (c : Nat) (l : List (Int × Int)) (t : Int) (w : World) (h : SkW p q ao c l t w) (k : Nat) (hk : k < l.length) :
    Calls Try.prog 39 #[.int .i64 (k : Int), .pointer (some ⟨p, 0, none⟩), .pointer (some ⟨q, 0, none⟩)] w fun e w' => e = .returned (.bool (decide (t ≤ (l.getD k (0, 0)).1))) ∧ Below w.heap.size w w' := by
  obtain ⟨hp, hq, hs⟩ := h
  obtain ⟨p0, p1, p2⟩ := blk1 hp
  obtain ⟨q0, q1, q2⟩ := blk1 hq
  obtain ⟨b, off, rfl, _, hcell⟩ := sc_cells hs (by omega)
  have hc := (hcell k hk).1
  have i0 : (0 : Int) ≤ (k : Int) := by omega
  have i1 : (k : Int) < (l.length : Int) := by omega
  generalize (l.getD k (0, 0)).1 = T at *
  clear hcell hs hp hq
  go_enter Try.func39, Try.ntmps39
  go_wp2
  go_quiet (fail)
  go_wp2
  go_ret
  exact ⟨rfl, by first | exact Below_drewN (Below.refl _ _) _ | exact Below_drewN (Below_drewN (Below.refl _ _) _) _⟩

/-- the place of a time -/
def SkAt (l : List (Int × Int)) (t : Int) (k : Nat) : Prop := k ≤ l.length ∧ (∀ x, x < k → (l.getD x (0, 0)).1 < t) ∧ ∀ x, k ≤ x → x < l.length → t ≤ (l.getD x (0, 0)).1

theorem SkW.below {p q : Nat} {ao : Option Addr} {c : Nat} {l : List (Int × Int)} {t : Int} {w w' : World} (h : SkW p q ao c l t w) (hb : Below w.heap.size w w') : SkW p q ao c l t w' :=
  ⟨blk_below h.1 hb (lt_of_blk h.1), blk_below h.2.1 hb (lt_of_blk h.2.1), h.2.2.below hb (fun _ _ h => h)⟩

set_option maxRecDepth 100000 in
set_option maxHeartbeats 2000000 in
theorem search_any (p q : Nat) (ao : Option Addr) (c : Nat) (l : List (Int × Int)) (t : Int) (w : World) (h : SkW p q ao c l t w) (hl : l.length ≤ 1000000) (hmono : ∀ x y, x ≤ y → y < l.length → (l.getD x (0, 0)).1 ≤ (l.getD y (0, 0)).1) :
    Calls Try.prog 38 #[.int .i64 (l.length : Int), .func (Fn.func 39) #[] #[.pointer (some ⟨p, 0, none⟩), .pointer (some ⟨q, 0, none⟩)]] w fun e w' => ∃ k, e = .returned (.int .i64 ((k : Nat) : Int)) ∧ Below w.heap.size w w' ∧ SkAt l t k := by
  have H := hid h
  have HM := hid hmono
  clear h hmono
  go_enter Try.func38, Try.ntmps38
  go_wp2
  go_loopw [5, 6, 7] (fun iv jv _ wr => ∃ i j : Nat, i ≤ j ∧ j ≤ l.length ∧ iv = .int .i64 (i : Int) ∧ jv = .int .i64 (j : Int) ∧ Below w.heap.size w wr ∧ (∀ x, x < i → (l.getD x (0, 0)).1 < t) ∧ ∀ x, j ≤ x → x < l.length → t ≤ (l.getD x (0, 0)).1)
    (fun iv jv _ _ => (intOf jv).toNat - (intOf iv).toNat)
  case atStart => exact ⟨0, l.length, Nat.zero_le _, Nat.le_refl _, rfl, rfl, Below.refl _ _, fun x hx => by omega, fun x h1 h2 => by omega⟩
  case round =>
    obtain ⟨i, j, hij, hj, rfl, rfl, hbel, hlo, hhi⟩ := hrel
    have L := hid hbel; have LO := hid hlo; have HI := hid hhi
    clear hbel hlo hhi
    by_cases hlt : i < j
    · obtain ⟨m, hm⟩ : ∃ m, m = (i + j) / 2 := ⟨_, rfl⟩
      have hmi : i ≤ m ∧ m < j := by omega
      have kw : IntKind.i64.wrap ((i : Int) + (j : Int)) = (i : Int) + (j : Int) := IntWalk.i64_in _ (by omega)
      have ku : IntKind.u64.wrap ((i : Int) + (j : Int)) = (i : Int) + (j : Int) := by rw [IntKind.wrap_u64]; omega
      have km : ((i : Int) + (j : Int)) / 2 = (m : Int) := by omega
      have HMM := hid hm
      clear hm
      go_wp2_with fail
      refine (seek1_any p q ao c l t wr (H.out.below L.out) m (by omega)).mono ?_
      rintro e w5 ⟨rfl, hb5⟩
      have L5 := hid (L.out.trans (hb5.mono L.out.size))
      clear hb5
      rcases Bool.eq_false_or_eq_true (decide (t ≤ (l.getD m (0, 0)).1)) with hd | hd
      · rw [hd]
        have hT := hid (of_decide_eq_true hd)
        clear hd
        go_wp2
        go_roundw
        case rel => exact ⟨i, m, hmi.1, by omega, rfl, rfl, L5.out, LO.out, fun x h1 h2 => Int.le_trans hT.out (HM.out m x h1 h2)⟩
        case measure => simp [intOf]; omega
      · rw [hd]
        have hT := hid (of_decide_eq_false hd)
        clear hd
        have kw2 : IntKind.i64.wrap ((m : Int) + 1) = (m : Int) + 1 := IntWalk.i64_in _ (by omega)
        go_wp2
        go_roundw
        case rel => exact ⟨m + 1, j, by omega, hj, by go_num, rfl, L5.out, fun x hx => by have h1 := HM.out x m (by omega) (by omega); have h2 := hT.out; omega, HI.out⟩
        case measure => simp [intOf]; omega
    · obtain rfl : i = j := by omega
      go_wp2
      go_ret
      exact ⟨i, rfl, L.out, hj, LO.out, HI.out⟩

theorem chk_mono {l : List (Int × Int)} (h : chkL l = 0) : ∀ x y, x ≤ y → y < l.length → (l.getD x (0, 0)).1 ≤ (l.getD y (0, 0)).1 := by
  intro x y hxy hy
  induction y with
  | zero => obtain rfl : x = 0 := by omega
            exact Int.le_refl _
  | succ y ih =>
    by_cases hx : x = y + 1
    · subst hx; exact Int.le_refl _
    · have h1 := ih (by omega) (by omega)
      have h2 := (chk_at h (y + 1) hy).2 (by omega)
      rw [show y + 1 - 1 = y by omega] at h2
      omega

set_option maxRecDepth 100000 in
set_option maxHeartbeats 1000000 in
theorem seek_any (v : Value) (b : List UInt8) (t : Int) (w : World) (hl : b.length ≤ 150000000000000) (hb : Sl w 1 v b.length (bc b)) :
    Calls Try.prog 23 #[v, .int .i64 t] w fun e w' => ∃ k, e = .returned (.tuple #[.int .i64 ((k : Nat) : Int), .int .i64 (decV b).2]) ∧ Below w.heap.size w w' ∧ SkAt (decV b).1 t k := by
  have hmf : ∀ (fn : Fn) (first cap : Array Value) (w : World), (Instr.makeFunc fn first cap).run Try.prog w = .ok (.func fn first cap) w := fun _ _ _ _ => rfl
  have BQ := hid (blk_new w (.cells #[.int .i64 t] 3) w.heap.size rfl)
  have HD := hid (decode_any v b (w.alloc (.cells #[.int .i64 t] 3)) hl (hb.alloc _))
  have hmono : ∀ x y, x ≤ y → y < (decV b).1.length → ((decV b).1.getD x (0, 0)).1 ≤ ((decV b).1.getD y (0, 0)).1 := by
    rcases decV_err b with h5 | h0
    · rw [h5]; intro x y _ h; simp at h
    · exact chk_mono (dec_len (show decV b = ((decV b).1, 0) from Prod.ext rfl h0))
  have hlen : (decV b).1.length ≤ 120 := by
    rcases decV_err b with h5 | h0
    · rw [h5]; simp
    · exact (chkL_zero (dec_len (show decV b = ((decV b).1, 0) from Prod.ext rfl h0))).2.1
  have HMO := hid hmono
  clear hb hmono
  generalize decV b = r at *
  go_enter Try.func23, Try.ntmps23
  go_wp2_with fail
  refine HD.out.mono ?_
  rintro e w1 ⟨ao1, c1, rfl, hb1, hown1⟩
  have L1 := hid (((Below.refl w.heap.size w).alloc (Nat.le_refl _) (.cells #[.int .i64 t] 3)).trans (hb1.mono (by simp)))
  have B1 := hid (blk_below BQ.out hb1 (by simp))
  have O1 := hid hown1
  clear hb1 hown1
  have hsk : SkW w1.heap.size w.heap.size ao1 c1 r.1 t (w1.alloc (.cells #[.slice ao1 r.1.length c1] 22)) := ⟨blk_new w1 _ _ rfl, blk_alloc B1.out _, (Sl.own O1.out).alloc _⟩
  have L2 := hid (L1.out.alloc L1.out.size (.cells #[.slice ao1 r.1.length c1] 22))
  have hS := search_any w1.heap.size w.heap.size ao1 c1 r.1 t _ hsk (by omega) HMO.out
  have HS := hid hS
  clear hS hsk
  go_wp2_with fail
  refine HS.out.mono ?_
  rintro e w3 ⟨k, rfl, hb3, hsk⟩
  have L3 := hid (L2.out.trans (hb3.mono L2.out.size))
  have K := hid hsk
  clear hb3 hsk
  go_wp2
  go_ret2
  exact ⟨k, rfl, L3.out, K.out⟩

set_option maxRecDepth 100000 in
set_option maxHeartbeats 2000000 in
theorem walk_ChunkSeeks (w : World) (v : Value) (l : List (Int × Int)) (hb : Sl w 2 v l.length (sc l)) (_h64 : S64 l) (hl : l.length ≤ 8796093022208) (t : Int) (_h0 : -9223372036854775808 ≤ t) (_h1 : t ≤ 9223372036854775807) :
    Calls Try.prog 10 #[v, .int .i64 t] w fun e w' => e = .returned (.bool true) ∧ Below w.heap.size w w' := by
  have Hb := hid hb
  have HE := hid (encode_any v l w (by omega) hb)
  clear hb
  by_cases hc : chkL l = 0
  · have hcz := chkL_zero hc
    have hpos := hcz.1
    have h120 := hcz.2.1
    have hFl := enc_len l
    rw [encV_ok hc] at HE hFl
    simp only at hFl
    have HD := hid (enc_dec hc rfl)
    obtain ⟨ao, c, rfl, _, _, _⟩ := Hb.out.shape
    obtain ⟨b, off, rfl, hbl, hcell⟩ := sc_cells Hb.out hpos
    have HCL := hid hcell
    clear hcz hc hcell
    generalize (encB l (l.length - 1)).1 = F at *
    go_enter Try.func10, Try.ntmps10
    go_wp2_with fail
    refine HE.out.mono ?_
    rintro e w1 ⟨ao1, c1, rfl, hb1, hown1⟩
    have L1 := hid hb1; have O1 := hid hown1
    clear hb1 hown1
    go_wp2_with fail
    have hS := seek_any _ F t w1 (by omega) (Sl.own O1.out)
    rw [HD.out] at hS
    refine hS.mono ?_
    rintro e w2 ⟨k, rfl, hb2, hsk⟩
    have L2 := hid (L1.out.trans (hb2.mono L1.out.size))
    have hsk' : SkAt l t k := hsk
    have hkl := hsk'.1
    have K := hid hsk'
    clear hsk'
    clear hb2 hsk hS
    have d1 : decide ((k : Int) < 0) = false := decide_eq_false (by omega)
    have d2 : decide ((l.length : Int) < (k : Int)) = false := decide_eq_false (by omega)
    have d2' : decide (l.length < k) = false := decide_eq_false (by omega)
    go_wp2
    go_loopw [9] (fun i wr => ∃ j : Nat, j ≤ l.length ∧ i = .int .i64 (j : Int) ∧ Below w.heap.size w wr)
      (fun i _ => l.length - (intOf i).toNat)
    case atStart => exact ⟨0, Nat.zero_le _, rfl, L2.out⟩
    case round =>
      obtain ⟨j, hj, rfl, hbel⟩ := hrel
      have L := hid hbel
      clear hbel
      by_cases hlt : j < l.length
      · have hcl : wr.cell? ⟨b, off + j * 2, none⟩ = some (.int .i64 (l.getD j (0, 0)).1) := by rw [World.cell?_of_block (L.out.block b hbl)]; exact (HCL.out j hlt).1
        have i0 : (0 : Int) ≤ (j : Int) := by omega
        have i1 : (j : Int) < (l.length : Int) := by omega
        by_cases hjk : j < k
        · have e1 : decide ((l.getD j (0, 0)).1 < t) = true := decide_eq_true (K.out.2.1 j hjk)
          have e2 : decide ((j : Int) < (k : Int)) = true := decide_eq_true (by omega)
          have e2' : decide (j < k) = true := decide_eq_true (by omega)
          generalize (l.getD j (0, 0)).1 = T at *
          go_wp2
          go_roundw
          case rel => exact ⟨j + 1, hlt, by go_num, L.out⟩
          case measure => simp [intOf]; omega
        · have e1 : decide ((l.getD j (0, 0)).1 < t) = false := decide_eq_false (by have := K.out.2.2 j (by omega) hlt; omega)
          have e2 : decide ((j : Int) < (k : Int)) = false := decide_eq_false (by omega)
          have e2' : decide (j < k) = false := decide_eq_false (by omega)
          generalize (l.getD j (0, 0)).1 = T at *
          go_wp2
          go_roundw
          case rel => exact ⟨j + 1, hlt, by go_num, L.out⟩
          case measure => simp [intOf]; omega
      · obtain rfl : j = l.length := by omega
        go_wp2_with fail
        refine (lives_any wr).mono ?_
        rintro e w7 ⟨rfl, hb7⟩
        have L7 := hid (L.out.trans (hb7.mono L.out.size))
        clear hb7
        go_wp2
        go_ret
        exact ⟨rfl, L7.out⟩
  · have hE : encV l = ([], chkL l) := by unfold encV; rw [if_neg hc]
    rw [hE] at HE
    generalize chkL l = n at *
    have hne : (n != 0) = true := by simpa using hc
    clear hE hc
    go_enter Try.func10, Try.ntmps10
    go_wp2_with fail
    refine HE.out.mono ?_
    rintro e w1 ⟨ao1, c1, rfl, hb1, hown1⟩
    have L1 := hid hb1
    clear hb1 hown1
    go_wp2_with fail
    refine (lives_any w1).mono ?_
    rintro e w2 ⟨rfl, hb2⟩
    have L2 := hid (L1.out.trans (hb2.mono L1.out.size))
    clear hb2
    go_wp2
    go_ret
    exact ⟨rfl, L2.out⟩
end Go.Proofs.Ytcnfhabljogniaa
