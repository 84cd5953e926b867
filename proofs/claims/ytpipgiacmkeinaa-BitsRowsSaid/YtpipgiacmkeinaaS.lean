/- The walk of BitsRows. -/
import Derived.Test.YtpipgiacmkeinaaR
import Derived.OpenShut
import Derived.Deep.RegionWith
namespace Go.Proofs.Ytpipgiacmkeinaa
open Go.RowKit

/-- the bits of the first i numbers of a row -/
def rowsTo (us : List Nat) : Nat → List UInt8 × Nat
  | 0 => ([], 0)
  | i + 1 => (numL (rowsTo us i).1 (rowsTo us i).2 (us.getD i 0), (rowsTo us i).2 + 7 + Lib.bitLen (us.getD i 0))
theorem rowsTo_Rt (us : List Nat) (i : Nat) : Rt (rowsTo us i).1 (rowsTo us i).2 := by
  induction i with
  | zero => exact Rt_nil
  | succ i ih => exact ((ih.putN _ 7).putN _ _)
theorem rowsTo_le (us : List Nat) (i : Nat) : (rowsTo us i).2 ≤ 71 * i := by
  induction i with
  | zero => exact Nat.le_refl _
  | succ i ih =>
    have := bitLen_le64 (us.getD i 0)
    show (rowsTo us i).2 + 7 + Lib.bitLen (us.getD i 0) ≤ _
    omega
theorem rowsTo_bits (us : List Nat) (i m : Nat) (h : i ≤ m) : (rowsTo us i).2 ≤ (rowsTo us m).2 ∧ ∀ j, j < (rowsTo us i).2 → bitAt (rowsTo us m).1 j = bitAt (rowsTo us i).1 j := by
  induction m with
  | zero => obtain rfl : i = 0 := by omega
            exact ⟨Nat.le_refl _, fun _ _ => rfl⟩
  | succ m ih =>
    by_cases hm : i = m + 1
    · subst hm; exact ⟨Nat.le_refl _, fun _ _ => rfl⟩
    · obtain ⟨h1, h2⟩ := ih (by omega)
      refine ⟨?_, fun j hj => ?_⟩
      · show _ ≤ (rowsTo us m).2 + 7 + Lib.bitLen (us.getD m 0)
        omega
      · exact ((numL_bits (rowsTo_Rt us m) (us.getD m 0)).1 j (by omega)).trans (h2 j hj)
/-- where a number stands, it is read -/
theorem rows_get (us : List Nat) (n j : Nat) (hj : j < n) (hu : us.getD j 0 < 18446744073709551616) :
    getNumV (rowsTo us n).1 ((rowsTo us n).2 : Nat) ((rowsTo us j).2 : Nat) = (us.getD j 0, (((rowsTo us (j + 1)).2 : Nat) : Int), (0 : Int)) := by
  have hR := rowsTo_Rt us n
  have hb := numL_bits (rowsTo_Rt us j) (us.getD j 0)
  have hn : (rowsTo us (j + 1)).2 = (rowsTo us j).2 + 7 + Lib.bitLen (us.getD j 0) := rfl
  have h1 : (rowsTo us (j + 1)).1 = numL (rowsTo us j).1 (rowsTo us j).2 (us.getD j 0) := rfl
  obtain ⟨hle, hm⟩ := rowsTo_bits us (j + 1) n (by omega)
  rw [h1] at hm
  have h64 := bitLen_le64 (us.getD j 0)
  have h7 := bitLen_lt (us.getD j 0) hu
  generalize rowsTo us n = F at *
  generalize (rowsTo us (j + 1)).2 = M at *
  generalize (rowsTo us j).1 = R at *
  generalize (rowsTo us j).2 = N at *
  generalize us.getD j 0 = u at *
  have g1 : getV F.1 (F.2 : Nat) (N : Nat) 7 = (Lib.bitLen u, 0) := by
    have := getV_in hR N 7 (by omega) (by omega)
    rw [getN_of_bits F.1 N 7 (Lib.bitLen u) (by have : (2 : Nat) ^ 7 = 128 := by decide
                                                omega) (fun t ht => by rw [hm _ (by omega), hb.2.1 t ht, show 7 - 1 - t = 6 - t by omega])] at this
    exact this
  have g2 : getV F.1 (F.2 : Nat) ((N : Int) + 7) (Lib.bitLen u : Nat) = (u, 0) := by
    have := getV_in hR (N + 7) (Lib.bitLen u) h64 (by omega)
    rw [getN_of_bits F.1 (N + 7) (Lib.bitLen u) u h7 (fun t ht => by rw [hm _ (by omega), hb.2.2 t ht])] at this
    rw [show ((N + 7 : Nat) : Int) = (N : Int) + 7 by omega] at this
    exact this
  unfold getNumV
  rw [g1]
  simp only [ne_eq, not_true_eq_false, if_false]
  rw [if_neg (by omega), g2]
  simp only [ne_eq, not_true_eq_false, if_false]
  refine Prod.ext rfl (Prod.ext ?_ rfl)
  show (N : Int) + 7 + (Lib.bitLen u : Nat) = (M : Nat)
  omega
theorem rows_end (R : List UInt8) (N : Nat) (h : Rt R N) : getNumV R N N = (0, 0, (4 : Int)) := by
  have g1 : getV R (N : Nat) (N : Nat) 7 = (0, 4) := by
    unfold getV
    rw [if_neg (by rw [Rt_rightB h]; simp), if_pos (by omega)]
  unfold getNumV
  rw [g1]
  rfl
theorem nats_of (zs : List Int) (hf : ∀ n ∈ zs, (Lit.int .u64 n).wf = true) : ∃ us : List Nat, zs = us.map (fun u : Nat => (u : Int)) ∧ ∀ j, us.getD j 0 < 18446744073709551616 := by
  induction zs with
  | nil => exact ⟨[], rfl, fun j => by simp⟩
  | cons z zs ih =>
    obtain ⟨us, h1, h2⟩ := ih fun n hn => hf n (List.mem_cons_of_mem _ hn)
    have hz := bounds_u64 (hf z (List.mem_cons_self ..))
    refine ⟨z.toNat :: us, ?_, fun j => ?_⟩
    · rw [List.map_cons, ← h1, Int.toNat_of_nonneg hz.1]
    · cases j with
      | zero => simp; omega
      | succ j => simpa using h2 j

/-- What the law's x holds: bits in memory of the call's own. -/
def RowRel (w : World) (R : List UInt8) (N : Nat) (wr : World) : Prop := ∃ ao c, w.heap.size < wr.heap.size ∧ Below w.heap.size w wr ∧
  wr.heap[w.heap.size]? = some (.cells #[.slice ao R.length c, .int .i64 (N : Nat)] 24 (0, 0)) ∧ wr.ownsRow w.heap.size 5 1 (.slice ao R.length c) R.length (bc R)
theorem RowRel.a {w w5 : World} {h N c : Nat} {R : List UInt8} {ao : Option Addr} {x1 x2 y1 y2 : Value} (hh : w.heap.size < h) (hs : h ≤ w5.heap.size) (L : Below w.heap.size w w5)
    (B5 : w5.heap[w.heap.size]? = some (.cells #[x1, x2] 24 (0, 0))) (Y5 : w5.heap[h]? = some (.cells #[y1, y2] 24 (0, 0))) (O5 : w5.ownsRow w.heap.size 5 1 (.slice ao R.length c) R.length (bc R)) :
    RowRel w R N ((((w5.setCell ⟨h, 0, none⟩ (.slice ao R.length c)).setCell ⟨h, 1, none⟩ (.int .i64 (N : Nat))).setCell ⟨w.heap.size, 0, none⟩ (.slice ao R.length c)).setCell ⟨w.heap.size, 1, none⟩ (.int .i64 (N : Nat))) := by
  have n1 := own_ne_blk O5 B5 (by decide)
  have n2 := own_ne_blk O5 Y5 (by decide)
  refine ⟨ao, c, by simp [World.setCell]; omega, (((L.setCell (by show _ ≤ h; omega) _).setCell (by show _ ≤ h; omega) _).setCell (Nat.le_refl _) _).setCell (Nat.le_refl _) _, ?_, own_setOther (own_setOther (own_setOther (own_setOther O5 _ _ n2) _ _ n2) _ _ n1) _ _ n1⟩
  exact blk_setCell (blk_setCell (blk_setCell_other (blk_setCell_other B5 _ _ (by show _ ≠ h; omega)) _ _ (by show _ ≠ h; omega)) 0 _) 1 _
theorem RowRel.b {w w5 : World} {N c : Nat} {R : List UInt8} {ao : Option Addr} {x1 x2 : Value} {o : Obj} (hs : w.heap.size < w5.heap.size) (L : Below w.heap.size w w5)
    (B5 : w5.heap[w.heap.size]? = some (.cells #[x1, x2] 24 (0, 0))) (O5 : w5.ownsRow w.heap.size 5 1 (.slice ao R.length c) R.length (bc R)) :
    RowRel w R N (((w5.setCell ⟨w.heap.size, 0, none⟩ (.slice ao R.length c)).setCell ⟨w.heap.size, 1, none⟩ (.int .i64 (N : Nat))).alloc o) := by
  have n1 := own_ne_blk O5 B5 (by decide)
  refine ⟨ao, c, by simp [World.setCell]; omega, ((L.setCell (Nat.le_refl _) _).setCell (Nat.le_refl _) _).alloc (by simp [World.setCell]; omega) _, ?_, (own_setOther (own_setOther O5 _ _ n1) _ _ n1).alloc _⟩
  exact blk_alloc (blk_setCell (blk_setCell B5 0 _) 1 _) _

set_option maxRecDepth 100000 in
set_option maxHeartbeats 4000000 in
theorem walk_BitsRows (w : World) (v : Value) (zs : List Int) (hb : Sl w 1 v zs.length (zs.map (Value.int .u64))) (hf : ∀ n ∈ zs, (Lit.int .u64 n).wf = true) (hl : zs.length * 8 ≤ 140737488351232) :
    Calls Try.prog 10 #[v] w fun e w' => e = .returned (.bool true) ∧ Below w.heap.size w w' := by
  obtain ⟨us, rfl, hu⟩ := nats_of zs hf
  rw [List.length_map] at hb hl
  have hcell0 : ∀ k, k < us.length → ∃ b off c, v = .slice (some ⟨b, off, none⟩) us.length c ∧ us.length ≤ c ∧ b < w.heap.size ∧ w.cell? ⟨b, off + k, none⟩ = some (.int .u64 ((us.getD k 0 : Nat) : Int)) := by
    intro k hk
    obtain ⟨b, off, c, rfl, hlc, _, hbl, hcell⟩ := hb.form (by decide) (by omega)
    refine ⟨b, off, c, rfl, hlc, hbl, ?_⟩
    rw [hcell k (by omega)]
    simp [List.getD, hk]
  obtain ⟨ao, c, rfl, _, _, _⟩ := hb.shape
  have HC := hid hcell0; have HU := hid hu
  have hlen : us.length ≤ 17592186043904 := by omega
  clear hcell0 hu hb hf hl
  go_enter Try.func10, Try.ntmps10
  go_wp2
  go_loopw [4, 5, 6] (fun i _ _ wr => ∃ k, k ≤ us.length ∧ i = .int .i64 ((k : Nat) : Int) ∧ RowRel w (rowsTo us k).1 (rowsTo us k).2 wr)
    (fun i _ _ _ => us.length - (intOf i).toNat)
  case atStart => exact ⟨0, Nat.zero_le _, rfl, none, 0, by simp, (Below.refl _ _).alloc (Nat.le_refl _) _, blk_new w _ _ rfl, World.ownsRow_nil _ _ _ _⟩
  case round =>
    obtain ⟨k, hk, rfl, ao2, c2, hsz, hbel, hB, hown⟩ := hrel
    obtain ⟨a0, a1, a2, a3, a4⟩ := blk2 hB
    have B := hid hB; have L := hid hbel; have O := hid hown
    clear hB hbel hown
    by_cases hlt : k < us.length
    · obtain ⟨b, off, c', hv, hlc, hbl, hcu⟩ := HC.out k hlt
      simp only [Value.slice.injEq] at hv
      obtain ⟨rfl, _, rfl⟩ := hv
      have hcw : wr.cell? ⟨b, off + k, none⟩ = some (.int .u64 ((us.getD k 0 : Nat) : Int)) := (L.out.cell (p := ⟨b, off + k, none⟩) hbl).trans hcu
      have hRt := rowsTo_Rt us k
      have hle := rowsTo_le us k
      have hRl := hRt.1
      have hP := fun wx (hx : Sl wx 1 (.slice ao2 (rowsTo us k).1.length c2) (rowsTo us k).1.length (bc (rowsTo us k).1)) => putNum_any (.slice ao2 (rowsTo us k).1.length c2) (rowsTo us k).1 ((rowsTo us k).2 : Nat) (us.getD k 0) wx (by omega) (by omega) (HU.out k) (by omega) hx
      have e1 : putNumV (rowsTo us k).1 ((rowsTo us k).2 : Nat) (us.getD k 0) = ((rowsTo us (k + 1)).1, (((rowsTo us (k + 1)).2 : Nat) : Int), (0 : Int)) := by
        unfold putNumV
        rw [if_neg (by rw [Rt_rightB hRt]; decide)]
        rfl
      rw [e1] at hP
      have HP := hid hP
      clear hP e1 hRt hle hRl hcu
      generalize us.getD k 0 = u at *
      generalize (rowsTo us k).1 = R at *
      generalize (rowsTo us k).2 = N at *
      generalize hR1 : (rowsTo us (k + 1)).1 = R1 at *
      generalize hN1 : (rowsTo us (k + 1)).2 = N1 at *
      have HR1 := hid hR1; have HN1 := hid hN1
      clear hR1 hN1
      go_wp2_with fail
      have hA : ∀ W, W.heap = (wr.alloc (.cells #[.slice none 0 0, .int .i64 0] 24)).heap → Below wr.heap.size wr W → Calls Try.prog 28 #[.agg #[.slice ao2 R.length c2, .int .i64 (N : Nat)], .int .u64 (u : Nat)] W fun e w' => ∃ ao c, e = .returned (.tuple #[.agg #[.slice ao R1.length c, .int .i64 (N1 : Nat)], .int .i64 0]) ∧ Below wr.heap.size wr w' ∧ w'.ownsRow w.heap.size 5 1 (.slice ao R1.length c) R1.length (bc R1) ∧ w'.heap[wr.heap.size]? = some (.cells #[.slice none 0 0, .int .i64 0] 24 (0, 0)) := fun W hW hx => (HP.out W ((Sl.own O.out).below hx (fun _ _ h => h))).mono (fun e w' h => by
        obtain ⟨ao, c, he, h1, h2⟩ := h
        refine ⟨ao, c, he, hx.trans (h1.mono hx.size), own_base h2 (Nat.le_trans (Nat.le_of_lt hsz) hx.size), ?_⟩
        refine blk_below (w := W) ?_ h1 ?_
        · rw [hW]; exact blk_new wr _ _ rfl
        · rw [hW]; simp)
      have hB1 : ∀ W, Below wr.heap.size wr W → Calls Try.prog 28 #[.agg #[.slice ao2 R.length c2, .int .i64 (N : Nat)], .int .u64 (u : Nat)] W fun e w' => ∃ ao c, e = .returned (.tuple #[.agg #[.slice ao R1.length c, .int .i64 (N1 : Nat)], .int .i64 0]) ∧ Below wr.heap.size wr w' ∧ w'.ownsRow w.heap.size 5 1 (.slice ao R1.length c) R1.length (bc R1) := fun W hx => (HP.out W ((Sl.own O.out).below hx (fun _ _ h => h))).mono (fun e w' h => by
        obtain ⟨ao, c, he, h1, h2⟩ := h
        exact ⟨ao, c, he, hx.trans (h1.mono hx.size), own_base h2 (Nat.le_trans (Nat.le_of_lt hsz) hx.size)⟩)
      have hbw : b < wr.heap.size := by omega
      have A1 := hid (hA _ rfl ((Below.refl _ _).alloc (Nat.le_refl _) _))
      have A2 := hid (hA (wr.alloc (.cells #[.slice none 0 0, .int .i64 0] 24)).drew rfl (((Below.refl _ _).alloc (Nat.le_refl _) _).drew))
      have A3 := hid (hA (wr.drew.alloc (.cells #[.slice none 0 0, .int .i64 0] 24)) rfl (((Below.refl _ _).drew).alloc (Nat.le_refl _) _))
      have B1 := hid (hB1 wr (Below.refl _ _))
      have B2 := hid (hB1 wr.drew (Below.refl _ _).drew)
      clear hA hB1
      go_region_with (first
        | (go_at_call 28; (first | (with_reducible refine A1.out.mono ?_) | (with_reducible refine A2.out.mono ?_) | (with_reducible refine A3.out.mono ?_)); rintro e w5 ⟨ao5, c5, rfl, hb5, hown5, hbox5⟩; have x5 := blk_below B.out hb5 a4; obtain ⟨b0, b1, b2, b3, b4⟩ := blk2 x5; obtain ⟨d0, d1, d2, d3, d4⟩ := blk2 hbox5; have Y5 := hid hbox5; have B5 := hid x5; have L5 := hid hb5; have O5 := hid hown5; have s5 := hb5.size; clear x5 hb5 hown5 hbox5)
        | (go_at_call 28; (first | (with_reducible refine B1.out.mono ?_) | (with_reducible refine B2.out.mono ?_)); rintro e w5 ⟨ao5, c5, rfl, hb5, hown5⟩; have x5 := blk_below B.out hb5 a4; obtain ⟨b0, b1, b2, b3, b4⟩ := blk2 x5; have B5 := hid x5; have L5 := hid hb5; have O5 := hid hown5; have s5 := hb5.size; clear x5 hb5 hown5))
      all_goals go_wp2_with fail
      all_goals go_roundw
      all_goals first
        | (case measure => simp [intOf]; omega)
        | (case rel =>
            refine ⟨k + 1, by omega, by go_num, ?_⟩
            rw [HR1.out, HN1.out]
            first
              | (with_reducible exact RowRel.a hsz s5 (L.out.trans (L5.out.mono (Nat.le_of_lt hsz))) B5.out Y5.out O5.out)
              | (with_reducible exact RowRel.b (by omega) (L.out.trans (L5.out.mono (Nat.le_of_lt hsz))) B5.out O5.out))
    · obtain rfl : k = us.length := by omega
      clear hlt
      go_wp2
      obtain ⟨wo, rfl⟩ : ∃ wo : World, wo = wr := ⟨_, rfl⟩
      have hRn := rowsTo_Rt us us.length
      have hle := rowsTo_le us us.length
      have hRl := hRn.1
      have hget := fun j hj => rows_get us us.length j hj (HU.out j)
      have hend := rows_end _ _ hRn
      have hrise : ∀ j, j < us.length → (rowsTo us j).2 < (rowsTo us (j + 1)).2 := fun j _ => by
        show _ < (rowsTo us j).2 + 7 + _
        omega
      have hmono : ∀ j, j ≤ us.length → (rowsTo us j).2 ≤ (rowsTo us us.length).2 := fun j hj => (rowsTo_bits us j us.length hj).1
      have hG := fun a wx (hx : Sl wx 1 (.slice ao2 (rowsTo us us.length).1.length c2) (rowsTo us us.length).1.length (bc (rowsTo us us.length).1)) (h0 : -9223372036854775808 ≤ a) (h1 : a ≤ 9223372036854775807) => getNum_any (.slice ao2 (rowsTo us us.length).1.length c2) (rowsTo us us.length).1 wx (by omega) hx ((rowsTo us us.length).2 : Nat) a (by omega) (by omega) h0 h1
      generalize hR1 : (rowsTo us us.length).1 = R at *
      generalize hN1 : (rowsTo us us.length).2 = N at *
      have HG := hid hG; have HGet := hid hget; have HEnd := hid hend; have HRise := hid hrise; have HMono := hid hmono
      have hsn : (rowsTo us us.length).2 = N := hN1
      have HSN := hid hsn
      clear hG hget hend hrise hmono hRn hRl hR1 hN1 hsn a0 a1 a2 a3 a4
      go_loopw [7, 8, 9, 10, 11] (fun at_ i _ _ _ wr => ∃ j, j ≤ us.length ∧ at_ = .int .i64 (((rowsTo us j).2 : Nat) : Int) ∧ i = .int .i64 ((j : Nat) : Int) ∧ Below wo.heap.size wo wr)
        (fun _ i _ _ _ _ => us.length - (intOf i).toNat)
      case atStart => exact ⟨0, Nat.zero_le _, rfl, rfl, Below.refl _ _⟩
      case round =>
        obtain ⟨j, hj, rfl, rfl, hbel⟩ := hrel
        have X2 := hid (blk_below B.out hbel hsz)
        obtain ⟨a0, a1, a2, a3, a4⟩ := blk2 X2.out
        have L2 := hid hbel; have s2 := hbel.size
        clear hbel
        by_cases hlt : j < us.length
        · obtain ⟨b, off, c', hv, hlc, hbl, hcu⟩ := HC.out j hlt
          simp only [Value.slice.injEq] at hv
          obtain ⟨rfl, _, rfl⟩ := hv
          have hcl := fun (W : World) (hx : Below wo.heap.size wo W) => ((L.out.trans (hx.mono (Nat.le_of_lt hsz))).cell (p := ⟨b, off + j, none⟩) hbl).trans hcu
          have HCL := hid hcl
          have hg := HGet.out j hlt
          have hr := HRise.out j hlt
          have hm := HMono.out j hj
          have hm1 := HMono.out (j + 1) (by omega)
          have h2 := HG.out (((rowsTo us j).2 : Nat) : Int) wr ((Sl.own O.out).below L2.out (fun _ _ h => h)) (by omega) (by omega)
          rw [hg] at h2
          have H2 := hid h2
          clear hg h2 hcl hcu
          generalize us.getD j 0 = u at *
          generalize (rowsTo us j).2 = N0 at *
          generalize hN1 : (rowsTo us (j + 1)).2 = N1 at *
          have HN1 := hid hN1; clear hN1
          have hd1 : decide ((N1 : Int) ≤ (N0 : Int)) = false := by simp; omega
          have hd2 : decide (N1 ≤ N0) = false := by simp; omega
          go_wp2_with fail
          refine H2.out.mono ?_
          rintro e w3 ⟨rfl, hb3⟩
          have L3 := hid (L2.out.trans (hb3.mono s2)); have s3 := hb3.size
          have hcw := HCL.out w3 L3.out
          clear hb3 a0 a1 a2 a3 a4
          go_wp2
          go_roundw
          case rel => exact ⟨j + 1, by omega, by rw [HN1.out], by go_num, L3.out⟩
          case measure => simp [intOf]; omega
        · obtain rfl : j = us.length := by omega
          have h2 := HG.out ((N : Nat) : Int) wr ((Sl.own O.out).below L2.out (fun _ _ h => h)) (by omega) (by omega)
          rw [HEnd.out] at h2
          have H2 := hid h2
          rw [HSN.out]
          clear h2 hlt
          go_wp2_with fail
          refine H2.out.mono ?_
          rintro e w3 ⟨rfl, hb3⟩
          have X3 := hid (blk_below X2.out hb3 (by omega))
          have L3 := hid (L2.out.trans (hb3.mono s2)); have s3 := hb3.size
          clear hb3 a0 a1 a2 a3 a4
          obtain ⟨a0, a1, a2, a3, a4⟩ := blk2 X3.out
          go_wp2_with fail
          refine (lives_any w3).mono ?_
          rintro e w4 ⟨rfl, hb4⟩
          have L4 := hid hb4; clear hb4
          go_wp2
          go_ret
          exact ⟨rfl, (L.out.trans (L3.out.mono (Nat.le_of_lt hsz))).trans (L4.out.mono (by omega))⟩
end Go.Proofs.Ytpipgiacmkeinaa
