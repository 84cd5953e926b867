/- the reference's product. -/
import Derived.Test.YtebjdiiogihcdaaRa
import Derived.StillTailTactics
namespace Go.Proofs.Ytebjdiiogihcdaa
open Go.RowKit
set_option linter.unusedSimpArgs false

theorem ic_set (l : List Nat) (j x : Nat) : (ic l).toArray.setIfInBounds j (.int .i64 (x : Int)) = (ic (l.set j x)).toArray := by
  simp [ic, List.map_set]
theorem getD_set_same (l : List Nat) (j x : Nat) (h : j < l.length) : (l.set j x).getD j 0 = x := by simp [h]
theorem getD_set_ne (l : List Nat) (j k x : Nat) (h : j ≠ k) : (l.set j x).getD k 0 = l.getD k 0 := by
  simp [List.getD_eq_getElem?_getD, List.getElem?_set, h]
/-- cells of digits -/
theorem ic_cell {w : World} {b : Nat} {cs : List Nat} (h : w.heap[b]? = some (.cells (ic cs).toArray 3 (0, 0))) (j : Nat) (hj : j < cs.length) : w.cell? ⟨b, j, none⟩ = some (.int .i64 ((cs.getD j 0 : Nat) : Int)) := by
  rw [cell_of_blk h]; simp only [List.getElem?_toArray]; exact ic_get cs j hj

theorem bound_set {K : Nat} {cs : List Nat} {t x : Nat} {j : Nat} (hb : ∀ m, cs.getD m 0 ≤ t * K) (hx : x ≤ K) : ∀ m, (cs.set j (cs.getD j 0 + x)).getD m 0 ≤ (t + 1) * K := by
  intro m
  rw [Nat.succ_mul]
  by_cases h : j = m
  · subst h
    by_cases hj : j < cs.length
    · rw [getD_set_same _ _ _ hj]; exact Nat.add_le_add (hb j) hx
    · rw [List.set_eq_of_length_le (by omega)]; exact Nat.le_trans (hb j) (Nat.le_add_right _ _)
  · rw [getD_set_ne _ _ _ _ h]; exact Nat.le_trans (hb m) (Nat.le_add_right _ _)

def zeros9 : List Nat := [0, 0, 0, 0, 0, 0, 0, 0, 0]
theorem zeros9_get (m : Nat) : zeros9.getD m 0 = 0 := by
  match m with
  | 0 | 1 | 2 | 3 | 4 | 5 | 6 | 7 | 8 => rfl
  | m + 9 => rfl
/-- what the first two loops keep -/
def PrW (wo : World) (g : Nat) (x y : List Nat) (i k : Nat) (w : World) : Prop :=
  ∃ cs : List Nat, w.heap[g]? = some (.cells (ic cs).toArray 3 (0, 0)) ∧ cs.length = 9 ∧ dval cs = part x y i k ∧ (∀ m, cs.getD m 0 ≤ (4 * i + k) * 1099511627776) ∧ wo.grownBy w (some g)
/-- what the third loop keeps -/
def CaW (wo : World) (g N i : Nat) (w : World) : Prop :=
  ∃ cs : List Nat, w.heap[g]? = some (.cells (ic cs).toArray 3 (0, 0)) ∧ cs.length = 9 ∧ dval cs = N ∧ (∀ m, m < i → cs.getD m 0 < 1048576) ∧ (cs.getD i 0 ≤ 40000000000000) ∧ (∀ m, i < m → cs.getD m 0 ≤ 20000000000000) ∧ wo.grownBy w (some g)

theorem infoIntR : (Try.prog.info? 3).map (fun i => (i.zero, i.size, i.bytes)) = some (some (.int .i64 0), 1, 8) := by kernel_rfl
theorem zeros_ic : madeCells #[.int .i64 0] 9 = (ic zeros9).toArray := by kernel_rfl

set_option maxRecDepth 100000 in
set_option maxHeartbeats 4000000 in
theorem product_any (a b : Nat) (ha : a ≤ 1152921504606846976) (hb : b ≤ 1152921504606846976) (w : World) :
    Calls Try.prog 56 #[.int .i64 (a : Int), .int .i64 (b : Int)] w fun e w' => ∃ g cs, e = .returned (.slice (some ⟨g, 0, none⟩) 9 9) ∧ Below w.heap.size w w' ∧ w'.heap[g]? = some (.cells (ic cs).toArray 3 (0, 0)) ∧ cs.length = 9 ∧ dval cs = a * b ∧ ∀ j, cs.getD j 0 < 1048576 := by
  obtain ⟨i0, hi, hz0, hz1, hz2⟩ := info_parts infoIntR
  have hmk : ∀ wx : World, (Instr.makeSlice 51 (.int .i64 9) (.int .i64 9)).run Try.prog wx = .ok (.slice (some ⟨wx.heap.size, 0, none⟩) 9 9) (wx.alloc (.cells (ic zeros9).toArray 3)) := by
    intro wx
    have h := run_make (P := Try.prog) wx 51 3 i0 (.int .i64 0) Try.underlying51 hi hz0 .i64 .i64 9 9 (by omega) (by omega) (by rw [hz2]; omega) (by omega)
    rw [h, hz1, ← zeros_ic]
    rfl
  clear hi hz0 hz1 hz2
  have DA := hid (fun w => digits_any a ha w); have DB := hid (fun w => digits_any b hb w)
  have XL := hid (fun i => dg_lt a i ha); have YL := hid (fun i => dg_lt b i hb)
  have XV := hid (dval_dg a); have YV := hid (dval_dg b)
  have X4 := hid (show (dg a).length = 4 from rfl); have Y4 := hid (show (dg b).length = 4 from rfl)
  unfold digsW at DA DB
  obtain ⟨x, hx⟩ : ∃ x, x = dg a := ⟨_, rfl⟩
  obtain ⟨y, hy⟩ : ∃ y, y = dg b := ⟨_, rfl⟩
  rw [← hx] at DA XV X4
  rw [← hy] at DB YV Y4
  simp only [← hx] at XL
  simp only [← hy] at YL
  clear hx hy
  obtain ⟨bx, hbx⟩ : ∃ v, v = (Obj.cells (ic x).toArray 3 : Obj) := ⟨_, rfl⟩
  obtain ⟨by', hby⟩ : ∃ v, v = (Obj.cells (ic y).toArray 3 : Obj) := ⟨_, rfl⟩
  rw [← hbx] at DA
  rw [← hby] at DB
  go_enter Try.func56, Try.ntmps56
  go_wp2_with fail
  refine (DA.out _).mono ?_
  rintro e wz ⟨rfl, hwz⟩
  subst wz
  go_wp2_with fail
  refine (DB.out _).mono ?_
  rintro e wz ⟨rfl, hwz⟩
  subst wz
  subst hbx hby
  have BX := hid (blk_alloc (blk_alloc (blk_new w (.cells (ic x).toArray 3) _ rfl) (.cells (ic y).toArray 3)) (.cells (ic zeros9).toArray 3))
  have BY := hid (blk_alloc (blk_new (w.alloc (.cells (ic x).toArray 3)) (.cells (ic y).toArray 3) (w.heap.size + 1) (by simp)) (.cells (ic zeros9).toArray 3))
  have BG := hid (blk_new ((w.alloc (.cells (ic x).toArray 3)).alloc (.cells (ic y).toArray 3)) (.cells (ic zeros9).toArray 3) (w.heap.size + 1 + 1) (by simp))
  have L0 := hid ((((Below.refl w.heap.size w).alloc (Nat.le_refl _) (.cells (ic x).toArray 3)).alloc (by simp) (.cells (ic y).toArray 3)).alloc (by simp; omega) (.cells (ic zeros9).toArray 3))
  go_wp2
  generalize ((w.alloc (.cells (ic x).toArray 3)).alloc (.cells (ic y).toArray 3)).alloc (.cells (ic zeros9).toArray 3) = wo at *
  obtain ⟨g, hg⟩ : ∃ g, g = w.heap.size + 1 + 1 := ⟨_, rfl⟩
  rw [← hg] at BG ⊢
  have HG := hid hg
  clear hg
  go_loopw [8, 9] (fun iv _ wr => ∃ n : Nat, n ≤ 4 ∧ iv = .int .i64 (n : Int) ∧ PrW wo g x y n 0 wr)
    (fun iv _ _ => 4 - (intOf iv).toNat)
  case atStart => exact ⟨0, by omega, rfl, zeros9, BG.out, rfl, by rw [part_start]; rfl, (fun m => by rw [zeros9_get]; exact Nat.zero_le _), ⟨rfl, rfl, rfl, Nat.le_refl _, fun _ _ _ => rfl⟩⟩
  case round =>
    obtain ⟨n, hn, rfl, hpr⟩ := hrel
    have PR := hid hpr
    clear hpr
    by_cases hlt : n < 4
    · have d1 : decide ((n : Int) < 4) = true := decide_eq_true (by omega)
      go_wp2
      go_loopw [9] (fun kv wr2 => ∃ m : Nat, m ≤ 4 ∧ kv = .int .i64 (m : Int) ∧ PrW wo g x y n m wr2)
        (fun kv _ => 4 - (intOf kv).toNat)
      case atStart => exact ⟨0, by omega, rfl, PR.out⟩
      case round =>
        obtain ⟨m, hm, rfl, hpr⟩ := hrel
        clear PR
        have PR := hid hpr
        clear hpr
        by_cases hlt2 : m < 4
        · have d2 : decide ((m : Int) < 4) = true := decide_eq_true (by omega)
          obtain ⟨cs, hcs, hc9, hcv, hcb, hgr⟩ := PR.out
          have CS := hid hcs; have CV := hid hcv; have CB := hid hcb; have GR := hid hgr; have C9 := hid hc9
          have x0 : wr.cell? ⟨w.heap.size, n, none⟩ = some (.int .i64 ((x.getD n 0 : Nat) : Int)) := ic_cell (blk_grown BX.out hgr (by have := HG.out; simp; omega)) n (by rw [X4.out]; omega)
          have y0 : wr.cell? ⟨w.heap.size + 1, m, none⟩ = some (.int .i64 ((y.getD m 0 : Nat) : Int)) := ic_cell (blk_grown BY.out hgr (by have := HG.out; simp; omega)) m (by rw [Y4.out]; omega)
          have c0 : wr.cell? ⟨g, n + m, none⟩ = some (.int .i64 ((cs.getD (n + m) 0 : Nat) : Int)) := ic_cell hcs (n + m) (by omega)
          have f0 := free_of_blk hcs (n + m)
          have hxl := XL.out n; have hyl := YL.out m; have hcl := hcb (n + m)
          have hxy : x.getD n 0 * y.getD m 0 ≤ 1099511627776 := by have h1 : x.getD n 0 * y.getD m 0 ≤ 1048576 * 1048576 := Nat.mul_le_mul (by omega) (by omega); omega
          have BS := hid (bound_set (j := n + m) hcb hxy)
          have PN := hid (part_next x y n m (by rw [Y4.out]; omega))
          have DS := hid (dval_set cs (n + m) (cs.getD (n + m) 0 + x.getD n 0 * y.getD m 0) (by omega))
          have CM := hid (ic_set cs (n + m) (cs.getD (n + m) 0 + x.getD n 0 * y.getD m 0))
          have hcl2 : cs.getD (n + m) 0 ≤ 17592186044416 := Nat.le_trans hcl (by have : (4 * n + m) * 1099511627776 ≤ 16 * 1099511627776 := Nat.mul_le_mul_right _ (by omega); omega)
          generalize cs.getD (n + m) 0 = cv at *
          generalize x.getD n 0 = xn at *
          generalize y.getD m 0 = ym at *
          have kx : IntKind.i64.wrap ((xn : Int) * (ym : Int)) = ((xn * ym : Nat) : Int) := by
            rw [← Int.natCast_mul]; exact IntWalk.i64_in _ (by omega)
          obtain ⟨xy, hxyd⟩ : ∃ v, v = xn * ym := ⟨_, rfl⟩
          rw [← hxyd] at kx hxy PN DS CM BS
          have kc : IntKind.i64.wrap ((cv : Int) + (xy : Int)) = ((cv + xy : Nat) : Int) := by
            rw [← Int.natCast_add]; exact IntWalk.i64_in _ (by omega)
          obtain ⟨nv, hnv⟩ : ∃ v, v = cv + xy := ⟨_, rfl⟩
          rw [← hnv] at kc DS CM BS
          have ki : IntKind.i64.wrap ((n : Int) + (m : Int)) = ((n + m : Nat) : Int) := by
            rw [← Int.natCast_add]; exact IntWalk.i64_in _ (by omega)
          obtain ⟨nm, hnm⟩ : ∃ v, v = n + m := ⟨_, rfl⟩
          have NM := hid hnm; have NV := hid hnv
          rw [← hnm] at ki c0 f0 DS CM BS PN
          have i0 : (0 : Int) ≤ (nm : Int) := by omega
          have i1 : (nm : Int) < 9 := by omega
          have i2 : nm < 9 := by omega
          have i3 : (0 : Int) ≤ (n : Int) := by omega
          have i4 : (n : Int) < 4 := by omega
          have i5 : (0 : Int) ≤ (m : Int) := by omega
          have i6 : (m : Int) < 4 := by omega
          clear hcs hc9 hcv hcb hgr hxl hyl hcl hcl2 hxy hxyd hnv hnm PR
          go_wp2
          go_still_tail 21, (by kernel_rfl)
          change wpList _ _ _ _ _ wr.drew
          have CS2 := hid (show wr.drew.heap[g]? = _ from CS.out)
          have GR2 := hid (show wo.grownBy wr.drew (some g) from ⟨GR.out.os, GR.out.tape, GR.out.output, GR.out.size, GR.out.block⟩)
          clear x0 y0 c0 f0 CS GR
          generalize wr.drew = w5 at *
          have c0 : w5.cell? ⟨g, nm, none⟩ = some (.int .i64 ((cs.getD nm 0 : Nat) : Int)) := ic_cell CS2.out nm (by rw [C9.out]; omega)
          have f0 := free_of_blk CS2.out nm
          generalize cs.getD nm 0 = cv2 at *
          go_wp2
          go_roundw
          case rel => exact ⟨m + 1, by omega, by go_num, cs.set nm nv, by rw [← CM.out]; exact blk_setCell CS2.out _ _, by rw [List.length_set]; exact C9.out, (by
            have h1 := DS.out; have h2 := PN.out; have h3 := CV.out
            have h4 : nv * 1048576 ^ nm = cv * 1048576 ^ nm + xy * 1048576 ^ nm := by rw [NV.out, Nat.add_mul]
            clear DS PN CV NV
            generalize nv * 1048576 ^ nm = t1 at *
            generalize cv * 1048576 ^ nm = t2 at *
            generalize xy * 1048576 ^ nm = t3 at *
            omega), (by intro j; have := BS.out j; exact this), grown_setCell GR2.out _ _ rfl⟩
          case measure => simp [intOf]; omega
        · obtain rfl : m = 4 := by omega
          have RW := hid (part_row x y n (by rw [X4.out]; omega))
          rw [Y4.out] at RW
          go_wp2
          go_roundw
          case rel =>
            refine ⟨n + 1, by omega, by go_num, ?_⟩
            obtain ⟨cs, h1, h2, h3, h4, h5⟩ := PR.out
            exact ⟨cs, h1, h2, h3.trans RW.out, fun j => by have := h4 j; rw [show 4 * (n + 1) + 0 = 4 * n + 4 by omega]; exact this, h5⟩
          case measure => simp [intOf]; omega
    · obtain rfl : n = 4 := by omega
      rw [show ((4 : Nat) : Int) = 4 from rfl]
      have CA := hid (show CaW wo g (a * b) 0 wr by
        obtain ⟨cs, h1, h2, h3, h4, h5⟩ := PR.out
        have e := part_all x y
        rw [X4.out, XV.out, YV.out] at e
        exact ⟨cs, h1, h2, h3.trans e, fun m hm => by omega, by have := h4 0; omega, fun m _ => by have := h4 m; omega, h5⟩)
      clear PR
      obtain ⟨w6, hw6⟩ : ∃ w6 : World, w6 = wr := ⟨_, rfl⟩
      rw [← hw6] at CA ⊢
      clear hw6
      go_wp2
      go_loopw [10] (fun iv wr3 => ∃ m : Nat, m ≤ 8 ∧ iv = .int .i64 (m : Int) ∧ CaW wo g (a * b) m wr3)
        (fun iv _ => 8 - (intOf iv).toNat)
      case atStart => exact ⟨0, by omega, rfl, CA.out⟩
      case round =>
        obtain ⟨m, hm, rfl, hca⟩ := hrel
        clear CA
        have CA := hid hca
        clear hca
        by_cases hlt : m < 8
        · have d2 : decide ((m : Int) < 8) = true := decide_eq_true (by omega)
          obtain ⟨cs, hcs, hc9, hcv, hlo, hmid, hhi, hgr⟩ := CA.out
          have CS := hid hcs; have CV := hid hcv; have GR := hid hgr; have C9 := hid hc9; have LO := hid hlo; have HI := hid hhi
          obtain ⟨nm, hnm⟩ : ∃ v, v = m + 1 := ⟨_, rfl⟩
          have NM := hid hnm
          have c0 : wr.cell? ⟨g, m, none⟩ = some (.int .i64 ((cs.getD m 0 : Nat) : Int)) := ic_cell hcs m (by omega)
          have c1 : wr.cell? ⟨g, nm, none⟩ = some (.int .i64 ((cs.getD nm 0 : Nat) : Int)) := ic_cell hcs nm (by omega)
          have f1 := free_of_blk hcs nm
          have b1 := hhi nm (by omega)
          have D1 := hid (dval_set cs nm (cs.getD nm 0 + cs.getD m 0 / 1048576) (by omega))
          have M1 := hid (ic_set cs nm (cs.getD nm 0 + cs.getD m 0 / 1048576))
          have D2 := hid (dval_set (cs.set nm (cs.getD nm 0 + cs.getD m 0 / 1048576)) m (cs.getD m 0 % 1048576) (by rw [List.length_set]; omega))
          have M2 := hid (ic_set (cs.set nm (cs.getD nm 0 + cs.getD m 0 / 1048576)) m (cs.getD m 0 % 1048576))
          rw [getD_set_ne _ _ _ _ (by omega)] at D2
          have PW := hid (show (1048576 : Nat) ^ nm = 1048576 ^ m * 1048576 by rw [hnm, Nat.pow_succ])
          have EM := hid (show cs.getD m 0 = 1048576 * (cs.getD m 0 / 1048576) + cs.getD m 0 % 1048576 from (Nat.div_add_mod _ _).symm)
          have RL := hid (show cs.getD m 0 % 1048576 < 1048576 from Nat.mod_lt _ (by decide))
          have QL := hid (show cs.getD nm 0 + cs.getD m 0 / 1048576 ≤ 40000000000000 by omega)
          have dq : ((cs.getD m 0 : Nat) : Int) / 1048576 = ((cs.getD m 0 / 1048576 : Nat) : Int) := by omega
          have dr : ((cs.getD m 0 : Nat) : Int) % 1048576 = ((cs.getD m 0 % 1048576 : Nat) : Int) := by omega
          obtain ⟨q, hq⟩ : ∃ q, q = cs.getD m 0 / 1048576 := ⟨_, rfl⟩
          obtain ⟨rm, hrm⟩ : ∃ q, q = cs.getD m 0 % 1048576 := ⟨_, rfl⟩
          have hq2 : q ≤ 40000000 := by omega
          rw [← hq] at D1 M1 D2 M2 EM QL dq
          rw [← hrm] at D2 M2 EM RL dr
          obtain ⟨a0, ha0⟩ : ∃ v, v = cs.getD m 0 := ⟨_, rfl⟩
          obtain ⟨a1, ha1⟩ : ∃ v, v = cs.getD nm 0 := ⟨_, rfl⟩
          rw [← ha0] at c0 D2 EM dq dr
          rw [← ha1] at c1 D1 M1 D2 M2 QL b1
          obtain ⟨nv, hnv⟩ : ∃ v, v = a1 + q := ⟨_, rfl⟩
          have NV := hid hnv
          rw [← hnv] at D1 M1 D2 M2 QL
          have kq : IntKind.i64.wrap (q : Int) = (q : Int) := IntWalk.i64_in _ (by omega)
          have kc : IntKind.i64.wrap ((a1 : Int) + (q : Int)) = (nv : Int) := by rw [hnv]; exact IntWalk.i64_in _ (by omega)
          have ki : IntKind.i64.wrap ((m : Int) + 1) = (nm : Int) := by rw [hnm]; exact IntWalk.i64_in _ (by omega)
          have i0 : (0 : Int) ≤ (nm : Int) := by omega
          have i1 : (nm : Int) < 9 := by omega
          have i2 : nm < 9 := by omega
          have i3 : (0 : Int) ≤ (m : Int) := by omega
          have i4 : (m : Int) < 9 := by omega
          have i5 : m < 9 := by omega
          have NE := hid (show m ≠ nm by omega)
          have HA := hid (show (cs.set nm nv).getD m 0 = a0 by rw [getD_set_ne _ _ _ _ (by omega), ← ha0])
          clear hcs hc9 hcv hlo hmid hhi hgr hnm hq hrm ha0 ha1 hnv b1 hq2 CA
          go_wp2
          go_still_tail 15, (by kernel_rfl)
          change wpList _ _ _ _ _ wr.drew
          have CS2 := hid (show wr.drew.heap[g]? = _ from CS.out)
          have GR2 := hid (show wo.grownBy wr.drew (some g) from ⟨GR.out.os, GR.out.tape, GR.out.output, GR.out.size, GR.out.block⟩)
          clear c0 c1 f1 CS GR
          generalize wr.drew = w5 at *
          have B1 := hid (blk_setCell CS2.out nm (.int .i64 (nv : Int)))
          have f1 := free_of_blk CS2.out nm
          obtain ⟨u1, c1⟩ : ∃ u, w5.cell? ⟨g, nm, none⟩ = some u := ⟨_, ic_cell CS2.out nm (by rw [C9.out]; omega)⟩
          have B2 := hid (show (w5.setCell ⟨g, nm, none⟩ (.int .i64 (nv : Int))).heap[g]? = some (.cells (ic (cs.set nm nv)).toArray 3 (0, 0)) by rw [← M1.out]; exact B1.out)
          have GR3 := hid (grown_setCell GR2.out ⟨g, nm, none⟩ (.int .i64 (nv : Int)) rfl)
          have c2 : (w5.setCell ⟨g, nm, none⟩ (.int .i64 (nv : Int))).cell? ⟨g, m, none⟩ = some (.int .i64 (a0 : Int)) := by rw [ic_cell B2.out m (by rw [List.length_set, C9.out]; omega), HA.out]
          have f2 : (w5.setCell ⟨g, nm, none⟩ (.int .i64 (nv : Int))).frozen? ⟨g, m, none⟩ = false := free_of_blk B2.out m
          go_wp2
          go_roundw
          case rel =>
            refine ⟨nm, by have := NM.out; omega, by have := NM.out; go_num, (cs.set nm nv).set m rm, ?_, by rw [List.length_set, List.length_set]; exact C9.out, ?_, ?_, ?_, ?_, grown_setCell GR3.out _ _ rfl⟩
            · rw [← M2.out]; exact blk_setCell B2.out _ _
            · have h1 := D1.out; have h2 := D2.out; have h3 := CV.out; have h4 := PW.out
              have h5 : nv * 1048576 ^ nm = a1 * 1048576 ^ nm + q * 1048576 ^ nm := by rw [NV.out, Nat.add_mul]
              have h6 : a0 * 1048576 ^ m = q * 1048576 ^ nm + rm * 1048576 ^ m := by
                rw [h4]
                conv => lhs; rw [EM.out]
                rw [Nat.add_mul, Nat.mul_comm 1048576 q, Nat.mul_assoc, Nat.mul_comm 1048576]
              clear D1 D2 CV PW NV EM h4
              generalize nv * 1048576 ^ nm = t1 at *
              generalize a1 * 1048576 ^ nm = t2 at *
              generalize q * 1048576 ^ nm = t3 at *
              generalize rm * 1048576 ^ m = t4 at *
              generalize a0 * 1048576 ^ m = t5 at *
              omega
            · intro j hj
              by_cases h : j = m
              · subst h
                rw [getD_set_same _ _ _ (by rw [List.length_set, C9.out]; omega)]; exact RL.out
              · rw [getD_set_ne _ _ _ _ (by omega), getD_set_ne _ _ _ _ (by omega)]
                exact LO.out j (by have := NM.out; omega)
            · rw [getD_set_ne _ _ _ _ (by have := NM.out; omega), getD_set_same _ _ _ (by rw [C9.out]; exact i2)]
              exact QL.out
            · intro j hj
              rw [getD_set_ne _ _ _ _ (by have := NM.out; omega), getD_set_ne _ _ _ _ (by omega)]
              exact HI.out j (by have := NM.out; omega)
          case measure => have := NM.out; simp [intOf]; omega
        · obtain rfl : m = 8 := by omega
          go_wp2
          go_ret
          obtain ⟨cs, h1, h2, h3, h4, h5, h6, h7⟩ := CA.out
          refine ⟨g, cs, rfl, L0.out.grown h7 L0.out.size (fun k hk => by cases hk; have := HG.out; omega), h1, h2, h3, fun j => ?_⟩
          by_cases hj : j < 8
          · exact h4 j hj
          · by_cases hj9 : j = 8
            · subst hj9
              have h8 := dval_last cs 8 (by omega)
              rw [h3] at h8
              have h9 : a * b ≤ 1152921504606846976 * 1152921504606846976 := Nat.mul_le_mul ha hb
              have h10 : (1048576 : Nat) ^ 8 = 1461501637330902918203684832716283019655932542976 := by decide
              rw [h10] at h8
              omega
            · rw [List.getD_eq_getElem?_getD, List.getElem?_eq_none (by omega)]; simp
end Go.Proofs.Ytebjdiiogihcdaa
