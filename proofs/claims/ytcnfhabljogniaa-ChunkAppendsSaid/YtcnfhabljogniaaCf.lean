/- the reference's Encode. -/
import Derived.Test.YtcnfhabljogniaaCe
import Derived.Laws.OwnMore
import Derived.Deep.RegionHeld3
namespace Go.Proofs.Ytcnfhabljogniaa
open Go.RowKit
set_option linter.unusedSimpArgs false

/-- unsigned numbers as cells -/
def uc (l : List Nat) : List Value := l.map fun n : Nat => Value.int .u64 (n : Int)
@[simp] theorem uc_length (l : List Nat) : (uc l).length = l.length := by simp [uc]
theorem uc_append (a b : List Nat) : uc (a ++ b) = uc a ++ uc b := by simp [uc]
theorem uc_get (l : List Nat) (i : Nat) (h : i < l.length) : (uc l)[i]? = some (.int .u64 ((l.getD i 0 : Nat) : Int)) := by simp [uc, List.getD, h]
theorem infoU64 : (Try.prog.info? 38).map (fun i => (i.zero, i.size, i.bytes)) = some (some (.int .u64 0), 1, 8) := by kernel_rfl

/-- append of one number -/
theorem wpList_appU {ops : Array Oper} {rest : List Oper} {o : Oper} {a : Act} {w : World} {Q : Exit → Act → World → Prop} (hgd : o.guard = none) (s x : Operand) (ho : o.op = .call { callee := .builtin .append, args := #[s, x], argTypes := #[64, 64] })
    (base : Nat) (v : Value) (n : Nat) (l : List Nat) (hsv : a.eval s = v) (hown : w.ownsRow base 38 1 v n (uc l)) (y : Nat) (H0 : Nat) (hH0 : w.heap.size = H0) (hxv : a.eval x = .slice (some ⟨H0, 0, none⟩) 1 1)
    (hn : n ≤ 20000000000000) (hbase : base ≤ w.heap.size)
    (h : ∀ g cap w', w'.ownsRow base 38 1 (.slice (some ⟨g, 0, none⟩) (n + 1) cap) (n + 1) (uc (l ++ [y])) → (∀ W, Below base W w → Below base W w') → base ≤ w'.heap.size →
      wpList Try.prog ops Q rest (a.put o.dst (.slice (some ⟨g, 0, none⟩) (n + 1) cap)) w') : wpList Try.prog ops Q (o :: rest) a (w.alloc (.cells #[.int .u64 (y : Int)] 38)) := by
  subst hH0
  obtain ⟨i0, hi, hz0, hz1, hz2⟩ := info_parts infoU64
  have hsrc : Src Try.prog 1 64 (.slice (some ⟨w.heap.size, 0, none⟩) 1 1) 1 (uc [y]) (w.alloc (.cells #[.int .u64 (y : Int)] 38)) :=
    Src.ofSlice _ Try.underlying64 _ 1 1 [.int .u64 (y : Int)] rfl (World.news_of_block (cs := #[.int .u64 (y : Int)]) (t := 38) (fr := (0, 0)) (heap_alloc_new w _)) (by simp [Value.oneCell'])
  refine wpList_append_put hgd s x 64 64 ho base 38 i0 (.int .u64 0) 1 8 Try.underlying64 hi hz0 hz1 hz2 rfl v n (uc l) hsv (hown.alloc _) _ 1 _ hxv hsrc (.inr (by omega)) (by unfold maxLen; omega) (by omega) (by simp; omega) (w.heap.size + 1) (by simp) ?_
  intro g cap w' h1 h2 h3 _ _
  rw [← uc_append] at h1
  exact h g cap w' h1 (fun W hW => (hW.alloc hbase _).grown h2 (by simp; omega) (fun k hk => (hown.lt k hk).1)) (by have := h2.size; simp at this; omega)

theorem step_appU {ops : Array Oper} {o : Oper} {a : Act} {w : World} {K : Act → World → Prop} {Q : Exit → Act → World → Prop} {E : Prop} (hgd : o.guard = none) (s x : Operand) (ho : o.op = .call { callee := .builtin .append, args := #[s, x], argTypes := #[64, 64] })
    (base : Nat) (v : Value) (n : Nat) (l : List Nat) (hsv : a.eval s = v) (hown : w.ownsRow base 38 1 v n (uc l)) (y : Nat) (H0 : Nat) (hH0 : w.heap.size = H0) (hxv : a.eval x = .slice (some ⟨H0, 0, none⟩) 1 1)
    (hn : n ≤ 20000000000000) (hbase : base ≤ w.heap.size)
    (h : ∀ g cap w', w'.ownsRow base 38 1 (.slice (some ⟨g, 0, none⟩) (n + 1) cap) (n + 1) (uc (l ++ [y])) → (∀ W, Below base W w → Below base W w') → base ≤ w'.heap.size →
      K (a.put o.dst (.slice (some ⟨g, 0, none⟩) (n + 1) cap)) w') : if Region.wanted o (yielded ops a.tmps) = true then Oper.wp Try.prog o a (w.alloc (.cells #[.int .u64 (y : Int)] 38)).drew K Q else E := by
  subst hH0
  obtain ⟨i0, hi, hz0, hz1, hz2⟩ := info_parts infoU64
  have hsrc : Src Try.prog 1 64 (.slice (some ⟨w.heap.size, 0, none⟩) 1 1) 1 (uc [y]) (w.alloc (.cells #[.int .u64 (y : Int)] 38)).drew :=
    Src.ofSlice _ Try.underlying64 _ 1 1 [.int .u64 (y : Int)] rfl (World.news_of_block (cs := #[.int .u64 (y : Int)]) (t := 38) (fr := (0, 0)) (heap_alloc_new w _)) (by simp [Value.oneCell'])
  refine step_append_put hgd s x 64 64 ho base 38 i0 (.int .u64 0) 1 8 Try.underlying64 hi hz0 hz1 hz2 rfl v n (uc l) hsv (hown.alloc _) _ 1 _ hxv hsrc (.inr (by omega)) (by unfold maxLen; omega) (by omega) (by simp; omega) (w.heap.size + 1) (by simp) ?_
  intro g cap w' h1 h2 h3 _ _
  rw [← uc_append] at h1
  exact h g cap w' h1 (fun W hW => ((hW.alloc hbase _).drew).grown h2 (by simp; omega) (fun k hk => (hown.lt k hk).1)) (by have := h2.size; simp at this; omega)

theorem nums_snoc (l : List (Int × Int)) (j a b : Nat) (ha : (if j + 1 = 1 then (farAt l 1).toNat else zigN (farAt l (j + 1) - farAt l j)) = a) (hb : zigN ((l.getD (j + 1) (0, 0)).2 - (l.getD j (0, 0)).2) = b) :
    nums l j ++ [a] ++ [b] = nums l (j + 1) := by subst ha hb; rw [List.append_assoc]; rfl
/-- bits in a variable at block p -/
def WrB (p : Nat) (x : List UInt8 × Nat) (w : World) : Prop :=
  ∃ ao c, w.heap[p]? = some (.cells #[.slice ao x.1.length c, .int .i64 (x.2 : Int)] 58 (0, 0)) ∧ w.ownsRow (p + 1) 5 1 (.slice ao x.1.length c) x.1.length (bc x.1) ∧ Rt x.1 x.2
theorem takeN_next (l : List Nat) (k : Nat) (h : k < l.length) : l.take (k + 1) = l.take k ++ [l.getD k 0] := by
  rw [List.take_add_one]; simp [h]
/-- all numbers are of 64 bits -/
theorem nums_lt {l : List (Int × Int)} (h : chkL l = 0) (j : Nat) (hj : j < l.length) : ∀ n ∈ nums l j, n < 18446744073709551616 := by
  induction j with
  | zero =>
    have := (chk_at h 0 hj).1
    have hl := chkL_zero h
    intro n hn
    simp only [nums, List.mem_cons, List.not_mem_nil, or_false] at hn
    rcases hn with rfl | rfl | rfl
    · omega
    · omega
    · exact zigN_lt _ (by omega) (by omega)
  | succ j ih =>
    intro n hn
    rw [nums, List.mem_append] at hn
    rcases hn with hn | hn
    · exact ih (by omega) n hn
    · have h1 := chk_at h (j + 1) hj
      have h0 := chk_at h j (by omega)
      have h1' := h1.2 (by omega)
      have hm := chk_at h (j - 1) (by omega)
      simp only [numsAt, List.mem_cons, List.not_mem_nil, or_false, Nat.add_sub_cancel] at hn
      simp only [Nat.add_sub_cancel] at h1'
      rcases hn with rfl | rfl
      · split
        · unfold farAt; rename_i hj1; obtain rfl : j = 0 := by omega
          simp only [Nat.zero_add, Nat.sub_self] at *
          omega
        · unfold farAt
          simp only [Nat.add_sub_cancel]
          exact zigN_lt _ (by omega) (by omega)
      · exact zigN_lt _ (by omega) (by omega)

set_option maxRecDepth 100000 in
set_option maxHeartbeats 2000000 in
theorem refEncode_bad (v : Value) (l : List (Int × Int)) (w : World) (hl : l.length ≤ 20000000000000) (hb : Sl w 2 v l.length (sc l)) (hc : chkL l ≠ 0) :
    Calls Try.prog 14 #[v] w (EncPost w ([], chkL l)) := by
  have HC := hid (refCheck_any v l w hl hb)
  generalize chkL l = n at *
  have hne : (n != 0) = true := by simpa using hc
  clear hb hc
  go_enter Try.func14, Try.ntmps14
  go_wp2_with fail
  refine HC.out.mono ?_
  rintro e w1 ⟨rfl, hb1⟩
  have L := hid hb1; clear hb1
  go_wp2
  go_ret2
  exact ⟨none, 0, rfl, L.out, World.ownsRow_nil _ _ _ _⟩

set_option maxRecDepth 100000 in
set_option maxHeartbeats 4000000 in
theorem refEncode_good (v : Value) (l : List (Int × Int)) (w : World) (hb : Sl w 2 v l.length (sc l)) (hc : chkL l = 0) :
    Calls Try.prog 14 #[v] w (EncPost w ((encB l (l.length - 1)).1, 0)) := by
  have h120 := (chkL_zero hc).2.1
  have hpos := (chkL_zero hc).1
  have HCk := hid (refCheck_any v l w (by omega) hb)
  rw [hc] at HCk
  have HAt := hid (fun k hk => chk_at hc k hk)
  have HCk0 := hid hc
  have Hb := hid hb
  obtain ⟨ao, c, rfl, _, _, _⟩ := hb.shape
  obtain ⟨b, off, rfl, hbl, hcell⟩ := sc_cells Hb.out hpos
  have HC := hid hcell
  clear hcell hb hc
  go_enter Try.func14, Try.ntmps14
  go_wp2_with fail
  refine HCk.out.mono ?_
  rintro e w1 ⟨rfl, hb1⟩
  have L1 := hid hb1; clear hb1
  have s1 := L1.out.size
  have hwl : IntKind.u64.wrap (l.length : Int) = ((l.length : Nat) : Int) := by rw [IntKind.wrap_u64]; omega
  have r0 := HAt.out 0 hpos
  have c0 : w1.cell? ⟨b, off, none⟩ = some (.int .i64 (l.getD 0 (0, 0)).1) := by rw [World.cell?_of_block (L1.out.block b hbl)]; simpa using (HC.out 0 hpos).1
  have c1 : w1.cell? ⟨b, off + 1, none⟩ = some (.int .i64 (l.getD 0 (0, 0)).2) := by rw [World.cell?_of_block (L1.out.block b hbl)]; simpa using (HC.out 0 hpos).2
  obtain ⟨t, ht⟩ : ∃ t : Nat, (l.getD 0 (0, 0)).1 = (t : Int) := Int.eq_ofNat_of_zero_le r0.1.1
  obtain ⟨u, hu⟩ : ∃ u, u = (l.getD 0 (0, 0)).2 := ⟨_, rfl⟩
  have HT := hid ht; have HU := hid hu
  rw [ht] at c0 r0
  rw [← hu] at r0 c1
  clear ht hu
  have hwt : IntKind.u64.wrap (t : Int) = ((t : Nat) : Int) := by rw [IntKind.wrap_u64]; omega
  have i0 : (0 : Int) < (l.length : Int) := by omega
  go_wp2_with fail
  have HZ := refZig_any u w1.drew (by omega) (by omega)
  rw [← zigN_cast u (by omega) (by omega)] at HZ
  go_still_tail 13, (by kernel_rfl)
  still_call HZ
  refine wpStill_nil ?_
  change wpList _ _ _ _ _ w1.drew
  have L2 := hid (Below_drewN L1.out 1)
  change Hid (Below w.heap.size w w1.drew) at L2
  have s2 : w.heap.size ≤ w1.drew.heap.size := s1
  clear c0 c1 L1 s1
  generalize w1.drew = w2 at *
  clear HZ
  have hN0 : nums l 0 = [l.length, t, zigN u] := by rw [nums, HT.out, ← HU.out]; rfl
  have O2 := hid (show (w2.alloc (.cells #[.int .u64 (l.length : Int), .int .u64 (t : Int), .int .u64 (zigN u : Int)] 38)).ownsRow w.heap.size 38 1 (.slice (some ⟨w2.heap.size, 0, none⟩) 3 3) 3 (uc (nums l 0)) from by
    rw [hN0]; exact World.ownsRow_lit w2 _ 3 s2 (by unfold maxLen; omega) rfl)
  have L3 := hid (L2.out.alloc s2 (.cells #[.int .u64 (l.length : Int), .int .u64 (t : Int), .int .u64 (zigN u : Int)] 38))
  clear hN0 hwt hwl HT HU r0
  go_wp2
  go_loopw [5, 6, 7] (fun nv i _ wr => ∃ k g cap, k < l.length ∧ i = .int .i64 (((k + 1 : Nat) : Nat) : Int) ∧ nv = .slice (some ⟨g, 0, none⟩) (3 + 2 * k) cap ∧ Below w.heap.size w wr ∧ wr.ownsRow w.heap.size 38 1 (.slice (some ⟨g, 0, none⟩) (3 + 2 * k) cap) (3 + 2 * k) (uc (nums l k)))
    (fun _ i _ _ => l.length - (intOf i).toNat)
  case atStart => exact ⟨0, _, _, hpos, rfl, rfl, L3.out, O2.out⟩
  case round =>
    obtain ⟨k, g, cap, hk, rfl, rfl, hbel, hown⟩ := hrel
    have L := hid hbel; have O := hid hown
    have sz := hbel.size
    clear hbel hown
    by_cases hlt : k + 1 < l.length
    · have r1 := HAt.out (k + 1) hlt
      have r0 := HAt.out k hk
      have r10 := r1.2 (by omega)
      simp only [Nat.add_sub_cancel] at r10
      have hT1 : wr.cell? ⟨b, off + (k + 1) * 2, none⟩ = some (.int .i64 (l.getD (k + 1) (0, 0)).1) := by rw [World.cell?_of_block (L.out.block b hbl)]; exact (HC.out (k + 1) hlt).1
      have hT0 : wr.cell? ⟨b, off + k * 2, none⟩ = some (.int .i64 (l.getD k (0, 0)).1) := by rw [World.cell?_of_block (L.out.block b hbl)]; exact (HC.out k hk).1
      obtain ⟨t1, ht1⟩ : ∃ t, t = (l.getD (k + 1) (0, 0)).1 := ⟨_, rfl⟩
      obtain ⟨t0, ht0⟩ : ∃ t, t = (l.getD k (0, 0)).1 := ⟨_, rfl⟩
      obtain ⟨v1, hv1⟩ : ∃ t, t = (l.getD (k + 1) (0, 0)).2 := ⟨_, rfl⟩
      obtain ⟨v0, hv0⟩ : ∃ t, t = (l.getD k (0, 0)).2 := ⟨_, rfl⟩
      rw [← ht1] at r1 hT1 r10
      rw [← ht0] at r0 hT0 r10
      rw [← hv1] at r1
      rw [← hv0] at r0
      obtain ⟨d, hd⟩ : ∃ d : Nat, t1 - t0 = (d : Int) := Int.eq_ofNat_of_zero_le (by omega)
      have kw : IntKind.i64.wrap (t1 - t0) = (d : Int) := by rw [IntWalk.i64_in _ (by omega)]; exact hd
      have kd : d ≤ 1099511627776 := by omega
      have i0 : (0 : Int) ≤ (k : Int) := by omega
      have i1 : (k : Int) < (l.length : Int) := by omega
      have i2 : (k : Int) + 1 < (l.length : Int) := by omega
      have HT1 := hid ht1; have HT0 := hid ht0; have HV1 := hid hv1; have HV0 := hid hv0
      have HD := hid hd; have R1 := hid r1; have R0 := hid r0
      clear ht1 ht0 hv1 hv0 hd r1 r0 r10
      go_wp2
      go_quiet (fail)
      rename_i nq
      have La := hid (Below_drewN L.out nq)
      have Oa := hid (show (wr.drewN nq).ownsRow w.heap.size 38 1 (.slice (some ⟨g, 0, none⟩) (3 + 2 * k) cap) (3 + 2 * k) (uc (nums l k)) from O.out)
      have sa : w.heap.size ≤ (wr.drewN nq).heap.size := sz
      generalize wr.drewN nq = W0 at *
      clear hT1 hT0 kw O L sz
      cases k with
      | zero =>
        have kv : IntKind.u64.wrap (d : Int) = ((d : Nat) : Int) := by rw [IntKind.wrap_u64]; omega
        have HF := hid (show (farAt l 1).toNat = d from by unfold farAt; rw [← HT1.out, ← HT0.out, HD.out]; rfl)
        go_wp2_with (at_builtin; refine wpList_appU rfl _ _ rfl w.heap.size (.slice (some ⟨g, 0, none⟩) 3 cap) 3 (nums l 0) rfl Oa.out d _ rfl rfl (by omega) sa ?_; intro g5 cap5 w5 hown5 hbel5 sz5; have O5 := hid hown5; have L5 := hid (hbel5 w La.out); clear hown5 hbel5)
        have hV1 : w5.cell? ⟨b, off + 3, none⟩ = some (.int .i64 v1) := by rw [World.cell?_of_block (L5.out.block b hbl), HV1.out]; exact (HC.out (0 + 1) hlt).2
        have hV0 : w5.cell? ⟨b, off + 1, none⟩ = some (.int .i64 v0) := by rw [World.cell?_of_block (L5.out.block b hbl), HV0.out]; simpa using (HC.out 0 hk).2
        have i3 : (1 : Int) < (l.length : Int) := by omega
        have i4 : (0 : Int) < (l.length : Int) := by omega
        have kz : IntKind.i64.wrap 0 = 0 := by decide
        obtain ⟨x, hx⟩ : ∃ x, x = v1 - v0 := ⟨_, rfl⟩
        have xr : -9223372036854775808 ≤ x ∧ x ≤ 9223372036854775807 := by have := R1.out; have := R0.out; omega
        have kw : IntKind.i64.wrap (v1 - v0) = x := by rw [← hx]; exact IntWalk.i64_in _ xr
        have HX := hid hx
        clear hx
        have HZ := hid (fun wx => by have h := refZig_any x wx xr.1 xr.2; rw [← zigN_cast x xr.1 xr.2] at h; exact h)
        go_wp2_with fail
        go_region_held3 (fun w' => w'.cell? ⟨b, off + 3, none⟩ = some (.int .i64 v1) ∧ w'.cell? ⟨b, off + 1, none⟩ = some (.int .i64 v0))
          (first | exact hS | go_keep)
          (first
            | (go_at_call 29; refine (HZ.out _).mono ?_; rintro e wz ⟨rfl, hwz⟩; subst wz; have hS : w5.drew.cell? ⟨b, off + 3, none⟩ = some (.int .i64 v1) ∧ w5.drew.cell? ⟨b, off + 1, none⟩ = some (.int .i64 v0) := ⟨hV1, hV0⟩)
            | (refine step_appU (w := w5) (by rfl) _ _ (by rfl) w.heap.size (.slice (some ⟨g5, 0, none⟩) 4 cap5) 4 (nums l 0 ++ [d]) (by rfl) O5.out (zigN x) w5.heap.size rfl (by rfl) (by omega) sz5 ?_; intro g6 cap6 w6 hown6 hbel6 sz6; have L6 := hid (hbel6 w L5.out); have O6 := hid hown6; have hS : w6.cell? ⟨b, off + 3, none⟩ = some (.int .i64 v1) ∧ w6.cell? ⟨b, off + 1, none⟩ = some (.int .i64 v0) := ⟨by (rw [World.cell?_of_block (L6.out.block b hbl), HV1.out]; exact (HC.out (0 + 1) hlt).2), by (rw [World.cell?_of_block (L6.out.block b hbl), HV0.out]; simpa using (HC.out 0 hk).2)⟩))
        go_wp2
        go_roundw
        case rel =>
          have o6 := O6.out
          rw [nums_snoc l 0 d (zigN x) (by rw [if_pos rfl]; exact HF.out) (by rw [HX.out, HV1.out, HV0.out])] at o6
          exact ⟨1, g6, cap6, hlt, by go_num, rfl, L6.out, o6⟩
        case measure => simp [intOf]; omega
      | succ j =>
        have rm := HAt.out j (by omega)
        have r0m := (HAt.out (j + 1) hk).2 (by omega)
        simp only [Nat.add_sub_cancel] at r0m
        have hTm : W0.cell? ⟨b, off + j * 2, none⟩ = some (.int .i64 (l.getD j (0, 0)).1) := by rw [World.cell?_of_block (La.out.block b hbl)]; exact (HC.out j (by omega)).1
        have hT0 : W0.cell? ⟨b, off + (j + 1) * 2, none⟩ = some (.int .i64 t0) := by rw [World.cell?_of_block (La.out.block b hbl), HT0.out]; exact (HC.out (j + 1) hk).1
        obtain ⟨tm, htm⟩ : ∃ t, t = (l.getD j (0, 0)).1 := ⟨_, rfl⟩
        rw [← htm] at rm hTm r0m
        rw [← HT0.out] at r0m
        have HTm := hid htm
        obtain ⟨y, hy⟩ : ∃ y : Int, y = (d : Int) - (t0 - tm) := ⟨_, rfl⟩
        have ky : -9223372036854775808 ≤ y ∧ y ≤ 9223372036854775807 := by have := R0.out; omega
        have kw1 : IntKind.i64.wrap (t0 - tm) = t0 - tm := IntWalk.i64_in _ (by have := R0.out; omega)
        have kw2 : IntKind.i64.wrap ((d : Int) - (t0 - tm)) = y := by rw [hy]; exact IntWalk.i64_in _ (by omega)
        have HF := hid (show zigN (farAt l (j + 1 + 1) - farAt l (j + 1)) = zigN y from by
          unfold farAt
          simp only [Nat.add_sub_cancel]
          rw [← HT1.out, ← HT0.out, ← HTm.out, HD.out, hy])
        have k1 : IntKind.i64.wrap ((j : Int) + 1) = (j : Int) + 1 := IntWalk.i64_in _ (by omega)
        have k0 : IntKind.i64.wrap ((j : Int) + 1 + 1 - 2) = (j : Int) := by rw [show (j : Int) + 1 + 1 - 2 = j by omega]; exact IntWalk.i64_in _ (by omega)
        have n1 : ((j : Int) + 1).toNat = j + 1 := by omega
        have n2 : ((j : Int) + 1 + 1).toNat = j + 1 + 1 := by omega
        have m0 : (0 : Int) ≤ (j : Int) := by omega
        have m1 : (0 : Int) ≤ (j : Int) + 1 := by omega
        have m2 : (j : Int) < (l.length : Int) := by omega
        have m3 : (j : Int) + 1 < (l.length : Int) := by omega
        have m4 : ((j : Int) + 1 + 1 == 1) = false := by simp; omega
        have m5 : (j : Int) + 1 + 1 < (l.length : Int) := by omega
        have m6 : (0 : Int) ≤ (j : Int) + 1 + 1 := by omega
        have HZ := hid (fun wx => by have h := refZig_any y wx ky.1 ky.2; rw [← zigN_cast y ky.1 ky.2] at h; exact h)
        clear htm hy rm r0m
        go_wp2_with fail
        go_region_held3 (fun w' => w'.cell? ⟨b, off + j * 2, none⟩ = some (.int .i64 tm) ∧ w'.cell? ⟨b, off + (j + 1) * 2, none⟩ = some (.int .i64 t0))
          (first | exact hS | go_keep)
          (first
            | (go_at_call 29; refine (HZ.out _).mono ?_; rintro e wz ⟨rfl, hwz⟩; subst wz; have hS : W0.drew.cell? ⟨b, off + j * 2, none⟩ = some (.int .i64 tm) ∧ W0.drew.cell? ⟨b, off + (j + 1) * 2, none⟩ = some (.int .i64 t0) := ⟨hTm, hT0⟩)
            | (refine step_appU (w := W0) (by rfl) _ _ (by rfl) w.heap.size (.slice (some ⟨g, 0, none⟩) (3 + 2 * (j + 1)) cap) (3 + 2 * (j + 1)) (nums l (j + 1)) (by rfl) Oa.out (zigN y) W0.heap.size rfl (by rfl) (by omega) sa ?_; intro g5 cap5 w5 hown5 hbel5 sz5; have L5 := hid (hbel5 w La.out); have O5 := hid hown5; have hS : w5.cell? ⟨b, off + j * 2, none⟩ = some (.int .i64 tm) ∧ w5.cell? ⟨b, off + (j + 1) * 2, none⟩ = some (.int .i64 t0) := ⟨by (rw [World.cell?_of_block (L5.out.block b hbl), HTm.out]; exact (HC.out j (by omega)).1), by (rw [World.cell?_of_block (L5.out.block b hbl), HT0.out]; exact (HC.out (j + 1) hk).1)⟩))
        clear hTm hT0 kw1 kw2 k0
        have hV1 : w5.cell? ⟨b, off + (j + 1 + 1) * 2 + 1, none⟩ = some (.int .i64 v1) := by rw [World.cell?_of_block (L5.out.block b hbl), HV1.out]; exact (HC.out (j + 1 + 1) hlt).2
        have hV0 : w5.cell? ⟨b, off + (j + 1) * 2 + 1, none⟩ = some (.int .i64 v0) := by rw [World.cell?_of_block (L5.out.block b hbl), HV0.out]; exact (HC.out (j + 1) hk).2
        obtain ⟨x, hx⟩ : ∃ x, x = v1 - v0 := ⟨_, rfl⟩
        have xr : -9223372036854775808 ≤ x ∧ x ≤ 9223372036854775807 := by have := R1.out; have := R0.out; omega
        have kw : IntKind.i64.wrap (v1 - v0) = x := by rw [← hx]; exact IntWalk.i64_in _ xr
        have HX := hid hx
        clear hx HZ hown5 hbel5
        have HZ := hid (fun wx => by have h := refZig_any x wx xr.1 xr.2; rw [← zigN_cast x xr.1 xr.2] at h; exact h)
        go_wp2_with fail
        go_region_held3 (fun w' => w'.cell? ⟨b, off + (j + 1 + 1) * 2 + 1, none⟩ = some (.int .i64 v1) ∧ w'.cell? ⟨b, off + (j + 1) * 2 + 1, none⟩ = some (.int .i64 v0))
          (first | exact hS | go_keep)
          (first
            | (go_at_call 29; refine (HZ.out _).mono ?_; rintro e wz ⟨rfl, hwz⟩; subst wz; have hS : w5.drew.cell? ⟨b, off + (j + 1 + 1) * 2 + 1, none⟩ = some (.int .i64 v1) ∧ w5.drew.cell? ⟨b, off + (j + 1) * 2 + 1, none⟩ = some (.int .i64 v0) := ⟨hV1, hV0⟩)
            | (refine step_appU (w := w5) (by rfl) _ _ (by rfl) w.heap.size (.slice (some ⟨g5, 0, none⟩) (3 + 2 * (j + 1) + 1) cap5) (3 + 2 * (j + 1) + 1) (nums l (j + 1) ++ [zigN y]) (by rfl) O5.out (zigN x) w5.heap.size rfl (by rfl) (by omega) sz5 ?_; intro g6 cap6 w6 hown6 hbel6 sz6; have L6 := hid (hbel6 w L5.out); have O6 := hid hown6; have hS : w6.cell? ⟨b, off + (j + 1 + 1) * 2 + 1, none⟩ = some (.int .i64 v1) ∧ w6.cell? ⟨b, off + (j + 1) * 2 + 1, none⟩ = some (.int .i64 v0) := ⟨by (rw [World.cell?_of_block (L6.out.block b hbl), HV1.out]; exact (HC.out (j + 1 + 1) hlt).2), by (rw [World.cell?_of_block (L6.out.block b hbl), HV0.out]; exact (HC.out (j + 1) hk).2)⟩))
        go_wp2
        go_roundw
        case rel =>
          have o6 := O6.out
          rw [nums_snoc l (j + 1) (zigN y) (zigN x) (by rw [if_neg (by omega)]; exact HF.out) (by rw [HX.out, HV1.out, HV0.out]), show 3 + 2 * (j + 1) + 1 + 1 = 3 + 2 * (j + 1 + 1) by omega] at o6
          exact ⟨j + 1 + 1, g6, cap6, hlt, by go_num, by rw [show 3 + 2 * (j + 1 + 1) = 3 + 2 * (j + 1) + 1 + 1 by omega], L6.out, o6⟩
        case measure => simp [intOf]; omega
    · have hkl : k = l.length - 1 := by omega
      have hkl' : ((k + 1 : Nat) : Int) = (l.length : Int) := by omega
      rw [hkl']
      obtain ⟨wo, rfl⟩ : ∃ wo : World, wo = wr := ⟨_, rfl⟩
      have hml : 3 + 2 * k = (nums l k).length := by rw [nums_length]
      have hm5 : (nums l k).length ≤ 1000 := by rw [nums_length]; omega
      rw [hml] at O ⊢
      have HLT := hid (nums_lt HCk0.out k hk)
      have HE := hid (show pushAll ([], 0) (nums l k) = encB l (l.length - 1) by rw [hkl]; rfl)
      clear hml hkl hkl'
      generalize nums l k = ns at *
      have W0 := hid (show WrB wo.heap.size ([], 0) (wo.alloc (.cells #[.slice none 0 0, .int .i64 0] 58)) from ⟨none, 0, blk_new wo _ _ rfl, World.ownsRow_nil _ _ _ _, by simp [Rt]⟩)
      have S0 := hid ((Sl.own O.out).alloc (.cells #[.slice none 0 0, .int .i64 0] 58))
      have L0 := hid (L.out.alloc sz (.cells #[.slice none 0 0, .int .i64 0] 58))
      have gp : g < wo.heap.size := (O.out.lt g rfl).2
      go_wp2
      generalize hpp : wo.heap.size = p at *
      go_loopw [9] (fun i wr => ∃ k, k ≤ ns.length ∧ i = .int .i64 ((k : Nat) : Int) ∧ Below w.heap.size w wr ∧ WrB p (pushAll ([], 0) (ns.take k)) wr ∧ Sl wr 1 (.slice (some ⟨g, 0, none⟩) ns.length cap) ns.length (uc ns))
        (fun i _ => ns.length - (intOf i).toNat)
      case atStart => exact ⟨0, Nat.zero_le _, rfl, L0.out, W0.out, S0.out⟩
      case round =>
        obtain ⟨k2, hk2, rfl, hbel, ⟨ao2, c2, hp2, ho2, hR2⟩, hsl⟩ := hrel
        have LL := hid hbel; have SL := hid hsl; have PP := hid hp2; have OO := hid ho2; have RR := hid hR2
        have hlp := lt_of_blk hp2
        obtain ⟨a0, a1, a2, a3, a4⟩ := blk2 hp2
        clear hbel hsl hp2 ho2 hR2
        by_cases hlt2 : k2 < ns.length
        · obtain ⟨b7, off7, c7, hv7, _, _, hb7l, hcell7⟩ := SL.out.form (by decide) (by omega)
          simp only [Value.slice.injEq, Option.some.injEq, Addr.mk.injEq, and_true] at hv7
          obtain ⟨⟨rfl, rfl⟩, _, rfl⟩ := hv7
          have hnk := hcell7 k2 (by omega)
          rw [uc_get ns k2 hlt2, Nat.zero_add] at hnk
          obtain ⟨u, hu⟩ : ∃ u, u = ns.getD k2 0 := ⟨_, rfl⟩
          rw [← hu] at hnk
          have hul : u < 18446744073709551616 := by
            rw [hu]
            refine HLT.out _ ?_
            simp [List.getD, hlt2]
          have HNX := hid (show pushAll ([], 0) (ns.take (k2 + 1)) = pushNum (pushAll ([], 0) (ns.take k2)) u by rw [takeN_next ns k2 hlt2, pushAll_append, ← hu]; rfl)
          have hbits : (pushAll ([], 0) (ns.take k2)).2 ≤ 71000 := by
            have h := pushAll_bits (ns.take k2) ([], 0)
            simp only [List.length_take] at h
            omega
          clear hu hcell7
          generalize pushAll ([], 0) (ns.take k2) = x at *
          have i5 : (k2 : Int) < (ns.length : Int) := by omega
          have i6 : (0 : Int) ≤ (k2 : Int) := by omega
          have HP := hid (fun wx (hx : Sl wx 1 (.slice ao2 x.1.length c2) x.1.length (bc x.1)) => by
            have h := refPutNum_any (.slice ao2 x.1.length c2) x.1 (x.2 : Int) u wx (by omega) (by omega) hul (by have := RR.out.1; omega) hx
            rw [putNumV_Rt RR.out] at h
            exact h)
          have LD := hid (Below_drewN LL.out 1)
          change Hid (Below w.heap.size w wr.drew) at LD
          have PD := hid (show wr.drew.heap[p]? = _ from PP.out)
          have SD := hid SL.out.drew
          have OD := hid (Sl.drew (Sl.own OO.out))
          have hld : p < wr.drew.heap.size := hlp
          have hgl : g < wr.drew.heap.size := by omega
          have hnd : wr.drew.cell? ⟨g, k2, none⟩ = some (.int .u64 (u : Int)) := hnk
          go_wp2_with fail
          go_region_with ((go_at_call 30; refine (HP.out wr.drew OD.out).mono ?_; rintro e w8 ⟨ao8, c8, rfl, hb8, hown8⟩; have LX := hid (LD.out.trans (hb8.mono (by have := LD.out.size; omega))); have B8 := hid hb8; have O8 := hid hown8; have P8 := hid (blk_below PD.out hb8 hld); obtain ⟨d0, d1, d2, d3, d4⟩ := blk2 P8.out; clear hb8 hown8))
          all_goals
            go_wp2
            go_roundw
            case rel =>
              have o1 := own_base O8.out (show p + 1 ≤ wr.drew.heap.size by omega)
              have hne := own_ne_lt o1 (Nat.lt_succ_self p)
              refine ⟨k2 + 1, hlt2, by go_num, (LX.out.setCell sz _).setCell sz _, ?_, ?_⟩
              · rw [HNX.out]
                refine ⟨ao8, c8, ?_, own_setOther (own_setOther o1 ⟨p, 0, none⟩ _ hne) ⟨p, 1, none⟩ _ hne, Rt_push RR.out u⟩
                have := blk_setCell (blk_setCell P8.out 0 (.slice ao8 (numL x.1 x.2 u).length c8)) 1 (.int .i64 ((x.2 : Int) + 7 + Lib.bitLen u))
                simpa [pushNum] using this
              · have hg : (Value.slice (some ⟨g, 0, none⟩) ns.length cap).ownBlock ≠ some p := by simp [Value.ownBlock]; omega
                exact ((SD.out.below B8.out (fun _ _ h => h)).setCell ⟨p, 0, none⟩ _ hg).setCell ⟨p, 1, none⟩ _ hg
            case measure => simp [intOf]; omega
        · obtain rfl : k2 = ns.length := by omega
          go_wp2
          go_ret2
          have o2 := OO.out
          rw [List.take_length, HE.out] at o2
          rw [HE.out]
          exact ⟨ao2, c2, rfl, LL.out, own_base o2 (by omega)⟩

/-- the reference's Encode. -/
theorem refEncode_any (v : Value) (l : List (Int × Int)) (w : World) (hl : l.length ≤ 20000000000000) (hb : Sl w 2 v l.length (sc l)) :
    Calls Try.prog 14 #[v] w (EncPost w (encV l)) := by
  by_cases hc : chkL l = 0
  · rw [show encV l = ((encB l (l.length - 1)).1, 0) by unfold encV; rw [if_pos hc]]
    exact refEncode_good v l w hb hc
  · rw [show encV l = ([], chkL l) by unfold encV; rw [if_neg hc]]
    exact refEncode_bad v l w hl hb hc
end Go.Proofs.Ytcnfhabljogniaa
