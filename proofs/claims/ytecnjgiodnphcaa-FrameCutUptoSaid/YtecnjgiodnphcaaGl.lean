/- The walk of FrameGets (for bytes that are not too many). -/
import Derived.Test.YtecnjgiodnphcaaGj
namespace Go.Proofs.Ytecnjgiodnphcaa
open Go.RowKit

theorem RowsAt.spoiled {w w' : World} {base : Nat} {f : Nat → Value} {Ls : List (List UInt8)} (h : RowsAt w base f Ls) (i : Nat) (hi : i < Ls.length) (hg : w.grownBy w' (f i).ownBlock) (x : List UInt8) (hx : x.length = (Ls.getD i []).length) (ho : w'.ownsRow base 5 1 (f i) (Ls.getD i []).length (bc x)) :
    ∃ Ls', Ls'.length = Ls.length ∧ (∀ j, (Ls'.getD j []).length = (Ls.getD j []).length) ∧ RowsAt w' base f Ls' := by
  have e1 : ∀ j, ((Ls.set i x).getD j []) = if j = i then x else Ls.getD j [] := by
    intro j
    simp only [List.getD, List.getElem?_set]
    by_cases hj : j = i
    · subst hj; simp [hi]
    · simp [hj, Ne.symm hj]
  have e2 : ∀ j, ((Ls.set i x).getD j []).length = (Ls.getD j []).length := by
    intro j
    rw [e1]
    split
    · subst_vars; exact hx
    · rfl
  refine ⟨Ls.set i x, by simp, e2, fun j hj => ?_, fun j k hjk hk => h.2 j k hjk (by simpa using hk)⟩
  have hj' : j < Ls.length := by simpa using hj
  rw [e2]
  refine ⟨(h.1 j hj').1, ?_⟩
  rw [e1]
  by_cases hji : j = i
  · subst hji; simp only [if_true]; exact ho
  · simp only [hji, if_false]
    refine own_keep (h.1 j hj').2 (fun k hk => hg.block k ((h.1 j hj').2.lt k hk).2 (fun e => ?_))
    rcases Nat.lt_or_gt_of_ne hji with hlt | hlt
    · exact h.2 j i hlt hi k hk e.symm
    · exact h.2 i j hlt hj' k e.symm hk

theorem sum_len_le (Ls : List (List UInt8)) (n : Nat) (h : ∀ x ∈ Ls, x.length ≤ n) (j : Nat) : (Ls.getD j []).length ≤ n := by
  simp only [List.getD]
  cases hh : Ls[j]? with
  | none => simp
  | some x => exact h x (List.mem_of_getElem? hh)
theorem allF_each (l : List UInt8) (f a : Nat) : ∀ x ∈ (allF l f a).1, x.length ≤ l.length := by
  induction f generalizing a with
  | zero => intro x hx; simp [allF] at hx
  | succ f ih =>
    intro x hx
    unfold allF at hx
    by_cases h : (getF l a).2.2 = 0
    · rw [if_pos h] at hx
      rcases List.mem_cons.1 hx with rfl | hx
      · exact getF_len l a
      · exact ih _ x hx
    · rw [if_neg h] at hx; simp at hx

set_option maxRecDepth 100000 in
set_option maxHeartbeats 4000000 in
theorem walk_FrameGets (w : World) (v : Value) (l : List UInt8) (hb : Sl w 1 v l.length (bc l)) (_hl : l.length ≤ 140737488351232) (a : Int) (ha0 : -9223372036854775808 ≤ a) (ha : a ≤ 9223372036854775807) (tot : l.length ≤ 1048576) :
    Calls Try.prog 10 #[v, .int .i64 a] w fun e w' => e = .returned (.bool true) ∧ Below w.heap.size w w' := by
  have Hb := hid hb; clear hb
  have hG := fun va wx (hx : Sl wx 1 va l.length (bc l)) => get_any va l a wx (by omega) ha0 ha hx
  have hR := fun va wx (hx : Sl wx 1 va l.length (bc l)) => refGet_any va l a wx (by omega) ha0 ha hx
  have hA := fun va wx (hx : Sl wx 1 va l.length (bc l)) => all_any va l wx (by omega) hx
  have hB := fun va wx (hx : Sl wx 1 va l.length (bc l)) => refAll_any va l wx (by omega) hx
  have hxl := getF_len l a
  have hal := allF_len l (l.length + 1) 0 (Nat.zero_le _)
  have hae := sum_len_le _ l.length (allF_each l (l.length + 1) 0)
  obtain ⟨r, hr⟩ : ∃ r, r = getF l a := ⟨_, rfl⟩
  obtain ⟨p, hp⟩ : ∃ p, p = allL l := ⟨_, rfl⟩
  have hp' : allF l (l.length + 1) 0 = p := hp.symm
  rw [hp'] at hal hae
  rw [← hr] at hG hR hxl
  rw [← hp] at hA hB
  obtain ⟨r1, r2, r3⟩ := r
  obtain ⟨p1, p2⟩ := p
  simp only at hxl hal hae
  have hp1l : p1.length ≤ 2000000 := by omega
  have hr1l : r1.length ≤ 2000000 := by omega
  have HG := hid hG; have HR := hid hR; have HA := hid hA; have HB := hid hB; have HAE := hid hae
  clear hG hR hA hB hr hp hp' hal hae hxl
  go_enter Try.func10, Try.ntmps10
  go_wp2_with fail
  refine (lent_any v l w (by omega) Hb.out).mono ?_
  rintro e w1 ⟨g, cap, rfl, hb1, hown1⟩
  have L1 := hid hb1; have O1 := hid hown1; have s1 := hb1.size; clear hb1 hown1
  have I1 := hid (Sl.cut (Sl.own O1.out) (ys := bc l) l.length (by omega) (by simp [bc]))
  go_wp2_with fail
  refine (HG.out _ w1 I1.out).mono ?_
  rintro e w2 ⟨ao2, c2, rfl, hb2, hown2⟩
  have L2 := hid hb2; have O2 := hid hown2; have s2 := hb2.size; clear hb2 hown2
  have D2 := hid (L1.out.trans (L2.out.mono s1))
  go_wp2_with fail
  refine (HR.out v w2 (Hb.out.below D2.out (fun _ _ h => h))).mono ?_
  rintro e w3 ⟨ao3, c3, rfl, hb3, hown3⟩
  have L3 := hid hb3; have O3 := hid hown3; have s3 := hb3.size; clear hb3 hown3
  have D3 := hid (D2.out.trans (L3.out.mono (by omega)))
  have E3 := hid (L2.out.trans (L3.out.mono s2))
  go_wp2_with fail
  refine (HA.out _ w3 (I1.out.below E3.out (fun _ _ h => h))).mono ?_
  rintro e w4 ⟨v4, rfl, hb4, hrow4⟩
  obtain ⟨ao4, c4, rfl, _⟩ := hrow4.shape
  have L4 := hid hb4; have R4 := hid hrow4; have s4 := hb4.size; clear hb4 hrow4
  have D4 := hid (D3.out.trans (L4.out.mono (by omega)))
  go_wp2_with fail
  refine (HB.out v w4 (Hb.out.below D4.out (fun _ _ h => h))).mono ?_
  rintro e w5 ⟨v5, rfl, hb5, hrow5⟩
  obtain ⟨ao5, c5, rfl, _⟩ := hrow5.shape
  have L5 := hid hb5; have R5 := hid hrow5; have s5 := hb5.size
  have R45 := hid (R4.out.below hb5)
  clear hb5 hrow5
  have L35 := hid (L4.out.trans (L5.out.mono s4))
  have o25 := own_below O2.out (L3.out.trans (L35.out.mono s3)) (Nat.le_refl _)
  have o35 := own_below O3.out L35.out (Nat.le_refl _)
  have q1 := run_convert_sl (P := Try.prog) w5 22 9 5 Try.underlying22 Try.underlying5 Try.underlying9 (Sl.own o25)
  have q2 := run_convert_sl (P := Try.prog) w5 22 9 5 Try.underlying22 Try.underlying5 Try.underlying9 (Sl.own o35)
  have O25 := hid o25; clear o25 o35
  go_wp2_with fail
  clear q1 q2
  refine (same_any _ _ w3.heap.size w4.heap.size p1 w5 hp1l R45.out R5.out).mono ?_
  rintro e w6 ⟨rfl, hb6⟩
  have L6 := hid hb6; have s6 := hb6.size
  have O26 := hid (own_below O25.out hb6 (Nat.le_refl _))
  have R46 := hid (R45.out.below hb6)
  clear hb6
  go_wp2_with fail
  refine (spoil_any _ r1 w1.heap.size w6 (by omega) O26.out).mono ?_
  rintro e w7 ⟨rfl, hg7, _, _, _⟩
  have s7 := hg7.size
  have L7 := hid ((Below.refl w1.heap.size w6).grown hg7 (by omega) (fun k hk => (O26.out.lt k hk).1))
  obtain ⟨f, hv6, hf6⟩ := R46.out
  have o2lt := fun k hk => (O2.out.lt k hk).2
  have hne1 : ∀ k, (Value.slice ao4 p1.length c4).ownBlock = some k → w7.heap[k]? = w6.heap[k]? := fun k hk => hg7.block k (hv6.lt k hk).2 (fun e => by
    have a1 := (hv6.lt k hk).1
    have a2 := o2lt k e.symm
    omega)
  have hne2 : ∀ i, i < p1.length → ∀ k, (f i).ownBlock = some k → w7.heap[k]? = w6.heap[k]? := fun i hi k hk => hg7.block k ((hf6.1 i hi).2.lt k hk).2 (fun e => by
    have a1 := ((hf6.1 i hi).2.lt k hk).1
    have a2 := o2lt k e.symm
    omega)
  have HV7 := hid (own_keep hv6 hne1)
  have HF7 := hid (own_keep_rows hf6 hne2)
  clear hg7 hv6 hf6 o2lt hne1 hne2
  have E7 := hid (((E3.out.trans (L35.out.mono (by omega))).trans (L6.out.mono (by omega))).trans L7.out)
  have D7 := hid (L1.out.trans (E7.out.mono s1))
  go_wp2_with fail
  go_loopw [16] (fun i wr => ∃ k Ls, k ≤ p1.length ∧ i = .int .i64 ((k : Nat) : Int) ∧ Ls.length = p1.length ∧ (∀ j, (Ls.getD j []).length = (p1.getD j []).length) ∧ Below w3.heap.size w7 wr ∧ w3.heap.size ≤ wr.heap.size ∧ wr.ownsRow w3.heap.size 22 1 (.slice ao4 p1.length c4) p1.length ((List.range p1.length).map f) ∧ RowsAt wr w3.heap.size f Ls)
    (fun i _ => p1.length - (intOf i).toNat)
  case atStart => exact ⟨0, p1, Nat.zero_le _, rfl, rfl, fun _ => rfl, Below.refl _ _, by omega, HV7.out, HF7.out⟩
  case round =>
    obtain ⟨k, Ls, hk, rfl, hLl, hLe, hbel, hsz, hv, hf⟩ := hrel
    have L := hid hbel; have V := hid hv; have F := hid hf; have HLl := hid hLl; have HLe := hid hLe
    clear hbel hLl hLe
    by_cases hlt : k < p1.length
    · obtain ⟨gg, cc, e1, _, hcc, hc4, _⟩ := ownsRow_form hv (by
        rintro h
        simp only [Value.slice.injEq] at h
        omega)
      simp only [Value.slice.injEq] at e1
      obtain ⟨rfl, _, rfl⟩ := e1
      have hcell : wr.cell? ⟨gg, k, none⟩ = some (f k) := by
        rw [hv.cellAt k (by omega)]; simp [hlt]
      obtain ⟨⟨x1, y1, hx1⟩, ho1⟩ := hf.1 k (by rw [HLl.out]; exact hlt)
      have HX1 := hid hx1
      have hsp := spoil_any (f k) (Ls.getD k []) w3.heap.size wr (by rw [HLe.out]; have := HAE.out k; omega) ho1
      rw [hx1] at hcell
      have HSp := hid hsp
      have hi0 : (k : Int) < (p1.length : Int) := by omega
      clear hsp hv hf ho1 hx1
      go_wp2_with fail
      have hsp := HSp.out
      rw [HX1.out] at hsp
      refine hsp.mono ?_
      rintro e w9 ⟨rfl, hg9, x9, hx9, ho9⟩
      rw [← HX1.out] at hg9 ho9
      have F9 := hid (F.out.spoiled k (by rw [HLl.out]; exact hlt) hg9 x9 hx9 ho9)
      have ob := (F.out.1 k (by rw [HLl.out]; exact hlt)).2
      have V9 := hid (own_keep V.out (fun q hq => hg9.block q (V.out.lt q hq).2 (fun e => by
        rcases ob.2 with ⟨hnil, _⟩ | ⟨g', cap', cur, hv', _, hg', _⟩
        · rw [hnil] at e; simp [Value.ownBlock] at e
        · rw [hv'] at e
          simp only [Value.ownBlock, Option.some.injEq] at e
          subst e
          exact own_ne_blk V.out hg' (by decide) hq)))
      have L9 := hid (L.out.trans ((Below.refl w3.heap.size wr).grown hg9 hsz (fun q hq => (ob.lt q hq).1)))
      have s9 := hg9.size
      clear hsp hg9 ho9 ob
      go_wp2
      go_roundw
      case rel =>
        obtain ⟨Ls', l1, l2, l3⟩ := F9.out
        exact ⟨k + 1, Ls', by omega, by go_num, by rw [l1, HLl.out], fun j => by rw [l2, HLe.out], L9.out, by omega, V9.out, l3⟩
      case measure => simp [intOf]; omega
    · have E8 := hid (E7.out.trans (L.out.mono (by omega)))
      have D8 := hid (D7.out.trans (L.out.mono (by omega)))
      clear hv hf
      go_wp2_with fail
      refine (kept_any g cap v l wr (by omega) (by have h := (Sl.own O1.out).below E8.out (fun _ _ h => h); exact h) (Hb.out.below D8.out (fun _ _ h => h))).mono ?_
      rintro e w9 ⟨rfl, hb9⟩
      have L9 := hid hb9; have s9 := hb9.size; clear hb9
      go_wp2_with fail
      refine (lives_any w9).mono ?_
      rintro e w10 ⟨rfl, hb10⟩
      have L10 := hid hb10; clear hb10
      go_wp2
      go_ret
      exact ⟨rfl, (D8.out.trans (L9.out.mono (by omega))).trans (L10.out.mono (by omega))⟩
end Go.Proofs.Ytecnjgiodnphcaa
