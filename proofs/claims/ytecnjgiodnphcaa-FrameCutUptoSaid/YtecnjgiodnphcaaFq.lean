/- The reference's Frame and Put; the walk of FramePuts. -/
import Derived.Test.YtecnjgiodnphcaaFp
import Derived.Test.YtecnjgiodnphcaaFl
namespace Go.Proofs.Ytecnjgiodnphcaa
open Go.RowKit

theorem own_built {base : Nat} {e : TypeId} (w : World) (cs : Array Value) (n H : Nat) (xs : List Value) (hH : w.heap.size = H) (hb : base ≤ w.heap.size) (hcs : cs.toList = xs) (hn : xs.length = n) (hm : n ≤ maxLen) :
    (w.alloc (.cells cs e)).ownsRow base e 1 (.slice (some ⟨H, 0, none⟩) n n) n xs := by
  subst hH hcs
  refine ⟨by omega, .inr ⟨w.heap.size, n, cs, rfl, hb, heap_alloc_new w _, Nat.le_refl _, hm, by simpa using hn, ?_⟩⟩
  rw [Nat.mul_one, ← hn, List.take_length]

theorem bc_le4 (s : Nat) (a b c d : Int) (ha : a = (s : Int) % 256) (hb : b = (s : Int) / 256 % 256) (hc : c = (s : Int) / 65536 % 256) (hd : d = (s : Int) / 16777216 % 256) : [Value.int .u8 a, Value.int .u8 b, Value.int .u8 c, Value.int .u8 d] = bc (le4 s) := by
  subst ha hb hc hd
  simp only [le4, bc, List.map_cons, List.map_nil, UInt8.toNat_ofNat']
  simp

set_option maxRecDepth 100000 in
set_option maxHeartbeats 1000000 in
theorem refFrame_any (vx : Value) (x : List UInt8) (w : World) (hx : x.length ≤ 65535) (hbx : Sl w 1 vx x.length (bc x)) :
    Calls Try.prog 37 #[vx] w fun e w' => ∃ g cap, e = .returned (.slice (some ⟨g, 0, none⟩) (frameL x).length cap) ∧ Below w.heap.size w w' ∧
      w'.ownsRow w.heap.size 5 1 (.slice (some ⟨g, 0, none⟩) (frameL x).length cap) (frameL x).length (bc (frameL x)) := by
  obtain ⟨aox, cx, rfl, _, _, _⟩ := hbx.shape
  have Hx := hid hbx; clear hbx
  have hh : (hd2 x.length).length = 2 := rfl
  go_enter Try.func37, Try.ntmps37
  go_wp2_with (at_builtin; refine wpList_appS rfl (.tmp 13) (.tmp 14) 22 rfl w.heap.size (.slice (some ⟨w.heap.size, 0, none⟩) 2 2) 2 (hd2 x.length) rfl (own_built w _ 2 w.heap.size _ rfl (Nat.le_refl _) (bc_hd2 x.length _ _ (by (try simp) <;> omega) (by (try simp) <;> omega)) (by simp [hd2]) (by simp [maxLen])) _ x.length x rfl (Src.ofSl Try.underlying22 (Hx.out.alloc _) (bc_one x)) (.inl (by simp)) (by omega) (by simp) _ rfl ?_; intro g2 cap2 w2 hown2 hgrow2 hbel2 hsz2 hat2; have O2 := hid hown2; have L2 := hid (hbel2 w ((Below.refl _ _).alloc (Nat.le_refl _) _)); clear hown2 hgrow2 hbel2 hat2)
  have e2 : (hd2 x.length ++ x).length = 2 + x.length := by rw [List.length_append, hh]
  have hS := refSum_any (.slice (some ⟨g2, 0, none⟩) (2 + x.length) cap2) (hd2 x.length ++ x) w2 (by rw [e2]; omega) (by rw [e2]; exact Sl.own O2.out)
  refine hS.mono ?_
  rintro e wz ⟨rfl, hwz⟩
  subst wz
  clear hS
  have hs := sumL_lt (hd2 x.length ++ x)
  have e3 := hid (show frameL x = hd2 x.length ++ x ++ le4 (sumL (hd2 x.length ++ x)) from rfl)
  generalize sumL (hd2 x.length ++ x) = s at *
  have E2 := hid e2; clear e2 hh
  go_wp2_with (at_builtin; refine wpList_appB rfl (.tmp 18) (.tmp 33) rfl w.heap.size (.slice (some ⟨g2, 0, none⟩) (2 + x.length) cap2) (2 + x.length) (hd2 x.length ++ x) rfl O2.out 4 (le4 s) _ w2.heap.size rfl rfl (bc_le4 s _ _ _ _ (by (try simp) <;> omega) (by (try simp) <;> omega) (by (try simp) <;> omega) (by (try simp) <;> omega)) rfl (by omega) (by omega) hsz2 ?_; intro g3 cap3 w3 hown3 hgrow3 hbel3 hsz3 hat3; have O3 := hid hown3; have L3 := hid (hbel3 w L2.out); clear hown3 hgrow3 hbel3 hat3)
  go_ret
  have e4 : (frameL x).length = 2 + x.length + 4 := by rw [frameL_length]; omega
  refine ⟨g3, cap3, ret_sl e4.symm, L3.out, ?_⟩
  rw [e4, e3.out]
  exact O3.out

set_option maxHeartbeats 1000000 in
theorem refPut_in (v vx : Value) (l x : List UInt8) (w : World) (hl : l.length ≤ 140737488355000) (hx : x.length ≤ 65535) (hb : Sl w 1 v l.length (bc l)) (hbx : Sl w 1 vx x.length (bc x)) :
    Calls Try.prog 19 #[v, vx] w fun e w' => ∃ g cap, e = .returned (.tuple #[.slice (some ⟨g, 0, none⟩) (l ++ frameL x).length cap, .int .i64 0]) ∧ Below w.heap.size w w' ∧
      w'.ownsRow w.heap.size 5 1 (.slice (some ⟨g, 0, none⟩) (l ++ frameL x).length cap) (l ++ frameL x).length (bc (l ++ frameL x)) := by
  obtain ⟨ao, c, rfl, _, _, _⟩ := hb.shape
  obtain ⟨aox, cx, rfl, _, _, _⟩ := hbx.shape
  have Hb := hid hb; have Hx := hid hbx; clear hb hbx
  have hfl := frameL_length x
  have hfl' : (frameL x).length ≤ 65541 := by omega
  clear hfl
  go_enter Try.func19, Try.ntmps19
  go_wp2_with (first
    | (at_builtin; refine wpList_appS rfl (.tmp 9) (.tmp 10) 22 rfl w.heap.size (.slice (some ⟨w.heap.size, 0, none⟩) 0 0) 0 [] rfl (own_made _ _ 0 w.heap.size rfl (Nat.le_refl _) (by unfold maxLen; omega) (by simp)) (.slice ao l.length c) l.length l rfl (Src.ofSl Try.underlying22 (Hb.out.alloc _) (bc_one l)) (.inl (by simp)) (by omega) (by simp) _ rfl ?_; intro g1 cap1 w1 hown1 hgrow1 hbel1 hsz1 hat1; simp only [Nat.zero_add, List.nil_append] at hown1; have O1 := hid hown1; have L1 := hid (hbel1 w ((Below.refl _ _).alloc (Nat.le_refl _) _)); clear hown1 hgrow1 hbel1 hat1)
    | (go_at_call 37; refine (refFrame_any (.slice aox x.length cx) x w1 hx (Hx.out.below L1.out (fun _ _ h => h))).mono ?_; rintro e w2 ⟨g2, cap2, rfl, hb2, hown2⟩; have B2 := hid hb2; have O2 := hid hown2; have s2 := hb2.size; have O1' := hid (own_below O1.out hb2 (Nat.le_refl _)); clear hb2 hown2)
    | (at_builtin; refine wpList_appS rfl (.tmp 11) (.tmp 13) 22 rfl w.heap.size (.slice (some ⟨g1, 0, none⟩) l.length cap1) l.length l rfl O1'.out (.slice (some ⟨g2, 0, none⟩) (frameL x).length cap2) (frameL x).length (frameL x) rfl (Src.ofSl Try.underlying22 (Sl.own O2.out) (bc_one _)) (.inl (by simp)) (by omega) (by omega) _ rfl ?_; intro g3 cap3 w3 hown3 hgrow3 hbel3 hsz3 hat3; have O3 := hid hown3; have L3 := hid (hbel3 w (L1.out.trans (B2.out.mono hsz1))); clear hown3 hgrow3 hbel3 hat3))
  go_ret2
  have e1 : (l ++ frameL x).length = l.length + (frameL x).length := List.length_append
  exact ⟨g3, cap3, ret_sl2 e1.symm, L3.out, by rw [e1]; exact O3.out⟩

theorem refPut_big (v vx : Value) (l x : List UInt8) (w : World) (hx : 65535 < x.length) (hbx : Sl w 1 vx x.length (bc x)) :
    Calls Try.prog 19 #[v, vx] w fun e w' => e = .returned (.tuple #[.slice none 0 0, .int .i64 3]) ∧ w' = w := by
  obtain ⟨aox, cx, rfl, _, _, _⟩ := hbx.shape
  clear hbx
  go_enter Try.func19, Try.ntmps19
  go_wp2
  go_ret2
  exact ⟨rfl, rfl⟩

theorem refPut_any (v vx : Value) (l x : List UInt8) (w : World) (hl : l.length ≤ 140737488355000) (hb : Sl w 1 v l.length (bc l)) (hbx : Sl w 1 vx x.length (bc x)) :
    Calls Try.prog 19 #[v, vx] w (PutPostB w (putF l x)) := by
  by_cases h : 65535 < x.length
  · have e : putF l x = ([], 3) := by unfold putF; rw [if_pos h]
    rw [e]
    exact (refPut_big v vx l x w h hbx).mono fun e w' ⟨he, hw⟩ => ⟨none, 0, he, by rw [hw]; exact Below.refl _ _, World.ownsRow_nil _ _ _ _⟩
  · have e : putF l x = (l ++ frameL x, 0) := by unfold putF; rw [if_neg h]
    rw [e]
    exact (refPut_in v vx l x w hl (by omega) hb hbx).mono fun e w' ⟨g, cap, he, h1, h2⟩ => ⟨some ⟨g, 0, none⟩, cap, he, h1, h2⟩

set_option maxRecDepth 100000 in
set_option maxHeartbeats 2000000 in
theorem walk_FramePuts (w : World) (v : Value) (l : List UInt8) (hb : Sl w 1 v l.length (bc l)) (hl : l.length ≤ 140737488351232) (vx : Value) (x : List UInt8) (hbx : Sl w 1 vx x.length (bc x)) (hlx : x.length ≤ 140737488351232) :
    Calls Try.prog 5 #[v, vx] w fun e w' => e = .returned (.bool true) ∧ Below w.heap.size w w' := by
  have Hb := hid hb; have Hx := hid hbx; clear hb hbx
  have hP := fun va vb wx (hx : Sl wx 1 va l.length (bc l)) (hy : Sl wx 1 vb x.length (bc x)) => put_any va vb l x wx (by omega) hx hy
  have hQ := fun va vb wx (hx : Sl wx 1 va l.length (bc l)) (hy : Sl wx 1 vb x.length (bc x)) => refPut_any va vb l x wx (by omega) hx hy
  have hrl := putF_len l x
  obtain ⟨r, hr⟩ : ∃ r, r = putF l x := ⟨_, rfl⟩
  rw [← hr] at hP hQ hrl
  obtain ⟨r1, r2⟩ := r
  simp only at hrl
  have HP := hid hP; have HQ := hid hQ
  clear hP hQ hr
  go_enter Try.func5, Try.ntmps5
  go_wp2_with fail
  refine (lent_any v l w (by omega) Hb.out).mono ?_
  rintro e w1 ⟨g, cap, rfl, hb1, hown1⟩
  have L1 := hid hb1; have O1 := hid hown1; have s1' := hb1.size; clear hb1 hown1
  have I1 := hid (Sl.cut (Sl.own O1.out) (ys := bc l) l.length (by omega) (by simp [bc]))
  go_wp2_with fail
  refine (lent_any vx x w1 (by omega) (Hx.out.below L1.out (fun _ _ h => h))).mono ?_
  rintro e w2 ⟨gx, capx, rfl, hb2, hown2⟩
  have L2 := hid hb2; have O2 := hid hown2; have s2' := hb2.size; clear hb2 hown2
  have D2 := hid (L1.out.trans (L2.out.mono s1'))
  have I2 := hid (Sl.cut (Sl.own O2.out) (ys := bc x) x.length (by omega) (by simp [bc]))
  go_wp2_with fail
  refine (HP.out _ _ w2 (I1.out.below L2.out (fun _ _ h => h)) I2.out).mono ?_
  rintro e w3 ⟨ao3, c3, rfl, hb3, hown3⟩
  have L3 := hid hb3; have O3 := hid hown3; have s3' := hb3.size; clear hb3 hown3
  have D3 := hid (D2.out.trans (L3.out.mono (by omega)))
  go_wp2_with fail
  refine (HQ.out v vx w3 (Hb.out.below D3.out (fun _ _ h => h)) (Hx.out.below D3.out (fun _ _ h => h))).mono ?_
  rintro e w4 ⟨ao4, c4, rfl, hb4, hown4⟩
  have L4 := hid hb4; have O4 := hid hown4; have s4' := hb4.size; clear hb4 hown4
  have o34 := own_below O3.out L4.out (Nat.le_refl _)
  have q1 := run_convert_sl (P := Try.prog) w4 22 9 5 Try.underlying22 Try.underlying5 Try.underlying9 (Sl.own o34)
  have q2 := run_convert_sl (P := Try.prog) w4 22 9 5 Try.underlying22 Try.underlying5 Try.underlying9 (Sl.own O4.out)
  have O34 := hid o34; clear o34
  go_wp2_with fail
  clear q1 q2
  refine (spoil_any _ r1 w2.heap.size w4 (by omega) O34.out).mono ?_
  rintro e w5 ⟨rfl, hg5, _, _, _⟩
  have L5 := hid ((Below.refl w2.heap.size w4).grown hg5 (by omega) (fun k hk => (O34.out.lt k hk).1))
  have s5' := hg5.size
  clear hg5
  have E5 := hid ((L3.out.trans (L4.out.mono s3')).trans L5.out)
  have F5 := hid (L2.out.trans (E5.out.mono s2'))
  have D5 := hid (L1.out.trans (F5.out.mono s1'))
  go_wp2_with fail
  refine (kept_any g cap v l w5 (by omega) (by have h := (Sl.own O1.out).below F5.out (fun _ _ h => h); exact h) (Hb.out.below D5.out (fun _ _ h => h))).mono ?_
  rintro e w6 ⟨rfl, hb6⟩
  have L6 := hid hb6; have s6' := hb6.size; clear hb6
  have E6 := hid (E5.out.trans (L6.out.mono (by omega)))
  have D6 := hid (D5.out.trans (L6.out.mono (by omega)))
  go_wp2_with fail
  refine (kept_any gx capx vx x w6 (by omega) (by have h := (Sl.own O2.out).below E6.out (fun _ _ h => h); exact h) (Hx.out.below D6.out (fun _ _ h => h))).mono ?_
  rintro e w7 ⟨rfl, hb7⟩
  have L7 := hid hb7; have s7' := hb7.size; clear hb7
  go_wp2_with fail
  refine (lives_any w7).mono ?_
  rintro e w8 ⟨rfl, hb8⟩
  have L8 := hid hb8; clear hb8
  go_wp2
  go_ret
  exact ⟨rfl, (D6.out.trans (L7.out.mono (by omega))).trans (L8.out.mono (by omega))⟩
end Go.Proofs.Ytecnjgiodnphcaa
