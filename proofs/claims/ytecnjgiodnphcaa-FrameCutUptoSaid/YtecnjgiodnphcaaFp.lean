/- frame.Put. -/
import Derived.Test.YtecnjgiodnphcaaFo
namespace Go.Proofs.Ytecnjgiodnphcaa
open Go.RowKit

/-- the two bytes of a length -/
def hd2 (n : Nat) : List UInt8 := [UInt8.ofNat (n / 256), UInt8.ofNat (n % 256)]
/-- a frame's bytes -/
def frameL (x : List UInt8) : List UInt8 := hd2 x.length ++ x ++ le4 (sumL (hd2 x.length ++ x))
theorem frameL_length (x : List UInt8) : (frameL x).length = x.length + 6 := by simp [frameL, hd2, le4_length]
theorem bc_hd2 (n : Nat) (a b : Int) (ha : a = ((n / 256 : Nat) : Int) % 256) (hb : b = (n : Int) % 256) : [Value.int .u8 a, Value.int .u8 b] = bc (hd2 n) := by
  subst ha hb
  simp only [hd2, bc, List.map_cons, List.map_nil, UInt8.toNat_ofNat']
  congr 2
  congr 1
  omega

set_option maxRecDepth 100000 in
set_option maxHeartbeats 1000000 in
theorem put_in (v vx : Value) (l x : List UInt8) (w : World) (hl : l.length ≤ 140737488355000) (hx : x.length ≤ 65535) (hb : Sl w 1 v l.length (bc l)) (hbx : Sl w 1 vx x.length (bc x)) :
    Calls Try.prog 18 #[v, vx] w fun e w' => ∃ ao cap, e = .returned (.tuple #[.slice ao (l ++ frameL x).length cap, .int .i64 0]) ∧ Below w.heap.size w w' ∧
      w'.ownsRow w.heap.size 5 1 (.slice ao (l ++ frameL x).length cap) (l ++ frameL x).length (bc (l ++ frameL x)) := by
  obtain ⟨ao, c, rfl, _, _, _⟩ := hb.shape
  obtain ⟨aox, cx, rfl, _, _, _⟩ := hbx.shape
  have Hb := hid hb; have Hx := hid hbx; clear hb hbx
  have HO := hid (show Calls Try.prog 35 #[.slice ao l.length c, .int .i64 ((x.length : Int) + 6)] w _ from own_any (.slice ao l.length c) l (x.length + 6) w (by omega) Hb.out)
  go_enter Try.func18, Try.ntmps18
  go_wp2_with fail
  refine HO.out.mono ?_
  rintro e w1 ⟨g, cap, rfl, hb1, hown1⟩
  have L1 := hid hb1; have O1 := hid hown1; have s1' := hb1.size; clear hb1 hown1
  go_wp2_with (first
    | (at_builtin; refine wpList_appB rfl (.tmp 14) (.tmp 22) rfl w.heap.size _ l.length l rfl O1.out 2 (hd2 x.length) _ w1.heap.size rfl rfl (bc_hd2 x.length _ _ (by (try simp) <;> omega) (by (try simp) <;> omega)) rfl (by omega) (by omega) s1' ?_; intro g2 cap2 w2 hown2 hgrow2 hbel2 hsz2 hat2; have O2 := hid hown2; have L2 := hid (hbel2 w L1.out); clear hown2 hgrow2 hbel2 hat2)
    | (at_builtin; refine wpList_appS rfl (.tmp 23) (.tmp 24) 22 rfl w.heap.size (.slice (some ⟨g2, 0, none⟩) (l.length + 2) cap2) (l.length + 2) (l ++ hd2 x.length) rfl O2.out _ x.length x rfl (Src.ofSl Try.underlying22 (Hx.out.below L2.out (fun _ _ h => h)) (bc_one x)) (.inl (by simp)) (by omega) hsz2 w2.heap.size rfl ?_; intro g3 cap3 w3 hown3 hgrow3 hbel3 hsz3 hat3; have O3 := hid hown3; have L3 := hid (hbel3 w L2.out); have hc3 : l.length + 2 + x.length ≤ cap3 := (by (obtain ⟨_, c', hv, hc', _⟩ := (Sl.own hown3).shape; simp only [Value.slice.injEq] at hv; omega)); clear hown3 hgrow3 hbel3 hat3))
  have e1 : (l ++ hd2 x.length ++ x).length = l.length + 2 + x.length := by simp [hd2]; omega
  have e2 : (hd2 x.length ++ x).length = l.length + 2 + x.length - l.length := by simp [hd2]; omega
  have hd : Sl w3 1 (.slice (some ⟨g3, l.length, none⟩) (l.length + 2 + x.length - l.length) (cap3 - l.length)) (l.length + 2 + x.length - l.length) (bc (hd2 x.length ++ x)) := by
    have h := Sl.drop (Sl.own O3.out) (ys := bc (hd2 x.length ++ x)) l.length (by omega) (by simp [bc])
    rw [Nat.zero_add] at h
    exact h
  have hs := sealed_any (.slice (some ⟨g3, 0, none⟩) (l.length + 2 + x.length) cap3) (.slice (some ⟨g3, l.length, none⟩) (l.length + 2 + x.length - l.length) (cap3 - l.length)) (l ++ hd2 x.length ++ x) (hd2 x.length ++ x) w.heap.size w3 hsz3 (by rw [e1]; omega) (by rw [e2]; omega) (by rw [e1]; exact O3.out) (by rw [e2]; exact hd)
  refine hs.mono ?_
  rintro e w4 ⟨ao4, c4, rfl, hb4, hown4⟩
  have L4 := hid (L3.out.trans hb4); have O4 := hid hown4; clear hb4 hown4 hs hd
  have e3 : (l ++ frameL x).length = (l ++ hd2 x.length ++ x).length + 4 := by simp [frameL, le4_length]; omega
  have e4 : l ++ frameL x = l ++ hd2 x.length ++ x ++ le4 (sumL (hd2 x.length ++ x)) := by simp [frameL]
  have E3 := hid e3; have E4 := hid e4; clear e1 e2 e3 e4
  go_wp2
  go_ret2
  exact ⟨ao4, c4, ret_sl2 (by rw [E3.out]; simp only [List.length_append]; omega), L4.out, by rw [E3.out, E4.out]; exact O4.out⟩

theorem put_big (v vx : Value) (l x : List UInt8) (w : World) (hx : 65535 < x.length) (hbx : Sl w 1 vx x.length (bc x)) :
    Calls Try.prog 18 #[v, vx] w fun e w' => e = .returned (.tuple #[.slice none 0 0, .int .i64 3]) ∧ w' = w := by
  obtain ⟨aox, cx, rfl, _, _, _⟩ := hbx.shape
  clear hbx
  go_enter Try.func18, Try.ntmps18
  go_wp2
  go_ret2
  exact ⟨rfl, rfl⟩

/-- Put in plain words. -/
def putF (l x : List UInt8) : List UInt8 × Int := if 65535 < x.length then ([], 3) else (l ++ frameL x, 0)
theorem putF_len (l x : List UInt8) : (putF l x).1.length ≤ l.length + 65541 := by
  unfold putF
  split
  · simp
  · rw [List.length_append, frameL_length]; omega

/-- What a function hands back that makes a row of bytes and an error. -/
def PutPostB (w : World) (r : List UInt8 × Int) (e : Ending) (w' : World) : Prop :=
  ∃ ao c, e = .returned (.tuple #[.slice ao r.1.length c, .int .i64 r.2]) ∧ Below w.heap.size w w' ∧ w'.ownsRow w.heap.size 5 1 (.slice ao r.1.length c) r.1.length (bc r.1)

theorem put_any (v vx : Value) (l x : List UInt8) (w : World) (hl : l.length ≤ 140737488355000) (hb : Sl w 1 v l.length (bc l)) (hbx : Sl w 1 vx x.length (bc x)) :
    Calls Try.prog 18 #[v, vx] w (PutPostB w (putF l x)) := by
  by_cases h : 65535 < x.length
  · have e : putF l x = ([], 3) := by unfold putF; rw [if_pos h]
    rw [e]
    exact (put_big v vx l x w h hbx).mono fun e w' ⟨he, hw⟩ => ⟨none, 0, he, by rw [hw]; exact Below.refl _ _, World.ownsRow_nil _ _ _ _⟩
  · have e : putF l x = (l ++ frameL x, 0) := by unfold putF; rw [if_neg h]
    rw [e]
    exact put_in v vx l x w hl (by omega) hb hbx
end Go.Proofs.Ytecnjgiodnphcaa
