/- slices.Clone of samples; window.Range, Instant. -/
import Derived.Test.YtebjdiiogihcdaaWj
namespace Go.Proofs.Ytebjdiiogihcdaa
open Go.RowKit
set_option linter.unusedSimpArgs false

set_option maxRecDepth 100000 in
set_option maxHeartbeats 1000000 in
theorem clone_any (v : Value) (l : List (Int × Int)) (w : World) (hl : l.length ≤ 10000000000000) (hb : Sl w 2 v l.length (sc l)) :
    Calls Try.prog 31 #[v] w fun e w' => ∃ ao cap, e = .returned (.slice ao l.length cap) ∧ Below w.heap.size w w' ∧
      w'.ownsRow w.heap.size 37 2 (.slice ao l.length cap) l.length (sc l) := by
  obtain ⟨i0, hi, hz0, hz1, hz2⟩ := info_parts infoSmp
  obtain ⟨ao, c, rfl, _, _, hao⟩ := hb.shape
  have Hb := hid hb
  clear hb
  cases ao with
  | none =>
    obtain ⟨h0, rfl⟩ := Hb.out.none_zero
    obtain rfl : l = [] := List.eq_nil_of_length_eq_zero h0
    clear hao h0
    have q : ∀ w : World, (binOp .eql 22 (.slice none 0 0) (.slice none 0 0)).run Try.prog w = .ok (.bool true) w := fun _ => rfl
    go_enter Try.func31, Try.ntmps31
    go_wp2
    go_ret
    exact ⟨none, 0, rfl, Below.refl _ _, World.ownsRow_nil _ _ _ _⟩
  | some a =>
    clear hao
    have q : ∀ w : World, (binOp .eql 22 (.slice (some a) l.length c) (.slice none 0 0)).run Try.prog w = .ok (.bool false) w := fun _ => rfl
    go_enter Try.func31, Try.ntmps31
    go_wp2_with (at_builtin; refine wpList_append_put rfl (.tmp 5) (.tmp 6) 22 22 rfl w.heap.size 37 i0 (.agg #[.int .i64 0, .int .i64 0]) 2 16 Try.underlying22 hi hz0 hz1 hz2 rfl (.slice (some ⟨w.heap.size, 0, none⟩) 0 0) 0 [] rfl (own_made _ _ 0 w.heap.size rfl (Nat.le_refl _) (by unfold maxLen; omega) (by simp)) (.slice (some a) l.length c) l.length (sc l) rfl (Src.ofSl Try.underlying22 (Hb.out.alloc _) (sc_one l)) (.inl (by simp)) (by unfold maxLen; omega) (by omega) (by simp) _ rfl ?_; intro g1 cap1 w1 hown1 hgrow1 hat1 hlt1 hcap1; simp only [Nat.zero_add, List.nil_append] at hown1 hcap1; have O1 := hid hown1; have L1 := hid (((Below.refl w.heap.size w).alloc (Nat.le_refl _) _).grown hgrow1 (by simp) (by intro k hk; simp [Value.ownBlock] at hk; omega)); clear hown1 hgrow1 hat1)
    go_wp2
    go_ret
    exact ⟨_, cap1, rfl, L1.out, O1.out⟩

/-- the samples of a range -/
def inR (e r : Int) (s : Int × Int) : Bool := decide (0 < r) && decide (s.1 ≤ e) && decide (e - s.1 < r)
def rangeL (l : List (Int × Int)) (e r : Int) : List (Int × Int) := l.filter (inR e r)
theorem rangeL_len (l : List (Int × Int)) (e r : Int) : (rangeL l e r).length ≤ l.length := List.length_filter_le _ _
theorem rangeL_none (l : List (Int × Int)) (e r : Int) (hr : r ≤ 0) : rangeL l e r = [] := by
  unfold rangeL
  rw [List.filter_eq_nil_iff]
  intro a _ h
  unfold inR at h
  simp at h
  omega
theorem filter_piece (p : Int × Int → Bool) (l : List (Int × Int)) (i j : Nat) (hij : i ≤ j) (hj : j ≤ l.length) (h1 : ∀ k, k < i → p (l.getD k (0, 0)) = false) (h2 : ∀ k, i ≤ k → k < j → p (l.getD k (0, 0)) = true) (h3 : ∀ k, j ≤ k → k < l.length → p (l.getD k (0, 0)) = false) :
    l.filter p = (l.take j).drop i := by
  have e : l = (l.take j).take i ++ ((l.take j).drop i ++ l.drop j) := by rw [← List.append_assoc, List.take_append_drop, List.take_append_drop]
  have a1 : ((l.take j).take i).filter p = [] := by
    rw [List.filter_eq_nil_iff]
    intro a ha h
    obtain ⟨k, hk, rfl⟩ := List.getElem_of_mem ha
    have hk' : k < i := by simp at hk; omega
    have := h1 k hk'
    rw [List.getD_eq_getElem?_getD, List.getElem?_eq_getElem (by omega : k < l.length)] at this
    simp at this h
    rw [this] at h; cases h
  have a2 : ((l.take j).drop i).filter p = (l.take j).drop i := by
    rw [List.filter_eq_self]
    intro a ha
    obtain ⟨k, hk, rfl⟩ := List.getElem_of_mem ha
    have hk' : i + k < j := by simp at hk; omega
    have := h2 (i + k) (by omega) hk'
    rw [List.getD_eq_getElem?_getD, List.getElem?_eq_getElem (by omega : i + k < l.length)] at this
    simpa using this
  have a3 : (l.drop j).filter p = [] := by
    rw [List.filter_eq_nil_iff]
    intro a ha h
    obtain ⟨k, hk, rfl⟩ := List.getElem_of_mem ha
    have hk' : j + k < l.length := by simp at hk; omega
    have := h3 (j + k) (by omega) hk'
    rw [List.getD_eq_getElem?_getD, List.getElem?_eq_getElem hk'] at this
    simp at this h
    rw [this] at h; cases h
  conv => lhs; rw [e]
  rw [List.filter_append, List.filter_append, a1, a2, a3]
  simp

/-- what Range's closures capture -/
def RgW (p q s : Nat) (ao : Option Addr) (c : Nat) (l : List (Int × Int)) (e r : Int) (w : World) : Prop :=
  w.heap[p]? = some (.cells #[.slice ao l.length c] 22 (0, 0)) ∧ w.heap[q]? = some (.cells #[.int .i64 e] 3 (0, 0)) ∧ w.heap[s]? = some (.cells #[.int .i64 r] 3 (0, 0)) ∧ Sl w 2 (.slice ao l.length c) l.length (sc l)
theorem RgW.below {p q s : Nat} {ao : Option Addr} {c : Nat} {l : List (Int × Int)} {e r : Int} {w w' : World} (h : RgW p q s ao c l e r w) (hb : Below w.heap.size w w') : RgW p q s ao c l e r w' :=
  ⟨blk_below h.1 hb (lt_of_blk h.1), blk_below h.2.1 hb (lt_of_blk h.2.1), blk_below h.2.2.1 hb (lt_of_blk h.2.2.1), h.2.2.2.below hb (fun _ _ h => h)⟩

set_option maxRecDepth 100000 in
set_option maxHeartbeats 1000000 in
theorem range1_any (p q s : Nat) (ao : Option Addr) (c : Nat) (l : List (Int × Int)) (en r : Int) (w : World) (h : RgW p q s ao c l en r w) (k : Nat) (hk : k < l.length) :
    Calls Try.prog 29 #[.int .i64 (k : Int), .pointer (some ⟨p, 0, none⟩), .pointer (some ⟨q, 0, none⟩)] w fun e w' => e = .returned (.bool (decide (en < (l.getD k (0, 0)).1))) ∧ Below w.heap.size w w' := by
  obtain ⟨hp, hq, _, hs⟩ := h
  obtain ⟨p0, p1, p2⟩ := blk1 hp
  obtain ⟨q0, q1, q2⟩ := blk1 hq
  obtain ⟨b, off, rfl, _, hcell⟩ := sc_cells hs (by omega)
  have hc := (hcell k hk).1
  have i0 : (0 : Int) ≤ (k : Int) := by omega
  have i1 : (k : Int) < (l.length : Int) := by omega
  generalize (l.getD k (0, 0)).1 = T at *
  clear hcell hs hp hq
  go_enter Try.func29, Try.ntmps29
  go_wp2
  go_quiet (fail)
  go_wp2
  go_ret
  exact ⟨rfl, by first | exact Below_drewN (Below.refl _ _) _ | exact Below_drewN (Below_drewN (Below.refl _ _) _) _⟩

set_option maxRecDepth 100000 in
set_option maxHeartbeats 1000000 in
theorem range2_any (p q s : Nat) (ao : Option Addr) (c : Nat) (l : List (Int × Int)) (en r : Int) (w : World) (h : RgW p q s ao c l en r w) (k : Nat) (hk : k < l.length) (hT0 : 0 ≤ (l.getD k (0, 0)).1) (hT1 : (l.getD k (0, 0)).1 ≤ en) (he : en ≤ 9223372036854775807) (hr0 : 0 < r) (hr1 : r ≤ 9223372036854775807) :
    Calls Try.prog 30 #[.int .i64 (k : Int), .pointer (some ⟨q, 0, none⟩), .pointer (some ⟨p, 0, none⟩), .pointer (some ⟨s, 0, none⟩)] w fun e w' => e = .returned (.bool (decide (en - (l.getD k (0, 0)).1 < r))) ∧ Below w.heap.size w w' := by
  obtain ⟨hp, hq, hr, hs⟩ := h
  obtain ⟨p0, p1, p2⟩ := blk1 hp
  obtain ⟨q0, q1, q2⟩ := blk1 hq
  obtain ⟨r0, r1, r2⟩ := blk1 hr
  obtain ⟨b, off, rfl, _, hcell⟩ := sc_cells hs (by omega)
  have hc := (hcell k hk).1
  have i0 : (0 : Int) ≤ (k : Int) := by omega
  have i1 : (k : Int) < (l.length : Int) := by omega
  generalize (l.getD k (0, 0)).1 = T at *
  have u1 : IntKind.u64.wrap en = en := by rw [IntKind.wrap_u64]; omega
  have u2 : IntKind.u64.wrap T = T := by rw [IntKind.wrap_u64]; omega
  have u3 : IntKind.u64.wrap (en - T) = en - T := by rw [IntKind.wrap_u64]; omega
  have u4 : IntKind.u64.wrap r = r := by rw [IntKind.wrap_u64]; omega
  clear hcell hs hp hq hr
  go_enter Try.func30, Try.ntmps30
  go_wp2
  go_quiet (fail)
  go_wp2
  go_ret
  exact ⟨rfl, by first | exact Below_drewN (Below.refl _ _) _ | exact Below_drewN (Below_drewN (Below.refl _ _) _) _⟩
end Go.Proofs.Ytebjdiiogihcdaa
