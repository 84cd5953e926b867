/- chunk.Decode in plain words; what its world holds. -/
import Derived.Test.YtcnfhabljogniaaCi
namespace Go.Proofs.Ytcnfhabljogniaa
open Go.RowKit
set_option linter.unusedSimpArgs false

/-- the last sample -/
def lastP (s : List (Int × Int)) : Int × Int := s.getD (s.length - 1) (0, 0)
/-- the next time, its distance, and the place behind it -/
def tAt (l : List UInt8) (s : List (Int × Int)) (far : Int) (a : Nat) : Option (Int × Int × Nat) :=
  if s.length = 0 then (rdT l a).map fun q => (q.1, far, q.2)
  else if s.length = 1 then (rdT l a).map fun q => ((lastP s).1 + q.1, q.1, q.2)
  else (rdS 1099511627776 l a).map fun q => ((lastP s).1 + (far + q.1), far + q.1, q.2)
def prevV (s : List (Int × Int)) : Int := if s.length = 0 then 0 else (lastP s).2
/-- one sample more -/
def stepD (l : List UInt8) (s : List (Int × Int)) (far : Int) (a : Nat) : Option (List (Int × Int) × Int × Nat) :=
  match tAt l s far a with
  | none => none
  | some (T, f, b) =>
    match rdS 2305843009213693952 l b with
    | none => none
    | some (v, c) => if mayB T (v + prevV s) = false ∨ (0 < s.length ∧ f < 1) then none else some (s ++ [(T, v + prevV s)], f, c)
def runD (l : List UInt8) (a0 : Nat) : Nat → Option (List (Int × Int) × Int × Nat)
  | 0 => some ([], 0, a0)
  | n + 1 => (runD l a0 n).bind fun q => stepD l q.1 q.2.1 q.2.2
def endBad (l : List UInt8) (a : Nat) : Bool := decide (7 < 8 * l.length - a) || (decide (0 < 8 * l.length - a) && decide ((l.getD (l.length - 1) 0).toNat * 2 ^ (8 - (8 * l.length - a)) % 256 ≠ 0))
/-- chunk.Decode -/
def decV (l : List UInt8) : List (Int × Int) × Int :=
  match rdU l 0 with
  | none => ([], 5)
  | some (many, a0) =>
    if many < 1 ∨ 120 < many then ([], 5) else
    match runD l a0 many.toNat with
    | none => ([], 5)
    | some (s, _, a) => if endBad l a = true then ([], 5) else (s, 0)

theorem rdT_ok {l : List UInt8} {a b : Nat} {u : Int} (h : rdT l a = some (u, b)) : 0 ≤ u ∧ u ≤ 1099511627776 ∧ b ≤ 8 * l.length := by
  unfold rdT at h
  cases hr : rdU l a with
  | none => rw [hr] at h; cases h
  | some q =>
    obtain ⟨x, y⟩ := q
    rw [hr] at h
    have := rdU_ok hr
    simp only at h
    split at h
    · cases h
    · simp only [Option.some.injEq, Prod.mk.injEq] at h
      obtain ⟨rfl, rfl⟩ := h
      exact ⟨this.1, by omega, this.2.2.1⟩
theorem rdS_ok {m : Int} {l : List UInt8} {a b : Nat} {u : Int} (h : rdS m l a = some (u, b)) : -m ≤ u ∧ u ≤ m ∧ b ≤ 8 * l.length := by
  unfold rdS at h
  cases hr : rdU l a with
  | none => rw [hr] at h; cases h
  | some q =>
    obtain ⟨x, y⟩ := q
    rw [hr] at h
    have := rdU_ok hr
    simp only at h
    split at h
    · cases h
    · simp only [Option.some.injEq, Prod.mk.injEq] at h
      obtain ⟨rfl, rfl⟩ := h
      exact ⟨by omega, by omega, this.2.2.1⟩

/-- what stands behind k samples -/
structure InvD (l : List UInt8) (k : Nat) (s : List (Int × Int)) (far : Int) (a : Nat) : Prop where
  len : s.length = k
  may : ∀ i, i < k → mayB (s.getD i (0, 0)).1 (s.getD i (0, 0)).2 = true
  rise : ∀ i, i + 1 < k → (s.getD i (0, 0)).1 < (s.getD (i + 1) (0, 0)).1
  far0 : k ≤ 1 → far = 0
  far2 : 2 ≤ k → far = farAt s (k - 1)
  place : a ≤ 8 * l.length
theorem InvD.bounds {l : List UInt8} {k : Nat} {s : List (Int × Int)} {far : Int} {a : Nat} (h : InvD l k s far a) : 0 ≤ far ∧ far ≤ 1099511627776 := by
  by_cases hk : k ≤ 1
  · rw [h.far0 hk]; decide
  · have h1 := mayB_iff.1 (h.may (k - 1) (by omega))
    have h0 := mayB_iff.1 (h.may (k - 2) (by omega))
    have h2 := h.rise (k - 2) (by omega)
    rw [show k - 2 + 1 = k - 1 by omega] at h2
    rw [h.far2 (by omega)]
    unfold farAt
    rw [show k - 1 - 1 = k - 2 by omega]
    omega
theorem InvD.last {l : List UInt8} {k : Nat} {s : List (Int × Int)} {far : Int} {a : Nat} (h : InvD l k s far a) (hk : 0 < k) : 0 ≤ (lastP s).1 ∧ (lastP s).1 ≤ 1099511627776 ∧ -1152921504606846976 ≤ (lastP s).2 ∧ (lastP s).2 ≤ 1152921504606846976 := by
  have := mayB_iff.1 (h.may (k - 1) (by omega))
  unfold lastP
  rw [h.len]
  exact this
theorem getD_snoc (s : List (Int × Int)) (x : Int × Int) (i : Nat) : (s ++ [x]).getD i (0, 0) = if i < s.length then s.getD i (0, 0) else if i = s.length then x else (0, 0) := by
  by_cases h : i < s.length
  · simp [List.getD, h, List.getElem?_append_left h]
  · rw [if_neg h]
    by_cases h2 : i = s.length
    · subst h2; simp [List.getD]
    · rw [if_neg h2]
      simp only [List.getD]
      rw [List.getElem?_eq_none (by simp; omega)]
      rfl
theorem stepD_ok {l : List UInt8} {s s' : List (Int × Int)} {far far' : Int} {a a' : Nat} (h : stepD l s far a = some (s', far', a')) : ∃ T b v, tAt l s far a = some (T, far', b) ∧ rdS 2305843009213693952 l b = some (v, a') ∧ mayB T (v + prevV s) = true ∧ (0 < s.length → 1 ≤ far') ∧ s' = s ++ [(T, v + prevV s)] := by
  unfold stepD at h
  split at h
  · cases h
  · rename_i T f b ht
    split at h
    · cases h
    · rename_i v c hv
      split at h
      · cases h
      · rename_i hc
        simp only [Option.some.injEq, Prod.mk.injEq] at h
        obtain ⟨rfl, rfl, rfl⟩ := h
        refine ⟨T, b, v, ht, hv, ?_, fun h0 => ?_, rfl⟩
        · cases hm : mayB T (v + prevV s)
          · exact absurd (.inl hm) hc
          · rfl
        · exact Int.not_lt.1 fun hh => hc (.inr ⟨h0, hh⟩)
theorem InvD.step {l : List UInt8} {k : Nat} {s s' : List (Int × Int)} {far far' : Int} {a a' : Nat} (h : InvD l k s far a) (hs : stepD l s far a = some (s', far', a')) : InvD l (k + 1) s' far' a' := by
  obtain ⟨T, b, v, ht, hv, hm, hf, rfl⟩ := stepD_ok hs
  have hl := h.len
  refine ⟨by simp [hl], fun i hi => ?_, fun i hi => ?_, fun hk => ?_, fun hk => ?_, (rdS_ok hv).2.2⟩
  · rw [getD_snoc]
    by_cases hik : i < s.length
    · rw [if_pos hik]; exact h.may i (by omega)
    · rw [if_neg hik, if_pos (by omega)]; exact hm
  · have hik : i < s.length := by omega
    rw [getD_snoc, getD_snoc, if_pos hik]
    by_cases hik2 : i + 1 < s.length
    · rw [if_pos hik2]; exact h.rise i (by omega)
    · rw [if_neg hik2, if_pos (by omega)]
      have h1 := hf (by omega)
      have hlast : lastP s = s.getD i (0, 0) := by unfold lastP; rw [show s.length - 1 = i by omega]
      unfold tAt at ht
      rw [if_neg (by omega), hlast] at ht
      split at ht
      · simp only [Option.map_eq_some_iff, Prod.mk.injEq] at ht
        obtain ⟨q, _, h3, h4, _⟩ := ht
        show (s.getD i (0, 0)).1 < T
        omega
      · simp only [Option.map_eq_some_iff, Prod.mk.injEq] at ht
        obtain ⟨q, _, h3, h4, _⟩ := ht
        show (s.getD i (0, 0)).1 < T
        omega
  · have h0 : s.length = 0 := by omega
    unfold tAt at ht
    rw [if_pos h0] at ht
    simp only [Option.map_eq_some_iff, Prod.mk.injEq] at ht
    obtain ⟨q, _, _, h4, _⟩ := ht
    rw [← h4]; exact h.far0 (by omega)
  · have hlast : lastP s = s.getD (k - 1) (0, 0) := by unfold lastP; rw [hl]
    unfold farAt
    rw [show k + 1 - 1 = k by omega, getD_snoc, getD_snoc, if_neg (by omega), if_pos hl.symm, if_pos (by omega)]
    unfold tAt at ht
    rw [if_neg (by omega), hlast] at ht
    split at ht
    · simp only [Option.map_eq_some_iff, Prod.mk.injEq] at ht
      obtain ⟨q, _, h3, h4, _⟩ := ht
      show far' = T - (s.getD (k - 1) (0, 0)).1
      omega
    · simp only [Option.map_eq_some_iff, Prod.mk.injEq] at ht
      obtain ⟨q, _, h3, h4, _⟩ := ht
      show far' = T - (s.getD (k - 1) (0, 0)).1
      omega
theorem runD_inv {l : List UInt8} {a0 : Nat} (h0 : a0 ≤ 8 * l.length) : ∀ k s far a, runD l a0 k = some (s, far, a) → InvD l k s far a := by
  intro k
  induction k with
  | zero =>
    intro s far a h
    simp only [runD, Option.some.injEq, Prod.mk.injEq] at h
    obtain ⟨rfl, rfl, rfl⟩ := h
    exact ⟨rfl, fun i hi => by omega, fun i hi => by omega, fun _ => rfl, fun hk => by omega, h0⟩
  | succ k ih =>
    intro s far a h
    simp only [runD, Option.bind_eq_some_iff] at h
    obtain ⟨⟨s0, f0, b0⟩, h1, h2⟩ := h
    exact (ih s0 f0 b0 h1).step h2
theorem runD_none {l : List UInt8} {a0 k : Nat} (h : runD l a0 k = none) : ∀ n, k ≤ n → runD l a0 n = none := by
  intro n hn
  induction n with
  | zero => (have hk : k = 0 := by omega); rw [hk] at h; exact h
  | succ n ih =>
    by_cases hk : k = n + 1
    · subst hk; exact h
    · simp only [runD, ih (by omega), Option.bind_none]

/-- What the world of Decode holds: nothing old has changed; the two results, the reader, the samples. -/
def DW (w : World) (bv : Value) (l : List UInt8) (a : Nat) (ao : Option Addr) (c : Nat) (s : List (Int × Int)) (wr : World) : Prop :=
  Below w.heap.size w wr ∧ wr.heap[w.heap.size]? = some (.cells #[.slice ao s.length c] 22 (0, 0)) ∧ wr.heap[w.heap.size + 1]? = some (.cells #[.int .i64 0] 25 (0, 0)) ∧
    Rd (w.heap.size + 2) bv l a wr ∧ wr.ownsRow (w.heap.size + 3) 40 2 (.slice ao s.length c) s.length (sc s)
section
variable {w wr wr' : World} {bv : Value} {l : List UInt8} {a a' : Nat} {ao : Option Addr} {c : Nat} {s : List (Int × Int)}
theorem DW.size (h : DW w bv l a ao c s wr) : w.heap.size + 3 ≤ wr.heap.size := by have := lt_of_blk h.2.2.2.1; omega
theorem DW.alloc (h : DW w bv l a ao c s wr) (o : Obj) : DW w bv l a ao c s (wr.alloc o) :=
  ⟨h.1.alloc (by have := h.size; omega) o, blk_alloc h.2.1 o, blk_alloc h.2.2.1 o, blk_alloc h.2.2.2.1 o, h.2.2.2.2.alloc o⟩
theorem DW.drewN (h : DW w bv l a ao c s wr) (n : Nat) : DW w bv l a ao c s (wr.drewN n) := ⟨Below_drewN h.1 n, h.2.1, h.2.2.1, h.2.2.2.1, h.2.2.2.2⟩
theorem DW.read (h : DW w bv l a ao c s wr) (hg : wr.grownBy wr' (some (w.heap.size + 2))) (hr : Rd (w.heap.size + 2) bv l a' wr') : DW w bv l a' ao c s wr' := by
  have hs := h.size
  refine ⟨h.1.grown hg (by omega) (by intro k hk; simp at hk; omega), ?_, ?_, hr, own_keep h.2.2.2.2 fun k hk => hg.block k (h.2.2.2.2.lt k hk).2 (by have := (h.2.2.2.2.lt k hk).1; simp; omega)⟩
  · rw [hg.block _ (by omega) (by simp)]; exact h.2.1
  · rw [hg.block _ (by omega) (by simp)]; exact h.2.2.1
theorem DW.below (h : DW w bv l a ao c s wr) (hb : Below wr.heap.size wr wr') : DW w bv l a ao c s wr' := by
  have hs := h.size
  exact ⟨h.1.trans (hb.mono (by omega)), blk_below h.2.1 hb (by omega), blk_below h.2.2.1 hb (by omega), blk_below h.2.2.2.1 hb (by omega), own_below h.2.2.2.2 hb (Nat.le_refl _)⟩
theorem DW.setCell (h : DW w bv l a ao c s wr) (p : Nat) (j : Nat) (u : Value) (h1 : w.heap.size + 2 < p) (h2 : (Value.slice ao s.length c).ownBlock ≠ some p) : DW w bv l a ao c s (wr.setCell ⟨p, j, none⟩ u) := by
  have hs := h.size
  exact ⟨h.1.setCell (by simp; omega) u, blk_setCell_other h.2.1 ⟨p, j, none⟩ u (by simp; omega), blk_setCell_other h.2.2.1 ⟨p, j, none⟩ u (by simp; omega), blk_setCell_other h.2.2.2.1 ⟨p, j, none⟩ u (by simp; omega), own_setOther h.2.2.2.2 ⟨p, j, none⟩ u h2⟩
end

/-- the end of Decode, where it gives up -/
theorem door_bad {w wr : World} {bv : Value} {l : List UInt8} {a : Nat} {ao : Option Addr} {c : Nat} {s : List (Int × Int)} (h : DW w bv l a ao c s wr) (tmps : Array Value) (h2 : tmps[2]?.getD undef = .pointer (some ⟨w.heap.size, 0, none⟩)) (h3 : tmps[3]?.getD undef = .pointer (some ⟨w.heap.size + 1, 0, none⟩)) :
    Leaves Try.prog Try.f19 tmps (DecPost w ([], 5)) (dfr w.heap.size) .returning ((wr.setCell ⟨w.heap.size, 0, none⟩ (.slice none 0 0)).setCell ⟨w.heap.size + 1, 0, none⟩ (.int .i64 5)) := by
  have hne : w.heap.size ≠ w.heap.size + 1 := by omega
  have hne' : w.heap.size + 1 ≠ w.heap.size := by omega
  refine door_back w _ tmps none 0 5 [] h2 h3 ((h.1.setCell (Nat.le_refl _) _).setCell (by simp) _) ?_ ?_ (World.ownsRow_nil _ _ _ _)
  · exact blk_setCell_other (blk_setCell h.2.1 0 (.slice none 0 0)) ⟨w.heap.size + 1, 0, none⟩ _ hne
  · exact blk_setCell (blk_setCell_other h.2.2.1 ⟨w.heap.size, 0, none⟩ _ hne') 0 (.int .i64 5)
end Go.Proofs.Ytcnfhabljogniaa
