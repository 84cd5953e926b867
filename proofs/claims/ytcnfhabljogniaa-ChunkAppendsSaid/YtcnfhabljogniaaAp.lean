/- append of one byte, of bytes, of a string, onto bytes of the call's own: the law of XGk at this program's types. -/
import Derived.Test.YtcnfhabljogniaaProg
import Derived.Test.YtcnfhabljogniaaGk
namespace Go.Proofs.Ytcnfhabljogniaa
open Go.RowKit

theorem infoU8 : (Try.prog.info? 5).map (fun i => (i.zero, i.size, i.bytes)) = some (some (.int .u8 0), 1, 1) := by kernel_rfl

section
variable {ops : Array Oper} {rest : List Oper} {o : Oper} {a : Act} {w : World} {Q : Exit → Act → World → Prop} {K : Act → World → Prop}

/-- bytes onto bytes; where the new slice lies; what was below stays. -/
theorem wpList_appS (hgd : o.guard = none) (s x : Operand) (tx : TypeId) (ho : o.op = .call { callee := .builtin .append, args := #[s, x], argTypes := #[24, tx] })
    (base : Nat) (v : Value) (n : Nat) (l : List UInt8) (hsv : a.eval s = v) (hown : w.ownsRow base 5 1 v n (bc l)) (xv : Value) (m : Nat) (l2 : List UInt8) (hxv : a.eval x = xv) (hx : Src Try.prog 1 tx xv m (bc l2) w)
    (hpos : v ≠ .slice none 0 0 ∨ 0 < m) (hn : n + m ≤ 200000000000000) (hbase : base ≤ w.heap.size) (H : Nat) (hH : w.heap.size = H)
    (h : ∀ g cap w', w'.ownsRow base 5 1 (.slice (some ⟨g, 0, none⟩) (n + m) cap) (n + m) (bc (l ++ l2)) → w.grownBy w' v.ownBlock → (∀ W, Below base W w → Below base W w') → base ≤ w'.heap.size → (v.ownBlock = some g ∨ g = H) →
      wpList Try.prog ops Q rest (a.put o.dst (.slice (some ⟨g, 0, none⟩) (n + m) cap)) w') : wpList Try.prog ops Q (o :: rest) a w := by
  obtain ⟨i0, hi, hz0, hz1, hz2⟩ := info_parts infoU8
  refine wpList_append_put hgd s x 24 tx ho base 5 i0 (.int .u8 0) 1 1 Try.underlying24 hi hz0 hz1 hz2 rfl v n (bc l) hsv hown xv m (bc l2) hxv hx hpos (by unfold maxLen; omega) (by omega) hbase H hH ?_
  intro g cap w' h1 h2 h3 _ _
  rw [← bc_append] at h1
  exact h g cap w' h1 h2 (fun W hW => hW.grown h2 hbase (fun k hk => (hown.lt k hk).1)) (Nat.le_trans hbase h2.size) h3

/-- one byte, which the statement lays in a block of its own first -/
theorem wpList_app1 (hgd : o.guard = none) (s x : Operand) (ho : o.op = .call { callee := .builtin .append, args := #[s, x], argTypes := #[24, 24] })
    (base : Nat) (v : Value) (n : Nat) (l : List UInt8) (b : Int) (hsv : a.eval s = v) (hown : w.ownsRow base 5 1 v n (bc l)) (H0 : Nat) (hH0 : w.heap.size = H0) (hxv : a.eval x = .slice (some ⟨H0, 0, none⟩) 1 1)
    (hb0 : 0 ≤ b) (hb1 : b < 256) (hn : n < 200000000000000) (hbase : base ≤ w.heap.size)
    (h : ∀ g cap w', w'.ownsRow base 5 1 (.slice (some ⟨g, 0, none⟩) (n + 1) cap) (n + 1) (bc (l ++ [UInt8.ofNat b.toNat])) → w.grownBy w' v.ownBlock → (∀ W, Below base W w → Below base W w') → base ≤ w'.heap.size → (v.ownBlock = some g ∨ g = H0 + 1) →
      wpList Try.prog ops Q rest (a.put o.dst (.slice (some ⟨g, 0, none⟩) (n + 1) cap)) w') : wpList Try.prog ops Q (o :: rest) a (w.alloc (.cells #[.int .u8 b] 5)) := by
  subst hH0
  have e : bc [UInt8.ofNat b.toNat] = [.int .u8 b] := by
    simp only [bc, List.map_cons, List.map_nil]
    rw [UInt8.toNat_ofNat', Nat.mod_eq_of_lt (by omega), Int.toNat_of_nonneg hb0]
  have hsrc : Src Try.prog 1 24 (.slice (some ⟨w.heap.size, 0, none⟩) 1 1) 1 (bc [UInt8.ofNat b.toNat]) (w.alloc (.cells #[.int .u8 b] 5)) := by
    rw [e]
    exact Src.ofSlice _ Try.underlying24 _ 1 1 [.int .u8 b] rfl (World.news_of_block (cs := #[.int .u8 b]) (t := 5) (fr := (0, 0)) (heap_alloc_new w _)) (by simp [Value.oneCell'])
  refine wpList_appS hgd s x 24 ho base v n l hsv (hown.alloc _) _ 1 [UInt8.ofNat b.toNat] hxv hsrc (.inr (by omega)) (by omega) (by simp; omega) (w.heap.size + 1) (by simp) ?_
  intro g cap w' h1 h2 h3 h4 h5
  refine h g cap w' h1 ⟨h2.os, h2.tape, h2.output, by have := h2.size; simp at this; omega, fun k hk hne => ?_⟩ (fun W hW => h3 W (hW.alloc hbase _)) h4 h5
  rw [h2.block k (by simp; omega) hne]
  exact Below.heap_alloc w _ k hk

/-- some bytes, which the statement lays in a block of their own first -/
theorem wpList_appB (hgd : o.guard = none) (s x : Operand) (ho : o.op = .call { callee := .builtin .append, args := #[s, x], argTypes := #[24, 24] })
    (base : Nat) (v : Value) (n : Nat) (l : List UInt8) (hsv : a.eval s = v) (hown : w.ownsRow base 5 1 v n (bc l)) (m : Nat) (l2 : List UInt8) (cs : Array Value) (H0 : Nat) (hH0 : w.heap.size = H0) (hxv : a.eval x = .slice (some ⟨H0, 0, none⟩) m m)
    (hcs : cs.toList = bc l2) (hm : l2.length = m) (hm0 : 0 < m) (hn : n + m ≤ 200000000000000) (hbase : base ≤ w.heap.size)
    (h : ∀ g cap w', w'.ownsRow base 5 1 (.slice (some ⟨g, 0, none⟩) (n + m) cap) (n + m) (bc (l ++ l2)) → w.grownBy w' v.ownBlock → (∀ W, Below base W w → Below base W w') → base ≤ w'.heap.size → (v.ownBlock = some g ∨ g = H0 + 1) →
      wpList Try.prog ops Q rest (a.put o.dst (.slice (some ⟨g, 0, none⟩) (n + m) cap)) w') : wpList Try.prog ops Q (o :: rest) a (w.alloc (.cells cs 5)) := by
  subst hH0
  have hsrc : Src Try.prog 1 24 (.slice (some ⟨w.heap.size, 0, none⟩) m m) m (bc l2) (w.alloc (.cells cs 5)) :=
    Src.ofSl Try.underlying24 (Sl.blk (blk_new w _ _ rfl) m (bc l2) hcs (by simp [hm]) (by unfold maxLen; omega)) (bc_one l2)
  refine wpList_appS hgd s x 24 ho base v n l hsv (hown.alloc _) _ m l2 hxv hsrc (.inr hm0) hn (by simp; omega) (w.heap.size + 1) (by simp) ?_
  intro g cap w' h1 h2 h3 h4 h5
  refine h g cap w' h1 ⟨h2.os, h2.tape, h2.output, by have := h2.size; simp at this; omega, fun k hk hne => ?_⟩ (fun W hW => h3 W (hW.alloc hbase _)) h4 h5
  rw [h2.block k (by simp; omega) hne]
  exact Below.heap_alloc w _ k hk

/-- the same at a step of a region that draws -/
theorem step_appS {E : Prop} (hgd : o.guard = none) (s x : Operand) (tx : TypeId) (ho : o.op = .call { callee := .builtin .append, args := #[s, x], argTypes := #[24, tx] })
    (base : Nat) (v : Value) (n : Nat) (l : List UInt8) (hsv : a.eval s = v) (hown : w.ownsRow base 5 1 v n (bc l)) (xv : Value) (m : Nat) (l2 : List UInt8) (hxv : a.eval x = xv) (hx : Src Try.prog 1 tx xv m (bc l2) w)
    (hpos : v ≠ .slice none 0 0 ∨ 0 < m) (hn : n + m ≤ 200000000000000) (hbase : base ≤ w.heap.size) (H : Nat) (hH : w.heap.size = H)
    (h : ∀ g cap w', w'.ownsRow base 5 1 (.slice (some ⟨g, 0, none⟩) (n + m) cap) (n + m) (bc (l ++ l2)) → w.grownBy w' v.ownBlock → (∀ W, Below base W w → Below base W w') → base ≤ w'.heap.size → (v.ownBlock = some g ∨ g = H) →
      K (a.put o.dst (.slice (some ⟨g, 0, none⟩) (n + m) cap)) w') : if Region.wanted o (yielded ops a.tmps) = true then Oper.wp Try.prog o a w K Q else E := by
  obtain ⟨i0, hi, hz0, hz1, hz2⟩ := info_parts infoU8
  refine step_append_put hgd s x 24 tx ho base 5 i0 (.int .u8 0) 1 1 Try.underlying24 hi hz0 hz1 hz2 rfl v n (bc l) hsv hown xv m (bc l2) hxv hx hpos (by unfold maxLen; omega) (by omega) hbase H hH ?_
  intro g cap w' h1 h2 h3 _ _
  rw [← bc_append] at h1
  exact h g cap w' h1 h2 (fun W hW => hW.grown h2 hbase (fun k hk => (hown.lt k hk).1)) (Nat.le_trans hbase h2.size) h3

theorem step_app1 {E : Prop} (hgd : o.guard = none) (s x : Operand) (ho : o.op = .call { callee := .builtin .append, args := #[s, x], argTypes := #[24, 24] })
    (base : Nat) (v : Value) (n : Nat) (l : List UInt8) (b : Int) (hsv : a.eval s = v) (hown : w.ownsRow base 5 1 v n (bc l)) (H0 : Nat) (hH0 : w.heap.size = H0) (hxv : a.eval x = .slice (some ⟨H0, 0, none⟩) 1 1)
    (hb0 : 0 ≤ b) (hb1 : b < 256) (hn : n < 200000000000000) (hbase : base ≤ w.heap.size)
    (h : ∀ g cap w', w'.ownsRow base 5 1 (.slice (some ⟨g, 0, none⟩) (n + 1) cap) (n + 1) (bc (l ++ [UInt8.ofNat b.toNat])) → w.grownBy w' v.ownBlock → (∀ W, Below base W w → Below base W w') → base ≤ w'.heap.size → (v.ownBlock = some g ∨ g = H0 + 1) →
      K (a.put o.dst (.slice (some ⟨g, 0, none⟩) (n + 1) cap)) w') : if Region.wanted o (yielded ops a.tmps) = true then Oper.wp Try.prog o a (w.alloc (.cells #[.int .u8 b] 5)).drew K Q else E := by
  subst hH0
  have e : bc [UInt8.ofNat b.toNat] = [.int .u8 b] := by
    simp only [bc, List.map_cons, List.map_nil]
    rw [UInt8.toNat_ofNat', Nat.mod_eq_of_lt (by omega), Int.toNat_of_nonneg hb0]
  have hsrc : Src Try.prog 1 24 (.slice (some ⟨w.heap.size, 0, none⟩) 1 1) 1 (bc [UInt8.ofNat b.toNat]) (w.alloc (.cells #[.int .u8 b] 5)).drew := by
    rw [e]
    exact Src.ofSlice _ Try.underlying24 _ 1 1 [.int .u8 b] rfl (World.news_of_block (cs := #[.int .u8 b]) (t := 5) (fr := (0, 0)) (heap_alloc_new w _)) (by simp [Value.oneCell'])
  refine step_appS hgd s x 24 ho base v n l hsv (hown.alloc _) _ 1 [UInt8.ofNat b.toNat] hxv hsrc (.inr (by omega)) (by omega) (by simp; omega) (w.heap.size + 1) (by simp) ?_
  intro g cap w' h1 h2 h3 h4 h5
  refine h g cap w' h1 ⟨h2.os, h2.tape, h2.output, by have := h2.size; simp at this; omega, fun k hk hne => ?_⟩ (fun W hW => h3 W (hW.alloc hbase _).drew) h4 h5
  rw [h2.block k (by simp; omega) hne]
  exact Below.heap_alloc w _ k hk

end
end Go.Proofs.Ytcnfhabljogniaa
