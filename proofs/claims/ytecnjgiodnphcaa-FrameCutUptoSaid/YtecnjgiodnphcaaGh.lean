/- Rows of rows of bytes; frame.All and its reference. -/
import Derived.Test.YtecnjgiodnphcaaGg
namespace Go.Proofs.Ytecnjgiodnphcaa
open Go.RowKit

theorem infoSl : (Try.prog.info? 22).map (fun i => (i.zero, i.size, i.bytes)) = some (some (.slice none 0 0), 1, 24) := by kernel_rfl

/-- n rows of bytes, each of the call's own, no two in one block -/
def RowsAt (w : World) (base : Nat) (f : Nat → Value) (Ls : List (List UInt8)) : Prop :=
  (∀ i, i < Ls.length → (∃ ao c, f i = .slice ao (Ls.getD i []).length c) ∧ w.ownsRow base 5 1 (f i) (Ls.getD i []).length (bc (Ls.getD i []))) ∧
  ∀ i j, i < j → j < Ls.length → ∀ k, (f i).ownBlock = some k → (f j).ownBlock ≠ some k
/-- the slice of these rows -/
def RowsOf (w : World) (base : Nat) (v : Value) (Ls : List (List UInt8)) : Prop :=
  ∃ f, w.ownsRow base 22 1 v Ls.length ((List.range Ls.length).map f) ∧ RowsAt w base f Ls
theorem RowsOf.nil (w : World) (base : Nat) : RowsOf w base (.slice none 0 0) [] := ⟨fun _ => .slice none 0 0, World.ownsRow_nil _ _ _ _, fun i h => by simp at h, fun i j _ h => by simp at h⟩
theorem RowsAt.below {w w' : World} {base : Nat} {f : Nat → Value} {Ls : List (List UInt8)} (h : RowsAt w base f Ls) (hb : Below w.heap.size w w') : RowsAt w' base f Ls :=
  ⟨fun i hi => ⟨(h.1 i hi).1, own_below (h.1 i hi).2 hb (Nat.le_refl _)⟩, h.2⟩
theorem RowsOf.below {w w' : World} {base : Nat} {v : Value} {Ls : List (List UInt8)} (h : RowsOf w base v Ls) (hb : Below w.heap.size w w') : RowsOf w' base v Ls := by
  obtain ⟨f, h1, h2⟩ := h
  exact ⟨f, own_below h1 hb (Nat.le_refl _), h2.below hb⟩
theorem RowsOf.shape {w : World} {base : Nat} {v : Value} {Ls : List (List UInt8)} (h : RowsOf w base v Ls) : ∃ ao c, v = .slice ao Ls.length c ∧ Ls.length ≤ c := by
  obtain ⟨f, h1, _⟩ := h
  obtain ⟨ao, c, rfl, h2, _⟩ := (Sl.own h1).shape
  exact ⟨ao, c, rfl, h2⟩
/-- one row more -/
theorem RowsAt.snoc {w : World} {base : Nat} {f : Nat → Value} {Ls : List (List UInt8)} (h : RowsAt w base f Ls) (ao : Option Addr) (c : Nat) (x : List UInt8) (hx : w.ownsRow base 5 1 (.slice ao x.length c) x.length (bc x))
    (hn : ∀ i, i < Ls.length → ∀ k, (f i).ownBlock = some k → (Value.slice ao x.length c).ownBlock ≠ some k) : RowsAt w base (fun i => if i < Ls.length then f i else .slice ao x.length c) (Ls ++ [x]) := by
  refine ⟨fun i hi => ?_, fun i j hij hj k hk => ?_⟩
  · by_cases h1 : i < Ls.length
    · have e : (Ls ++ [x]).getD i [] = Ls.getD i [] := by simp [List.getD, List.getElem?_append_left h1]
      simp only [h1, if_true, e]
      exact h.1 i h1
    · obtain rfl : i = Ls.length := by simp at hi; omega
      have e : (Ls ++ [x]).getD Ls.length [] = x := by simp [List.getD]
      simp only [Nat.lt_irrefl, if_false, e]
      exact ⟨⟨ao, c, rfl⟩, hx⟩
  · simp only [List.length_append, List.length_cons, List.length_nil] at hj
    have h1 : i < Ls.length := by omega
    simp only [h1, if_true] at hk
    by_cases h2 : j < Ls.length
    · simp only [h2, if_true]
      exact h.2 i j hij h2 k hk
    · simp only [h2, if_false]
      exact hn i h1 k hk
theorem rows_map_snoc (f : Nat → Value) (n : Nat) (v : Value) : (List.range n).map f ++ [v] = (List.range (n + 1)).map (fun i => if i < n then f i else v) := by
  rw [List.range_succ, List.map_append]
  congr 1
  · apply List.map_congr_left
    intro i hi
    simp at hi
    simp [hi]
  · simp
theorem own_keep_rows {w w' : World} {base : Nat} {f : Nat → Value} {Ls : List (List UInt8)} (h : RowsAt w base f Ls) (hk : ∀ i, i < Ls.length → ∀ k, (f i).ownBlock = some k → w'.heap[k]? = w.heap[k]?) : RowsAt w' base f Ls :=
  ⟨fun i hi => ⟨(h.1 i hi).1, own_keep (h.1 i hi).2 (hk i hi)⟩, h.2⟩

section
variable {ops : Array Oper} {rest : List Oper} {o : Oper} {a : Act} {w : World} {Q : Exit → Act → World → Prop} {K : Act → World → Prop}

/-- append of one row onto rows -/
theorem wpList_appR (hgd : o.guard = none) (s x : Operand) (ho : o.op = .call { callee := .builtin .append, args := #[s, x], argTypes := #[57, 57] })
    (base : Nat) (v : Value) (Ls : List (List UInt8)) (hsv : a.eval s = v) (f : Nat → Value) (hv : w.ownsRow base 22 1 v Ls.length ((List.range Ls.length).map f)) (hf : RowsAt w base f Ls) (ao : Option Addr) (c : Nat) (y : List UInt8) (hy : w.ownsRow base 5 1 (.slice ao y.length c) y.length (bc y))
    (hdis : ∀ i, i < Ls.length → ∀ k, (f i).ownBlock = some k → (Value.slice ao y.length c).ownBlock ≠ some k)
    (H0 : Nat) (hH0 : w.heap.size = H0) (hxv : a.eval x = .slice (some ⟨H0, 0, none⟩) 1 1) (hn : Ls.length ≤ 10000000) (hbase : base ≤ w.heap.size)
    (h : ∀ g cap w', RowsOf w' base (.slice (some ⟨g, 0, none⟩) (Ls.length + 1) cap) (Ls ++ [y]) → (∀ W, Below base W w → Below base W w') → base ≤ w'.heap.size →
      wpList Try.prog ops Q rest (a.put o.dst (.slice (some ⟨g, 0, none⟩) (Ls.length + 1) cap)) w') : wpList Try.prog ops Q (o :: rest) a (w.alloc (.cells #[.slice ao y.length c] 22)) := by
  subst hH0
  obtain ⟨i0, hi, hz0, hz1, hz2⟩ := info_parts infoSl
  have hsrc : Src Try.prog 1 57 (.slice (some ⟨w.heap.size, 0, none⟩) 1 1) 1 [.slice ao y.length c] (w.alloc (.cells #[.slice ao y.length c] 22)) :=
    Src.ofSlice _ Try.underlying57 _ 1 1 [.slice ao y.length c] rfl (World.news_of_block (cs := #[.slice ao y.length c]) (t := 22) (fr := (0, 0)) (heap_alloc_new w _)) (by simp [Value.oneCell'])
  refine wpList_append_put hgd s x 57 57 ho base 22 i0 (.slice none 0 0) 1 24 Try.underlying57 hi hz0 hz1 hz2 rfl v Ls.length _ hsv (hv.alloc _) _ 1 _ hxv hsrc (.inr (by omega)) (by unfold maxLen; omega) (by omega) (by simp; omega) (w.heap.size + 1) (by simp) ?_
  intro g cap w' h1 h2 h3 _ _
  have hfb : ∀ i, i < Ls.length → ∀ k, (f i).ownBlock = some k → w'.heap[k]? = w.heap[k]? := by
    intro i hi k hk
    have hlt := ((hf.1 i hi).2.lt k hk).2
    rw [h2.block k (by simp; omega) ?_]
    · exact Below.heap_alloc w _ k hlt
    · intro e
      obtain ⟨ho1, ho2⟩ := hf.1 i hi
      rcases ho2.2 with ⟨hnil, _⟩ | ⟨g', cap', cur, hv', _, hg', _⟩
      · rw [hnil] at hk; simp [Value.ownBlock] at hk
      · rw [hv'] at hk
        simp only [Value.ownBlock, Option.some.injEq] at hk
        subst hk
        exact own_ne_blk hv hg' (by decide) e.symm
  have hyb : ∀ k, (Value.slice ao y.length c).ownBlock = some k → w'.heap[k]? = w.heap[k]? := by
    intro k hk
    have hlt := (hy.lt k hk).2
    rw [h2.block k (by simp; omega) ?_]
    · exact Below.heap_alloc w _ k hlt
    · intro e
      rcases hy.2 with ⟨hnil, _⟩ | ⟨g', cap', cur, hv', _, hg', _⟩
      · rw [hnil] at hk; simp [Value.ownBlock] at hk
      · rw [hv'] at hk
        simp only [Value.ownBlock, Option.some.injEq] at hk
        subst hk
        exact own_ne_blk hv hg' (by decide) e.symm
  refine h g cap w' ⟨_, ?_, (own_keep_rows hf hfb).snoc ao c y (own_keep hy hyb) hdis⟩ (fun W hW => (hW.alloc hbase _).grown h2 (by simp; omega) (fun k hk => (hv.lt k hk).1)) (by have := h2.size; simp at this; omega)
  rw [List.length_append, List.length_cons, List.length_nil, ← rows_map_snoc]
  exact h1
end
end Go.Proofs.Ytecnjgiodnphcaa
