/- Rows of rows of samples; chunk.Cut. -/
import Derived.Test.YtcnfhabljogniaaCk
namespace Go.Proofs.Ytcnfhabljogniaa
open Go.RowKit
set_option linter.unusedSimpArgs false

theorem infoSl : (Try.prog.info? 22).map (fun i => (i.zero, i.size, i.bytes)) = some (some (.slice none 0 0), 1, 24) := by kernel_rfl

/-- n rows of bytes, each of the call's own, no two in one block -/
def RowsAt (w : World) (base : Nat) (f : Nat → Value) (Ls : List (List (Int × Int))) : Prop :=
  (∀ i, i < Ls.length → (∃ ao c, f i = .slice ao (Ls.getD i []).length c) ∧ w.ownsRow base 40 2 (f i) (Ls.getD i []).length (sc (Ls.getD i []))) ∧
  ∀ i j, i < j → j < Ls.length → ∀ k, (f i).ownBlock = some k → (f j).ownBlock ≠ some k
/-- the slice of these rows -/
def RowsOf (w : World) (base : Nat) (v : Value) (Ls : List (List (Int × Int))) : Prop :=
  ∃ f, w.ownsRow base 22 1 v Ls.length ((List.range Ls.length).map f) ∧ RowsAt w base f Ls
theorem RowsOf.nil (w : World) (base : Nat) : RowsOf w base (.slice none 0 0) [] := ⟨fun _ => .slice none 0 0, World.ownsRow_nil _ _ _ _, fun i h => by simp at h, fun i j _ h => by simp at h⟩
theorem RowsAt.below {w w' : World} {base : Nat} {f : Nat → Value} {Ls : List (List (Int × Int))} (h : RowsAt w base f Ls) (hb : Below w.heap.size w w') : RowsAt w' base f Ls :=
  ⟨fun i hi => ⟨(h.1 i hi).1, own_below (h.1 i hi).2 hb (Nat.le_refl _)⟩, h.2⟩
theorem RowsOf.below {w w' : World} {base : Nat} {v : Value} {Ls : List (List (Int × Int))} (h : RowsOf w base v Ls) (hb : Below w.heap.size w w') : RowsOf w' base v Ls := by
  obtain ⟨f, h1, h2⟩ := h
  exact ⟨f, own_below h1 hb (Nat.le_refl _), h2.below hb⟩
theorem RowsOf.shape {w : World} {base : Nat} {v : Value} {Ls : List (List (Int × Int))} (h : RowsOf w base v Ls) : ∃ ao c, v = .slice ao Ls.length c ∧ Ls.length ≤ c := by
  obtain ⟨f, h1, _⟩ := h
  obtain ⟨ao, c, rfl, h2, _⟩ := (Sl.own h1).shape
  exact ⟨ao, c, rfl, h2⟩
/-- one row more -/
theorem RowsAt.snoc {w : World} {base : Nat} {f : Nat → Value} {Ls : List (List (Int × Int))} (h : RowsAt w base f Ls) (ao : Option Addr) (c : Nat) (x : List (Int × Int)) (hx : w.ownsRow base 40 2 (.slice ao x.length c) x.length (sc x))
    (hn : ∀ i, i < Ls.length → ∀ k, (f i).ownBlock = some k → (Value.slice ao x.length c).ownBlock ≠ some k) : RowsAt w base (fun i => if i < Ls.length then f i else .slice ao x.length c) (Ls ++ [x]) := by
  refine ⟨fun i hi => ?_, fun i j hij hj k hk => ?_⟩
  · by_cases h1 : i < Ls.length
    · have e : (Ls ++ [x]).getD i [] = Ls.getD i [] := by simp [List.getD, List.getElem?_append_left h1]
      simp only [h1, if_true, e]
      exact h.1 i h1
    · obtain rfl : i = Ls.length := by simp at hi; omega
      have e : (Ls ++ [x]).getD Ls.length [] = x := by simp [List.getD]
      simp only [Nat.lt_irrefl, if_false, e]
      exact ⟨⟨ao, c, rfl⟩, hx⟩
  · simp only [List.length_append, List.length_cons, List.length_nil] at hj
    have h1 : i < Ls.length := by omega
    simp only [h1, if_true] at hk
    by_cases h2 : j < Ls.length
    · simp only [h2, if_true]
      exact h.2 i j hij h2 k hk
    · simp only [h2, if_false]
      exact hn i h1 k hk
theorem rows_map_snoc (f : Nat → Value) (n : Nat) (v : Value) : (List.range n).map f ++ [v] = (List.range (n + 1)).map (fun i => if i < n then f i else v) := by
  rw [List.range_succ, List.map_append]
  congr 1
  · apply List.map_congr_left
    intro i hi
    simp at hi
    simp [hi]
  · simp
theorem own_keep_rows {w w' : World} {base : Nat} {f : Nat → Value} {Ls : List (List (Int × Int))} (h : RowsAt w base f Ls) (hk : ∀ i, i < Ls.length → ∀ k, (f i).ownBlock = some k → w'.heap[k]? = w.heap[k]?) : RowsAt w' base f Ls :=
  ⟨fun i hi => ⟨(h.1 i hi).1, own_keep (h.1 i hi).2 (hk i hi)⟩, h.2⟩

section
variable {ops : Array Oper} {rest : List Oper} {o : Oper} {a : Act} {w : World} {Q : Exit → Act → World → Prop} {K : Act → World → Prop}

/-- append of one row onto rows -/
theorem wpList_appR (hgd : o.guard = none) (s x : Operand) (ho : o.op = .call { callee := .builtin .append, args := #[s, x], argTypes := #[42, 42] })
    (base : Nat) (v : Value) (Ls : List (List (Int × Int))) (hsv : a.eval s = v) (f : Nat → Value) (hv : w.ownsRow base 22 1 v Ls.length ((List.range Ls.length).map f)) (hf : RowsAt w base f Ls) (ao : Option Addr) (c : Nat) (y : List (Int × Int)) (hy : w.ownsRow base 40 2 (.slice ao y.length c) y.length (sc y))
    (hdis : ∀ i, i < Ls.length → ∀ k, (f i).ownBlock = some k → (Value.slice ao y.length c).ownBlock ≠ some k)
    (H0 : Nat) (hH0 : w.heap.size = H0) (hxv : a.eval x = .slice (some ⟨H0, 0, none⟩) 1 1) (hn : Ls.length ≤ 9100000000000) (hbase : base ≤ w.heap.size)
    (h : ∀ g cap w', RowsOf w' base (.slice (some ⟨g, 0, none⟩) (Ls.length + 1) cap) (Ls ++ [y]) → (∀ W, Below base W w → Below base W w') → base ≤ w'.heap.size →
      wpList Try.prog ops Q rest (a.put o.dst (.slice (some ⟨g, 0, none⟩) (Ls.length + 1) cap)) w') : wpList Try.prog ops Q (o :: rest) a (w.alloc (.cells #[.slice ao y.length c] 22)) := by
  subst hH0
  obtain ⟨i0, hi, hz0, hz1, hz2⟩ := info_parts infoSl
  have hsrc : Src Try.prog 1 42 (.slice (some ⟨w.heap.size, 0, none⟩) 1 1) 1 [.slice ao y.length c] (w.alloc (.cells #[.slice ao y.length c] 22)) :=
    Src.ofSlice _ Try.underlying42 _ 1 1 [.slice ao y.length c] rfl (World.news_of_block (cs := #[.slice ao y.length c]) (t := 22) (fr := (0, 0)) (heap_alloc_new w _)) (by simp [Value.oneCell'])
  refine wpList_append_put hgd s x 42 42 ho base 22 i0 (.slice none 0 0) 1 24 Try.underlying42 hi hz0 hz1 hz2 rfl v Ls.length _ hsv (hv.alloc _) _ 1 _ hxv hsrc (.inr (by omega)) (by unfold maxLen; omega) (by omega) (by simp; omega) (w.heap.size + 1) (by simp) ?_
  intro g cap w' h1 h2 h3 _ _
  have hfb : ∀ i, i < Ls.length → ∀ k, (f i).ownBlock = some k → w'.heap[k]? = w.heap[k]? := by
    intro i hi k hk
    have hlt := ((hf.1 i hi).2.lt k hk).2
    rw [h2.block k (by simp; omega) ?_]
    · exact Below.heap_alloc w _ k hlt
    · intro e
      obtain ⟨ho1, ho2⟩ := hf.1 i hi
      rcases ho2.2 with ⟨hnil, _⟩ | ⟨g', cap', cur, hv', _, hg', _⟩
      · rw [hnil] at hk; simp [Value.ownBlock] at hk
      · rw [hv'] at hk
        simp only [Value.ownBlock, Option.some.injEq] at hk
        subst hk
        exact own_ne_blk hv hg' (by decide) e.symm
  have hyb : ∀ k, (Value.slice ao y.length c).ownBlock = some k → w'.heap[k]? = w.heap[k]? := by
    intro k hk
    have hlt := (hy.lt k hk).2
    rw [h2.block k (by simp; omega) ?_]
    · exact Below.heap_alloc w _ k hlt
    · intro e
      rcases hy.2 with ⟨hnil, _⟩ | ⟨g', cap', cur, hv', _, hg', _⟩
      · rw [hnil] at hk; simp [Value.ownBlock] at hk
      · rw [hv'] at hk
        simp only [Value.ownBlock, Option.some.injEq] at hk
        subst hk
        exact own_ne_blk hv hg' (by decide) e.symm
  refine h g cap w' ⟨_, ?_, (own_keep_rows hf hfb).snoc ao c y (own_keep hy hyb) hdis⟩ (fun W hW => (hW.alloc hbase _).grown h2 (by simp; omega) (fun k hk => (hv.lt k hk).1)) (by have := h2.size; simp at this; omega)
  rw [List.length_append, List.length_cons, List.length_nil, ← rows_map_snoc]
  exact h1
end

theorem Sl.cut2 {w : World} {ao : Option Addr} {n c : Nat} {xs ys : List Value} (h : Sl w 2 (.slice ao n c) n xs) (k : Nat) (hk : k ≤ n) (hy : ys = xs.take (k * 2)) : Sl w 2 (.slice ao k c) k ys := by
  obtain ⟨hl, ao', c', hv, hc, hm, h0, hcell⟩ := h
  simp only [Value.slice.injEq] at hv
  obtain ⟨rfl, _, rfl⟩ := hv
  subst hy
  refine ⟨by simp at hl ⊢; omega, ao, c, rfl, by omega, hm, h0, fun a ha j u hu => hcell a ha j u ?_⟩
  rw [List.getElem?_take] at hu
  split at hu
  · exact hu
  · cases hu
theorem Sl.drop2 {w : World} {g off n c : Nat} {xs ys : List Value} (h : Sl w 2 (.slice (some ⟨g, off, none⟩) n c) n xs) (k : Nat) (hk : k ≤ n) (hy : ys = xs.drop (k * 2)) : Sl w 2 (.slice (some ⟨g, off + k * 2, none⟩) (n - k) (c - k)) (n - k) ys := by
  obtain ⟨hl, ao', c', hv, hc, hm, h0, hcell⟩ := h
  simp only [Value.slice.injEq] at hv
  obtain ⟨rfl, _, rfl⟩ := hv
  subst hy
  refine ⟨by simp at hl ⊢; omega, some ⟨g, off + k * 2, none⟩, c - k, rfl, by omega, by omega, (fun h => by cases h), fun a ha j u hu => ?_⟩
  cases ha
  rw [List.getElem?_drop] at hu
  have := hcell _ rfl (k * 2 + j) u hu
  rw [Addr.add_lit] at this ⊢
  rw [Nat.add_assoc]
  exact this
theorem sc_take (l : List (Int × Int)) : ∀ k, sc (l.take k) = (sc l).take (k * 2) := by
  induction l with
  | nil => intro k; simp [sc]
  | cons a t ih =>
    intro k
    cases k with
    | zero => simp [sc]
    | succ k =>
      have := ih k
      simp only [sc, List.flatMap_cons, List.take_succ_cons, Nat.succ_mul] at this ⊢
      rw [this]
      simp
theorem sc_drop (l : List (Int × Int)) : ∀ k, sc (l.drop k) = (sc l).drop (k * 2) := by
  induction l with
  | nil => intro k; simp [sc]
  | cons a t ih =>
    intro k
    cases k with
    | zero => simp [sc]
    | succ k =>
      have := ih k
      simp only [sc, List.flatMap_cons, List.drop_succ_cons, Nat.succ_mul] at this ⊢
      rw [this]
      simp

/-- pieces of samples, up to place j -/
def CutTo (l : List (Int × Int)) (j : Nat) (Ls : List (List (Int × Int))) : Prop :=
  (∀ i, i < Ls.length → 0 < (Ls.getD i []).length ∧ (Ls.getD i []).length ≤ 120) ∧ (∀ i, i + 1 < Ls.length → (Ls.getD i []).length = 120) ∧
    (j < l.length → ∀ i, i < Ls.length → (Ls.getD i []).length = 120) ∧ Ls.flatten = l.take j ∧ Ls.length ≤ j
theorem CutTo.nil (l : List (Int × Int)) : CutTo l 0 [] := ⟨fun i h => by simp at h, fun i h => by simp at h, fun _ i h => by simp at h, by simp, by simp⟩
theorem CutTo.snoc {l : List (Int × Int)} {j : Nat} {Ls : List (List (Int × Int))} (h : CutTo l j Ls) (hj : j < l.length) (n : Nat) (hn : n = min (l.length - j) 120) : CutTo l (j + n) (Ls ++ [(l.drop j).take n]) := by
  have hx : ((l.drop j).take n).length = n := by simp; omega
  have hg : ∀ i, i < Ls.length → (Ls ++ [(l.drop j).take n]).getD i [] = Ls.getD i [] := fun i hi => by simp [List.getD, List.getElem?_append_left hi]
  have hg2 : (Ls ++ [(l.drop j).take n]).getD Ls.length [] = (l.drop j).take n := by simp [List.getD]
  obtain ⟨h1, h2, h3, h4, h5⟩ := h
  refine ⟨fun i hi => ?_, fun i hi => ?_, fun hlt i hi => ?_, ?_, ?_⟩
  · by_cases hi2 : i < Ls.length
    · rw [hg i hi2]; exact h1 i hi2
    · obtain rfl : i = Ls.length := by simp at hi; omega
      rw [hg2, hx]; omega
  · have hi2 : i < Ls.length := by simp at hi; omega
    rw [hg i hi2]; exact h3 hj i hi2
  · by_cases hi2 : i < Ls.length
    · rw [hg i hi2]; exact h3 hj i hi2
    · obtain rfl : i = Ls.length := by simp at hi; omega
      rw [hg2, hx]; omega
  · rw [List.flatten_append, h4, List.flatten_cons, List.flatten_nil, List.append_nil, List.take_add]
  · simp; omega
/-- how long a slice is -/
def slLen : Value → Nat
  | .slice _ n _ => n
  | _ => 0

set_option maxRecDepth 100000 in
set_option maxHeartbeats 2000000 in
theorem cut_any (v : Value) (l : List (Int × Int)) (w : World) (hl : l.length ≤ 9000000000000) (hb : Sl w 2 v l.length (sc l)) :
    Calls Try.prog 20 #[v] w fun e w' => ∃ Ls ao c, e = .returned (.slice ao Ls.length c) ∧ Below w.heap.size w w' ∧ RowsOf w' w.heap.size (.slice ao Ls.length c) Ls ∧ CutTo l l.length Ls := by
  obtain ⟨i0, hi, hz0, hz1, hz2⟩ := info_parts infoSmp
  have Hb := hid hb
  obtain ⟨ao, c, rfl, _, _, _⟩ := hb.shape
  clear hb
  go_enter Try.func20, Try.ntmps20
  go_wp2
  go_loopw [0, 3, 4] (fun v0 ov _ wr => ∃ j Ls ao1 c1 ao2 c2, j ≤ l.length ∧ v0 = .slice ao1 (l.length - j) c1 ∧ ov = .slice ao2 Ls.length c2 ∧ Below w.heap.size w wr ∧ Sl w 2 (.slice ao1 (l.length - j) c1) (l.length - j) (sc (l.drop j)) ∧ RowsOf wr w.heap.size (.slice ao2 Ls.length c2) Ls ∧ CutTo l j Ls)
    (fun v0 _ _ _ => slLen v0)
  case atStart => exact ⟨0, [], ao, c, none, 0, Nat.zero_le _, rfl, rfl, Below.refl _ _, Hb.out, RowsOf.nil _ _, CutTo.nil l⟩
  case round =>
    obtain ⟨j, Ls, ao1, c1, ao2, c2, hj, rfl, rfl, hbel, hsl, hrow, hcut⟩ := hrel
    have L := hid hbel; have S := hid hsl; have R := hid hrow; have C := hid hcut
    have sz := hbel.size
    clear hbel hsl hrow hcut
    by_cases hlt : j < l.length
    · obtain ⟨n, hn⟩ : ∃ n, n = min (l.length - j) 120 := ⟨_, rfl⟩
      have HC2 := hid (C.out.snoc hlt n hn)
      obtain ⟨f, hv, hf⟩ := R.out
      have HV := hid hv; have HF := hid hf
      obtain ⟨b, off, c1', hv1, hc1, hm1, hbl, _⟩ := S.out.form (by decide) (by omega)
      simp only [Value.slice.injEq] at hv1
      obtain ⟨rfl, _, rfl⟩ := hv1
      have i1 : (0 : Int) < ((l.length - j : Nat) : Int) := by omega
      have hxl : ((l.drop j).take n).length = n := by simp; omega
      have SP := S.out.cut2 n (by omega) (sc_take _ _)
      have SD := S.out.drop2 n (by omega) (sc_drop _ _)
      obtain ⟨y, hy⟩ : ∃ y, y = (l.drop j).take n := ⟨_, rfl⟩
      rw [← hy] at hxl SP
      rw [List.drop_drop] at SD
      have HC2' := HC2.out
      rw [← hy] at HC2'
      rw [← hxl] at hn SP SD HC2'
      have SP' := hid (SP.below L.out (fun _ _ h => h))
      have SD' := hid SD
      have HC3 := hid HC2'
      have hmin : min ((l.length - j : Nat) : Int) 120 = (y.length : Int) := by omega
      have hy0 : 0 < y.length := by omega
      have hyc : y.length ≤ c1 := by omega
      have hyn : y.length ≤ l.length - j := by omega
      have hLs := C.out.2.2.2.2
      have HN := hid hn
      clear hv hf SP SD HC2' hy hxl HC2 hn
      go_wp2_with (first
        | (at_builtin; refine wpList_append_put rfl (.const (.slice none 0 0)) (.tmp 14) 22 22 rfl w.heap.size 40 i0 (.agg #[.int .i64 0, .int .i64 0]) 2 16 Try.underlying22 hi hz0 hz1 hz2 rfl (.slice none 0 0) 0 [] rfl (World.ownsRow_nil _ _ _ _) (.slice (some ⟨b, off, none⟩) y.length c1) y.length (sc y) rfl (Src.ofSl Try.underlying22 SP'.out (sc_one y)) (.inr hy0) (by unfold maxLen; omega) (by omega) sz _ rfl ?_; intro g3 cap3 w3 hown3 hgrow3 hat3 hlt3 hcap3; simp only [Nat.zero_add, List.nil_append] at hown3; have hbw3 := (Below.refl wr.heap.size wr).grown hgrow3 (Nat.le_refl _) (by intro k hk; simp [Value.ownBlock] at hk); have HF3 := HF.out.below hbw3; have HV3 := own_below HV.out hbw3 (Nat.le_refl _); have L3 := hid (L.out.trans (hbw3.mono sz)); have sz3 := L3.out.size; have hg3 : g3 = wr.heap.size := (by (rcases hat3 with h | h; (simp [Value.ownBlock] at h); exact h)); subst hg3)
        | (at_builtin; refine wpList_appR rfl (.tmp 11) (.tmp 16) rfl w.heap.size (.slice ao2 Ls.length c2) Ls rfl f HV3 HF3 (some ⟨wr.heap.size, 0, none⟩) cap3 y hown3 (by intro i hi k hk; have := ((HF.out.1 i hi).2.lt k hk).2; simp only [Value.ownBlock, ne_eq, Option.some.injEq]; omega) _ rfl rfl (by omega) sz3 ?_; intro g4 cap4 w4 hrow4 hbel4 sz4; have R4 := hid hrow4; have L4 := hid (hbel4 w L3.out)))
      go_wp2
      go_roundw
      case rel =>
        by_cases hfull : c1 = y.length
        · have h0 : l.length - j - y.length = 0 := by have := S.out.shape; obtain ⟨_, _, hv, hle, _⟩ := this; simp only [Value.slice.injEq] at hv; omega
          have hd : l.drop (j + y.length) = [] := List.drop_eq_nil_of_le (by omega)
          refine ⟨j + y.length, Ls ++ [y], some ⟨b, off, none⟩, c1 - y.length, some ⟨g4, 0, none⟩, cap4, by omega, ?_, by simp, L4.out, ?_, by simpa using R4.out, HC3.out⟩
          · rw [Nat.sub_add_eq, if_pos hfull]
          · rw [Nat.sub_add_eq, h0, hd, hfull, Nat.sub_self]
            exact ⟨rfl, some ⟨b, off, none⟩, 0, rfl, Nat.le_refl _, by simp [maxLen], (fun h => by cases h), fun a _ j u hu => by simp [sc] at hu⟩
        · refine ⟨j + y.length, Ls ++ [y], some ⟨b, off + y.length * 2, none⟩, c1 - y.length, some ⟨g4, 0, none⟩, cap4, by omega, ?_, by simp, L4.out, ?_, by simpa using R4.out, HC3.out⟩
          · rw [Nat.sub_add_eq, if_neg hfull]
          · rw [Nat.sub_add_eq]; exact SD'.out
      case measure => simp [slLen]; omega
    · obtain rfl : j = l.length := by omega
      go_wp2
      go_ret
      exact ⟨Ls, ao2, c2, rfl, L.out, R.out, C.out⟩
end Go.Proofs.Ytcnfhabljogniaa
