/- posting.along; Both, Either, Without. -/
import Derived.Test.YtimeadnkligkaaaPb
import Derived.Deep.RegionWith
namespace Go.Proofs.Ytimeadnkligkaaa
open Go.RowKit

theorem infoInt : (Try.prog.info? 3).map (fun i => (i.zero, i.size, i.bytes)) = some (some (.int .i64 0), 1, 8) := by kernel_rfl

/-- append of one int onto ints of the call's own -/
theorem wpList_appI {ops : Array Oper} {rest : List Oper} {o : Oper} {a : Act} {w : World} {Q : Exit → Act → World → Prop} (hgd : o.guard = none) (s x : Operand) (ho : o.op = .call { callee := .builtin .append, args := #[s, x], argTypes := #[22, 22] })
    (base : Nat) (v : Value) (n : Nat) (l : List Int) (hsv : a.eval s = v) (hown : w.ownsRow base 3 1 v n (ic l)) (y : Int) (H0 : Nat) (hH0 : w.heap.size = H0) (hxv : a.eval x = .slice (some ⟨H0, 0, none⟩) 1 1)
    (hn : n ≤ 20000000000000) (hbase : base ≤ w.heap.size)
    (h : ∀ g cap w', w'.ownsRow base 3 1 (.slice (some ⟨g, 0, none⟩) (n + 1) cap) (n + 1) (ic (l ++ [y])) → w.grownBy w' v.ownBlock → (∀ W, Below base W w → Below base W w') → base ≤ w'.heap.size →
      wpList Try.prog ops Q rest (a.put o.dst (.slice (some ⟨g, 0, none⟩) (n + 1) cap)) w') : wpList Try.prog ops Q (o :: rest) a (w.alloc (.cells #[.int .i64 y] 3)) := by
  subst hH0
  obtain ⟨i0, hi, hz0, hz1, hz2⟩ := info_parts infoInt
  have hsrc : Src Try.prog 1 22 (.slice (some ⟨w.heap.size, 0, none⟩) 1 1) 1 (ic [y]) (w.alloc (.cells #[.int .i64 y] 3)) :=
    Src.ofSlice _ Try.underlying22 _ 1 1 [.int .i64 y] rfl (World.news_of_block (cs := #[.int .i64 y]) (t := 3) (fr := (0, 0)) (heap_alloc_new w _)) (by simp [Value.oneCell'])
  refine wpList_append_put hgd s x 22 22 ho base 3 i0 (.int .i64 0) 1 8 Try.underlying22 hi hz0 hz1 hz2 rfl v n (ic l) hsv (hown.alloc _) _ 1 _ hxv hsrc (.inr (by omega)) (by unfold maxLen; omega) (by omega) (by simp; omega) (w.heap.size + 1) (by simp) ?_
  intro g cap w' h1 h2 h3 _ _
  rw [← ic_append] at h1
  refine h g cap w' h1 ⟨h2.os, h2.tape, h2.output, by have := h2.size; simp at this; omega, fun k hk hne => ?_⟩ (fun W hW => (hW.alloc hbase _).grown h2 (by simp; omega) (fun k hk => (hown.lt k hk).1)) (by have := h2.size; simp at this; omega)
  rw [h2.block k (by simp; omega) hne]
  exact Below.heap_alloc w _ k hk
/-- append of ints out of any slice -/
theorem wpList_appIS {ops : Array Oper} {rest : List Oper} {o : Oper} {a : Act} {w : World} {Q : Exit → Act → World → Prop} (hgd : o.guard = none) (s x : Operand) (ho : o.op = .call { callee := .builtin .append, args := #[s, x], argTypes := #[22, 22] })
    (base : Nat) (v : Value) (n : Nat) (l : List Int) (hsv : a.eval s = v) (hown : w.ownsRow base 3 1 v n (ic l)) (xv : Value) (m : Nat) (l2 : List Int) (hxv : a.eval x = xv) (hx : Sl w 1 xv m (ic l2))
    (hn : n + m ≤ 20000000000000) (hbase : base ≤ w.heap.size)
    (h : ∀ ao cap w', w'.ownsRow base 3 1 (.slice ao (n + m) cap) (n + m) (ic (l ++ l2)) → w.grownBy w' v.ownBlock → (∀ W, Below base W w → Below base W w') → base ≤ w'.heap.size →
      wpList Try.prog ops Q rest (a.put o.dst (.slice ao (n + m) cap)) w') : wpList Try.prog ops Q (o :: rest) a w := by
  obtain ⟨i0, hi, hz0, hz1, hz2⟩ := info_parts infoInt
  refine wpList_plain hgd fun K hK => ?_
  obtain ⟨v', w', hr, h2, h3, h4, _⟩ := run_append_src (P := Try.prog) w base 22 22 o.type 3 i0 (.int .i64 0) 1 8 Try.underlying22 hi hz0 hz1 hz2 rfl v n (ic l) hown xv m (ic l2) (Src.ofSl Try.underlying22 hx (ic_one l2)) (by unfold maxLen; omega) (by omega) hbase
  obtain ⟨ao, cap, rfl, _⟩ := (Sl.own h2).shape
  unfold Oper.wp execOp
  simp only [ho, resolve, invoke, builtin, Sem.run_bind, Sem.run_pure, Result.andThen_ok, List.map_toArray, List.map_cons, List.map_nil, hsv, hxv, hr]
  rw [← ic_append] at h2
  exact hK _ _ (h ao cap w' h2 h3 (fun W hW => hW.grown h3 hbase (fun k hk => (hown.lt k hk).1)) (Nat.le_trans hbase h3.size))

theorem both1_any (x y : Bool) (w : World) : Calls Try.prog 27 #[.bool x, .bool y] w fun e w' => e = .returned (.bool (x && y)) ∧ w' = w := by
  cases x <;> cases y
  all_goals
    go_enter Try.func27, Try.ntmps27
    go_wp2
    go_ret
    exact ⟨rfl, rfl⟩
theorem either1_any (x y : Bool) (w : World) : Calls Try.prog 28 #[.bool x, .bool y] w fun e w' => e = .returned (.bool (x || y)) ∧ w' = w := by
  cases x <;> cases y
  all_goals
    go_enter Try.func28, Try.ntmps28
    go_wp2
    go_ret
    exact ⟨rfl, rfl⟩
theorem without1_any (x y : Bool) (w : World) : Calls Try.prog 29 #[.bool x, .bool y] w fun e w' => e = .returned (.bool (x && !y)) ∧ w' = w := by
  cases x <;> cases y
  all_goals
    go_enter Try.func29, Try.ntmps29
    go_wp2
    go_ret
    exact ⟨rfl, rfl⟩

/-- What a function hands back that makes a row of ints and an error. -/
def PutPostI (w : World) (r : List Int × Int) (e : Ending) (w' : World) : Prop :=
  ∃ ao c, e = .returned (.tuple #[.slice ao r.1.length c, .int .i64 r.2]) ∧ Below w.heap.size w w' ∧ w'.ownsRow w.heap.size 3 1 (.slice ao r.1.length c) r.1.length (ic r.1)
/-- along in plain words -/
def alongV (kp : Bool → Bool → Bool) (a b : List Int) : List Int × Int :=
  if chkL a ≠ 0 then ([], chkL a) else if chkL b ≠ 0 then ([], chkL b) else if 1024 < (mergeL kp a b).length then ([], 3) else (mergeL kp a b, 0)

theorem Sl.tail {w : World} {v : Value} {x : Int} {t : List Int} (h : Sl w 1 v (x :: t).length (ic (x :: t))) : ∃ b off c, v = .slice (some ⟨b, off, none⟩) (t.length + 1) c ∧ t.length + 1 ≤ c ∧ b < w.heap.size ∧ w.cell? ⟨b, off, none⟩ = some (.int .i64 x) ∧
    Sl w 1 (.slice (some ⟨b, off + 1, none⟩) t.length (c - 1)) t.length (ic t) ∧ (t = [] → ∀ ao, Sl w 1 (.slice (some ao) t.length (c - 1)) t.length (ic t)) := by
  obtain ⟨b, off, c, rfl, hc, hm, hb, hcell⟩ := h.form (by decide) (by simp)
  have h0 := hcell 0 (by simp)
  have h1 := Sl.drop h (ys := ic t) 1 (by simp) (by simp [ic])
  simp only [List.length_cons, Nat.add_sub_cancel] at h1
  refine ⟨b, off, c, rfl, by simpa using hc, hb, by simpa [ic] using h0, h1, fun ht ao => ?_⟩
  subst ht
  exact ⟨rfl, some ao, c - 1, rfl, Nat.zero_le _, by simp only [maxLen] at hm ⊢; omega, (fun h => by cases h), fun a _ j u hu => by simp [ic] at hu⟩
end Go.Proofs.Ytimeadnkligkaaa
