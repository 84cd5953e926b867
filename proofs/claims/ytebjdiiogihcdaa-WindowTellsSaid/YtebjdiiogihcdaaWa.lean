/- sort.Search, whatever the closure. -/
import Derived.Test.YtebjdiiogihcdaaCc
namespace Go.Proofs.Ytebjdiiogihcdaa
open Go.RowKit
set_option linter.unusedSimpArgs false

set_option maxRecDepth 100000 in
set_option maxHeartbeats 2000000 in
/-- sort.Search over a closure that captures 2 values, whatever the closure -/
theorem search2_any (F : FuncId) (hin : ∀ args w, (callFunc F args).run Try.prog w = .ok (.enter F args) w) (c1 c2 : Value) (f : Nat → Bool) (n : Nat) (R : World → Prop) (hR : ∀ w w' : World, R w → Below w.heap.size w w' → R w')
    (hF : ∀ (k : Nat) (w : World), k < n → R w → Calls Try.prog F #[.int .i64 (k : Int), c1, c2] w fun e w' => e = .returned (.bool (f k)) ∧ Below w.heap.size w w') (hmono : ∀ x y, x ≤ y → y < n → f x = true → f y = true) (w : World) (hw : R w) (hn : n ≤ 4000000000000000000) :
    Calls Try.prog 28 #[.int .i64 (n : Int), .func (Fn.func F) #[] #[c1, c2]] w fun e w' => ∃ k, e = .returned (.int .i64 ((k : Nat) : Int)) ∧ Below w.heap.size w w' ∧ k ≤ n ∧ (∀ x, x < k → f x = false) ∧ ∀ x, k ≤ x → x < n → f x = true := by
  have HR := hid hR; have HF := hid hF; have HM := hid hmono; have HW := hid hw
  clear hR hF hmono hw
  go_enter Try.func28, Try.ntmps28
  go_wp2
  go_loopw [5, 6, 7] (fun iv jv _ wr => ∃ i j : Nat, i ≤ j ∧ j ≤ n ∧ iv = .int .i64 (i : Int) ∧ jv = .int .i64 (j : Int) ∧ Below w.heap.size w wr ∧ R wr ∧ (∀ x, x < i → f x = false) ∧ ∀ x, j ≤ x → x < n → f x = true)
    (fun iv jv _ _ => (intOf jv).toNat - (intOf iv).toNat)
  case atStart => exact ⟨0, n, Nat.zero_le _, Nat.le_refl _, rfl, rfl, Below.refl _ _, HW.out, fun x hx => by omega, fun x h1 h2 => by omega⟩
  case round =>
    obtain ⟨i, j, hij, hj, rfl, rfl, hbel, hrw, hlo, hhi⟩ := hrel
    have L := hid hbel; have LO := hid hlo; have HI := hid hhi; have RW := hid hrw
    clear hbel hlo hhi hrw
    by_cases hlt : i < j
    · obtain ⟨m, hm⟩ : ∃ m, m = (i + j) / 2 := ⟨_, rfl⟩
      have hmi : i ≤ m ∧ m < j := by omega
      have kw : IntKind.i64.wrap ((i : Int) + (j : Int)) = (i : Int) + (j : Int) := IntWalk.i64_in _ (by omega)
      have ku : IntKind.u64.wrap ((i : Int) + (j : Int)) = (i : Int) + (j : Int) := by rw [IntKind.wrap_u64]; omega
      have km : ((i : Int) + (j : Int)) / 2 = (m : Int) := by omega
      have HMM := hid hm
      clear hm
      go_wp2_with fail
      refine (HF.out m wr (by omega) RW.out).mono ?_
      rintro e w5 ⟨rfl, hb5⟩
      have L5 := hid (L.out.trans (hb5.mono L.out.size))
      have R5 := hid (HR.out wr w5 RW.out hb5)
      clear hb5
      rcases Bool.eq_false_or_eq_true (f m) with hd | hd
      · have hT := hid hd
        rw [hd]
        clear hd
        go_wp2
        go_roundw
        case rel => exact ⟨i, m, hmi.1, by omega, rfl, rfl, L5.out, R5.out, LO.out, fun x h1 h2 => HM.out m x h1 h2 hT.out⟩
        case measure => simp [intOf]; omega
      · have hT := hid hd
        rw [hd]
        clear hd
        have kw2 : IntKind.i64.wrap ((m : Int) + 1) = (m : Int) + 1 := IntWalk.i64_in _ (by omega)
        go_wp2
        go_roundw
        case rel => exact ⟨m + 1, j, by omega, hj, by go_num, rfl, L5.out, R5.out, fun x hx => (by
          cases hfx : f x
          · rfl
          · have := HM.out x m (by omega) (by omega) hfx
            rw [hT.out] at this; cases this), HI.out⟩
        case measure => simp [intOf]; omega
    · obtain rfl : i = j := by omega
      go_wp2
      go_ret
      exact ⟨i, rfl, L.out, hj, LO.out, HI.out⟩

set_option maxRecDepth 100000 in
set_option maxHeartbeats 2000000 in
/-- sort.Search over a closure that captures 3 values, whatever the closure -/
theorem search3_any (F : FuncId) (hin : ∀ args w, (callFunc F args).run Try.prog w = .ok (.enter F args) w) (c1 c2 c3 : Value) (f : Nat → Bool) (n : Nat) (R : World → Prop) (hR : ∀ w w' : World, R w → Below w.heap.size w w' → R w')
    (hF : ∀ (k : Nat) (w : World), k < n → R w → Calls Try.prog F #[.int .i64 (k : Int), c1, c2, c3] w fun e w' => e = .returned (.bool (f k)) ∧ Below w.heap.size w w') (hmono : ∀ x y, x ≤ y → y < n → f x = true → f y = true) (w : World) (hw : R w) (hn : n ≤ 4000000000000000000) :
    Calls Try.prog 28 #[.int .i64 (n : Int), .func (Fn.func F) #[] #[c1, c2, c3]] w fun e w' => ∃ k, e = .returned (.int .i64 ((k : Nat) : Int)) ∧ Below w.heap.size w w' ∧ k ≤ n ∧ (∀ x, x < k → f x = false) ∧ ∀ x, k ≤ x → x < n → f x = true := by
  have HR := hid hR; have HF := hid hF; have HM := hid hmono; have HW := hid hw
  clear hR hF hmono hw
  go_enter Try.func28, Try.ntmps28
  go_wp2
  go_loopw [5, 6, 7] (fun iv jv _ wr => ∃ i j : Nat, i ≤ j ∧ j ≤ n ∧ iv = .int .i64 (i : Int) ∧ jv = .int .i64 (j : Int) ∧ Below w.heap.size w wr ∧ R wr ∧ (∀ x, x < i → f x = false) ∧ ∀ x, j ≤ x → x < n → f x = true)
    (fun iv jv _ _ => (intOf jv).toNat - (intOf iv).toNat)
  case atStart => exact ⟨0, n, Nat.zero_le _, Nat.le_refl _, rfl, rfl, Below.refl _ _, HW.out, fun x hx => by omega, fun x h1 h2 => by omega⟩
  case round =>
    obtain ⟨i, j, hij, hj, rfl, rfl, hbel, hrw, hlo, hhi⟩ := hrel
    have L := hid hbel; have LO := hid hlo; have HI := hid hhi; have RW := hid hrw
    clear hbel hlo hhi hrw
    by_cases hlt : i < j
    · obtain ⟨m, hm⟩ : ∃ m, m = (i + j) / 2 := ⟨_, rfl⟩
      have hmi : i ≤ m ∧ m < j := by omega
      have kw : IntKind.i64.wrap ((i : Int) + (j : Int)) = (i : Int) + (j : Int) := IntWalk.i64_in _ (by omega)
      have ku : IntKind.u64.wrap ((i : Int) + (j : Int)) = (i : Int) + (j : Int) := by rw [IntKind.wrap_u64]; omega
      have km : ((i : Int) + (j : Int)) / 2 = (m : Int) := by omega
      have HMM := hid hm
      clear hm
      go_wp2_with fail
      refine (HF.out m wr (by omega) RW.out).mono ?_
      rintro e w5 ⟨rfl, hb5⟩
      have L5 := hid (L.out.trans (hb5.mono L.out.size))
      have R5 := hid (HR.out wr w5 RW.out hb5)
      clear hb5
      rcases Bool.eq_false_or_eq_true (f m) with hd | hd
      · have hT := hid hd
        rw [hd]
        clear hd
        go_wp2
        go_roundw
        case rel => exact ⟨i, m, hmi.1, by omega, rfl, rfl, L5.out, R5.out, LO.out, fun x h1 h2 => HM.out m x h1 h2 hT.out⟩
        case measure => simp [intOf]; omega
      · have hT := hid hd
        rw [hd]
        clear hd
        have kw2 : IntKind.i64.wrap ((m : Int) + 1) = (m : Int) + 1 := IntWalk.i64_in _ (by omega)
        go_wp2
        go_roundw
        case rel => exact ⟨m + 1, j, by omega, hj, by go_num, rfl, L5.out, R5.out, fun x hx => (by
          cases hfx : f x
          · rfl
          · have := HM.out x m (by omega) (by omega) hfx
            rw [hT.out] at this; cases this), HI.out⟩
        case measure => simp [intOf]; omega
    · obtain rfl : i = j := by omega
      go_wp2
      go_ret
      exact ⟨i, rfl, L.out, hj, LO.out, HI.out⟩
end Go.Proofs.Ytebjdiiogihcdaa
