/- Two rising lists gone along: plain. -/
import Derived.Test.YtimeadnkligkaaaPa
namespace Go.Proofs.Ytimeadnkligkaaa

def mrg (kp : Bool → Bool → Bool) : Nat → List Int → List Int → List Int
  | 0, _, _ => []
  | _ + 1, [], [] => []
  | f + 1, x :: a, [] => if kp true false = true then x :: mrg kp f a [] else mrg kp f a []
  | f + 1, [], y :: b => if kp false true = true then y :: mrg kp f [] b else mrg kp f [] b
  | f + 1, x :: a, y :: b =>
    if x < y then (if kp true false = true then x :: mrg kp f a (y :: b) else mrg kp f a (y :: b))
    else if y < x then (if kp false true = true then y :: mrg kp f (x :: a) b else mrg kp f (x :: a) b)
    else (if kp true true = true then y :: mrg kp f a b else mrg kp f a b)
def mergeL (kp : Bool → Bool → Bool) (a b : List Int) : List Int := mrg kp (a.length + b.length) a b
theorem mrg_length (kp : Bool → Bool → Bool) (f : Nat) : ∀ a b : List Int, (mrg kp f a b).length ≤ f := by
  induction f with
  | zero => intro a b; simp [mrg]
  | succ f ih =>
    intro a b
    match a, b with
    | [], [] => simp [mrg]
    | x :: a, [] => rw [mrg]; have := ih a []; split <;> (try simp) <;> omega
    | [], y :: b => rw [mrg]; have := ih [] b; split <;> (try simp) <;> omega
    | x :: a, y :: b =>
      rw [mrg]
      have h1 := ih a (y :: b)
      have h2 := ih (x :: a) b
      have h3 := ih a b
      split
      · split <;> (try simp) <;> omega
      · split
        · split <;> (try simp) <;> omega
        · split <;> (try simp) <;> omega

/-- rising -/
def Ris (l : List Int) : Prop := l.Pairwise (· < ·)
theorem chkA_ris (l : List Int) : ∀ p : Option Int, chkA p l = 0 → (∀ q, p = some q → ∀ n ∈ l, q < n) ∧ Ris l ∧ ∀ n ∈ l, 0 ≤ n ∧ n ≤ 1099511627776 := by
  induction l with
  | nil => intro p _; exact ⟨fun _ _ _ h => by simp at h, List.Pairwise.nil, fun _ h => by simp at h⟩
  | cons n t ih =>
    intro p h
    rw [chkA] at h
    by_cases h1 : n < 0 ∨ 1099511627776 < n
    · rw [if_pos h1] at h; exact absurd h (by decide)
    · rw [if_neg h1] at h
      by_cases h2 : ∃ q, p = some q ∧ n ≤ q
      · rw [if_pos h2] at h; exact absurd h (by decide)
      · rw [if_neg h2] at h
        obtain ⟨i1, i2, i3⟩ := ih _ h
        have hn := i1 n rfl
        refine ⟨fun q hq m hm => ?_, List.Pairwise.cons hn i2, fun m hm => ?_⟩
        · have hqn : q < n := by
            rcases Int.lt_or_le q n with h | h
            · exact h
            · exact absurd ⟨q, hq, h⟩ h2
          rcases List.mem_cons.1 hm with rfl | hm
          · exact hqn
          · exact Int.lt_trans hqn (hn m hm)
        · rcases List.mem_cons.1 hm with rfl | hm
          · omega
          · exact i3 m hm
theorem ris_chkA (l : List Int) : ∀ p : Option Int, (∀ q, p = some q → ∀ n ∈ l, q < n) → Ris l → (∀ n ∈ l, 0 ≤ n ∧ n ≤ 1099511627776) → chkA p l = 0 := by
  induction l with
  | nil => intro p _ _ _; rfl
  | cons n t ih =>
    intro p hp hr hb
    have hn := hb n (List.mem_cons_self ..)
    rw [chkA, if_neg (by omega), if_neg (by
      rintro ⟨q, hq, h⟩
      have := hp q hq n (List.mem_cons_self ..)
      omega)]
    rw [Ris, List.pairwise_cons] at hr
    exact ih _ (fun q hq m hm => by
      simp only [Option.some.injEq] at hq
      subst hq
      exact hr.1 m hm) hr.2 (fun m hm => hb m (List.mem_cons_of_mem _ hm))
theorem chkL_ok {l : List Int} (h : chkL l = 0) : l.length ≤ 1024 ∧ Ris l ∧ ∀ n ∈ l, 0 ≤ n ∧ n ≤ 1099511627776 := by
  unfold chkL at h
  split at h
  · exact absurd h (by decide)
  · have := chkA_ris l none h
    exact ⟨by omega, this.2.1, this.2.2⟩
theorem chkL_of {l : List Int} (h1 : l.length ≤ 1024) (h2 : Ris l) (h3 : ∀ n ∈ l, 0 ≤ n ∧ n ≤ 1099511627776) : chkL l = 0 := by
  unfold chkL
  rw [if_neg (by omega)]
  exact ris_chkA l none (fun q h => by simp at h) h2 h3

theorem filter_congr' {l : List Int} {p q : Int → Bool} (h : ∀ x ∈ l, p x = q x) : l.filter p = l.filter q := List.filter_congr h

theorem mrg_both (f : Nat) : ∀ a b : List Int, a.length + b.length ≤ f → Ris a → Ris b → mrg (fun p q => p && q) f a b = a.filter fun x => decide (x ∈ b) := by
  induction f with
  | zero =>
    intro a b h _ _
    obtain rfl : a = [] := List.eq_nil_of_length_eq_zero (by omega)
    rfl
  | succ f ih =>
    intro a b h ha hb
    match a, b with
    | [], [] => rfl
    | x :: a, [] =>
      rw [mrg, if_neg (by simp), ih a [] (by simp at h ⊢; omega) (List.pairwise_cons.1 ha).2 List.Pairwise.nil]
      simp
    | [], y :: b =>
      rw [mrg, if_neg (by simp), ih [] b (by simp at h ⊢; omega) List.Pairwise.nil (List.pairwise_cons.1 hb).2]
      rfl
    | x :: a, y :: b =>
      obtain ⟨hx, ha'⟩ := List.pairwise_cons.1 ha
      obtain ⟨hy, hb'⟩ := List.pairwise_cons.1 hb
      simp only [List.length_cons] at h
      rw [mrg]
      by_cases h1 : x < y
      · rw [if_pos h1, if_neg (by simp), ih a (y :: b) (by simp; omega) ha' hb, List.filter_cons, if_neg]
        simp only [decide_eq_true_eq, List.mem_cons, not_or]
        exact ⟨by omega, fun hm => by have := hy x hm; omega⟩
      · rw [if_neg h1]
        by_cases h2 : y < x
        · rw [if_pos h2, if_neg (by simp), ih (x :: a) b (by simp; omega) ha hb']
          refine filter_congr' fun z hz => ?_
          have hzy : z ≠ y := by
            rcases List.mem_cons.1 hz with rfl | hz
            · omega
            · have := hx z hz; omega
          simp [hzy]
        · obtain rfl : x = y := by omega
          rw [if_neg h2, if_pos (by rfl), ih a b (by omega) ha' hb', List.filter_cons, if_pos (by simp)]
          congr 1
          refine filter_congr' fun z hz => ?_
          have hzy : z ≠ x := by have := hx z hz; omega
          simp [hzy]

theorem mrg_without (f : Nat) : ∀ a b : List Int, a.length + b.length ≤ f → Ris a → Ris b → mrg (fun p q => p && !q) f a b = a.filter fun x => !decide (x ∈ b) := by
  induction f with
  | zero =>
    intro a b h _ _
    obtain rfl : a = [] := List.eq_nil_of_length_eq_zero (by omega)
    rfl
  | succ f ih =>
    intro a b h ha hb
    match a, b with
    | [], [] => rfl
    | x :: a, [] =>
      rw [mrg, if_pos (by rfl), ih a [] (by simp at h ⊢; omega) (List.pairwise_cons.1 ha).2 List.Pairwise.nil]
      simp
    | [], y :: b =>
      rw [mrg, if_neg (by simp), ih [] b (by simp at h ⊢; omega) List.Pairwise.nil (List.pairwise_cons.1 hb).2]
      rfl
    | x :: a, y :: b =>
      obtain ⟨hx, ha'⟩ := List.pairwise_cons.1 ha
      obtain ⟨hy, hb'⟩ := List.pairwise_cons.1 hb
      simp only [List.length_cons] at h
      rw [mrg]
      by_cases h1 : x < y
      · rw [if_pos h1, if_pos (by rfl), ih a (y :: b) (by simp; omega) ha' hb, List.filter_cons, if_pos]
        simp only [Bool.not_eq_true', decide_eq_false_iff_not, List.mem_cons, not_or]
        exact ⟨by omega, fun hm => by have := hy x hm; omega⟩
      · rw [if_neg h1]
        by_cases h2 : y < x
        · rw [if_pos h2, if_neg (by simp), ih (x :: a) b (by simp; omega) ha hb']
          refine filter_congr' fun z hz => ?_
          have hzy : z ≠ y := by
            rcases List.mem_cons.1 hz with rfl | hz
            · omega
            · have := hx z hz; omega
          simp [hzy]
        · obtain rfl : x = y := by omega
          rw [if_neg h2, if_neg (by simp), ih a b (by omega) ha' hb', List.filter_cons, if_neg (by simp)]
          refine filter_congr' fun z hz => ?_
          have hzy : z ≠ x := by have := hx z hz; omega
          simp [hzy]

/-- a list, and others laid between -/
def eithL : List Int → List Int → List Int
  | [], r => r
  | x :: a, r => r.takeWhile (fun y => decide (y < x)) ++ x :: eithL a (r.dropWhile fun y => decide (y < x))
theorem eithL_nil (a : List Int) : eithL a [] = a := by
  induction a with
  | nil => rfl
  | cons x a ih => simp [eithL, ih]
theorem eithL_lt (x y : Int) (a r : List Int) (h : y < x) : eithL (x :: a) (y :: r) = y :: eithL (x :: a) r := by
  simp [eithL, h]
theorem eithL_gt (x : Int) (a r : List Int) (h : ∀ y ∈ r, x < y) : eithL (x :: a) r = x :: eithL a r := by
  have h1 : r.takeWhile (fun y => decide (y < x)) = [] := by
    cases r with
    | nil => rfl
    | cons y r => have := h y (List.mem_cons_self ..); rw [List.takeWhile_cons, if_neg (by simp; omega)]
  have h2 : r.dropWhile (fun y => decide (y < x)) = r := by
    cases r with
    | nil => rfl
    | cons y r => have := h y (List.mem_cons_self ..); rw [List.dropWhile_cons, if_neg (by simp; omega)]
  rw [eithL, h1, h2]
  rfl
theorem mrg_either (f : Nat) : ∀ a b : List Int, a.length + b.length ≤ f → Ris a → Ris b → mrg (fun p q => p || q) f a b = eithL a (b.filter fun x => !decide (x ∈ a)) := by
  induction f with
  | zero =>
    intro a b h _ _
    obtain rfl : a = [] := List.eq_nil_of_length_eq_zero (by omega)
    obtain rfl : b = [] := List.eq_nil_of_length_eq_zero (by omega)
    rfl
  | succ f ih =>
    intro a b h ha hb
    match a, b with
    | [], [] => rfl
    | x :: a, [] =>
      rw [mrg, if_pos (by rfl), ih a [] (by simp at h ⊢; omega) (List.pairwise_cons.1 ha).2 List.Pairwise.nil]
      simp [eithL_nil]
    | [], y :: b =>
      rw [mrg, if_pos (by rfl), ih [] b (by simp at h ⊢; omega) List.Pairwise.nil (List.pairwise_cons.1 hb).2]
      simp [eithL]
    | x :: a, y :: b =>
      obtain ⟨hx, ha'⟩ := List.pairwise_cons.1 ha
      obtain ⟨hy, hb'⟩ := List.pairwise_cons.1 hb
      simp only [List.length_cons] at h
      rw [mrg]
      by_cases h1 : x < y
      · have hgt : ∀ z ∈ y :: b, x < z := fun z hz => by
          rcases List.mem_cons.1 hz with rfl | hz
          · exact h1
          · have := hy z hz; omega
        have e : (y :: b).filter (fun z => !decide (z ∈ x :: a)) = (y :: b).filter (fun z => !decide (z ∈ a)) := filter_congr' fun z hz => by
          have hzx : z ≠ x := by have := hgt z hz; omega
          simp [hzx]
        rw [if_pos h1, if_pos (by rfl), ih a (y :: b) (by simp; omega) ha' hb, e, eithL_gt x a _ fun z hz => hgt z ((List.mem_filter.1 hz).1)]
      · rw [if_neg h1]
        by_cases h2 : y < x
        · have hya : y ∉ x :: a := by
            rw [List.mem_cons, not_or]
            exact ⟨by omega, fun hm => by have := hx y hm; omega⟩
          rw [if_pos h2, if_pos (by rfl), ih (x :: a) b (by simp; omega) ha hb', List.filter_cons, if_pos (by simpa using hya), eithL_lt x y a _ h2]
        · obtain rfl : x = y := by omega
          have e : b.filter (fun z => !decide (z ∈ x :: a)) = b.filter (fun z => !decide (z ∈ a)) := filter_congr' fun z hz => by
            have hzx : z ≠ x := by have := hy z hz; omega
            simp [hzx]
          rw [if_neg h2, if_pos (by rfl), ih a b (by omega) ha' hb', List.filter_cons, if_neg (by simp), e, eithL_gt x a _ fun z hz => hy z ((List.mem_filter.1 hz).1)]
end Go.Proofs.Ytimeadnkligkaaa
