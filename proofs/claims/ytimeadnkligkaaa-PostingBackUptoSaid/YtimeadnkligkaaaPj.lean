/- A posting list that is laid down is read as it was; the walk of PostingBack. -/
import Derived.Test.YtimeadnkligkaaaPi
namespace Go.Proofs.Ytimeadnkligkaaa
open Go.RowKit

theorem readS_put (M : List Int) : ∀ (pre : List UInt8) (L : List Int) (p : Int) (rest : List UInt8), Ris M → 0 ≤ p → (∀ n ∈ M, p ≤ n ∧ n ≤ 1099511627776 ∧ (0 < L.length → p < n)) →
    readS (pre ++ dl p M ++ rest) M.length pre.length L p = (L ++ M, ((pre ++ dl p M).length : Int), 0) := by
  induction M with
  | nil => intro pre L p rest _ _ _; simp [readS, dl]
  | cons n t ih =>
    intro pre L p rest hr hp hall
    obtain ⟨hn1, hn2, hn3⟩ := hall n (List.mem_cons_self ..)
    have hr' := List.pairwise_cons.1 hr
    obtain ⟨d, hd⟩ : ∃ d : Nat, d = (n - p).toNat := ⟨_, rfl⟩
    have e1 : dl p (n :: t) = uintL d ++ dl n t := by rw [dl, hd]
    have e2 : pre ++ dl p (n :: t) ++ rest = pre ++ uintL d ++ (dl n t ++ rest) := by rw [e1]; simp
    have e3 : pre ++ uintL d ++ (dl n t ++ rest) = (pre ++ uintL d) ++ dl n t ++ rest := by simp
    have hg := getU_put pre (dl n t ++ rest) d (by omega)
    have ep : p + (d : Int) = n := by omega
    have h := ih (pre ++ uintL d) (L ++ [n]) n rest hr'.2 (by omega) fun x hx => ⟨by have := hr'.1 x hx; omega, (hall x (List.mem_cons_of_mem _ hx)).2.1, fun _ => hr'.1 x hx⟩
    rw [e2, List.length_cons, readS, hg, if_neg (by simp)]
    rw [if_neg (by rintro (h | ⟨h1, h2⟩)
                   · simp only at h; omega
                   · have h3 := hn3 h1; simp only at h2; omega)]
    simp only [ep]
    rw [e3, show ((pre.length + (uintL d).length : Nat) : Int) = (((pre ++ uintL d).length : Nat) : Int) by simp, h, e1]
    simp
theorem readV_put (b rest : List UInt8) (l : List Int) (hc : chkL l = 0) : readV (b ++ lvL l ++ rest) b.length = (l, ((b ++ lvL l).length : Int), 0) := by
  obtain ⟨h1, h2, h3⟩ := chkL_ok hc
  have e2 : b ++ lvL l ++ rest = b ++ uintL l.length ++ (dl 0 l ++ rest) := by simp [lvL]
  have hg := getU_put b (dl 0 l ++ rest) l.length (by omega)
  have h := readS_put l (b ++ uintL l.length) [] 0 rest h2 (by omega) fun x hx => ⟨(h3 x hx).1, (h3 x hx).2, fun h => by simp at h⟩
  unfold readV
  rw [e2, hg, if_neg (by simp), if_neg (by simp only; omega)]
  simp only [Int.toNat_natCast]
  rw [show b ++ uintL l.length ++ (dl 0 l ++ rest) = b ++ uintL l.length ++ dl 0 l ++ rest by simp, show ((b.length + (uintL l.length).length : Nat) : Int) = (((b ++ uintL l.length).length : Nat) : Int) by simp, h]
  simp [lvL]

set_option maxRecDepth 100000 in
set_option maxHeartbeats 2000000 in
theorem walk_PostingBack (w : World) (v : Value) (l : List Int) (h : Sl w 1 v l.length (ic l)) (hf : ∀ n ∈ l, (Lit.int .i64 n).wf = true) (_hl : l.length * 8 ≤ 140737488351232)
    (vb : Value) (b : List UInt8) (hb : Sl w 1 vb b.length (bc b)) (_hbl : b.length ≤ 140737488351232) (vm : Value) (m : List UInt8) (hm : Sl w 1 vm m.length (bc m)) (_hml : m.length ≤ 140737488351232)
    (tot : l.length + b.length + m.length ≤ 1048576) :
    Calls Try.prog 7 #[v, vb, vm] w fun e w' => e = .returned (.bool true) ∧ Below w.heap.size w w' := by
  have h64 : I64 l := fun n hn => bounds_i64 (hf n hn)
  by_cases hc : chkL l = 0
  · obtain ⟨aob, cb, rfl, _⟩ := hb.shape
    have hP := pput_ok (.slice aob b.length cb) v b l w (by omega) hb (by omega) h h64 hc
    have hlv : (lvL l).length ≤ 10000 := by
      have := (chkL_ok hc).1
      have := dl_length l 0
      have := uintL_length l.length
      simp [lvL]; omega
    have hR := readV_put b m l hc
    obtain ⟨X, hX⟩ : ∃ X, X = b ++ lvL l := ⟨_, rfl⟩
    rw [← hX] at hP hR
    have hXl : X.length ≤ 1100000 := by rw [hX]; simp; omega
    have HP := hid hP; have HR := hid hR; have H := hid h; have Hm := hid hm
    clear hP hR hX h hf hb hm hlv
    obtain ⟨aom, cm, rfl, _⟩ := Hm.out.shape
    obtain ⟨aol, cl, rfl, _⟩ := H.out.shape
    obtain ⟨ALL, hALL⟩ : ∃ ALL, ALL = X ++ m := ⟨_, rfl⟩
    rw [← hALL] at HR
    have hALLl : ALL.length = X.length + m.length := by rw [hALL]; simp
    have HA := hid hALL; have HLA := hid hALLl
    clear hALL hALLl
    go_enter Try.func7, Try.ntmps7
    go_wp2_with fail
    refine HP.out.mono ?_
    rintro e w3 ⟨g3, c3, rfl, hb3, hown3⟩
    have L3 := hid hb3; have O3 := hid hown3; have s3 := hb3.size; clear hb3 hown3
    go_wp2_with (first
      | (at_builtin; refine wpList_appS rfl (.tmp 33) (.tmp 34) 36 rfl w3.heap.size (.slice (some ⟨w3.heap.size, 0, none⟩) 0 0) 0 [] rfl (own_made _ _ 0 w3.heap.size rfl (Nat.le_refl _) (by unfold maxLen; omega) (by simp)) (.slice (some ⟨g3, 0, none⟩) X.length c3) X.length X rfl (Src.ofSl Try.underlying36 ((Sl.own O3.out).alloc _) (bc_one X)) (.inl (by simp)) (by omega) (by simp) _ rfl ?_; intro g4 cap4 w4 hown4 hgrow4 hbel4 hsz4 hat4; simp only [Nat.zero_add, List.nil_append] at hown4; have O4 := hid hown4; have L4 := hid (hbel4 w3 ((Below.refl _ _).alloc (Nat.le_refl _) _)); clear hown4 hgrow4 hbel4 hat4)
      | (at_builtin; refine wpList_appS rfl (.tmp 35) (.tmp 36) 36 rfl w3.heap.size (.slice (some ⟨g4, 0, none⟩) X.length cap4) X.length X rfl O4.out (.slice aom m.length cm) m.length m rfl (Src.ofSl Try.underlying36 (Hm.out.below (L3.out.trans (L4.out.mono (by omega))) (fun _ _ h => h)) (bc_one m)) (.inl (by simp)) (by omega) hsz4 _ rfl ?_; intro g5 cap5 w5 hown5 hgrow5 hbel5 hsz5 hat5; rw [← HA.out, ← HLA.out] at hown5; have O5 := hid hown5; have L5 := hid (hbel5 w3 L4.out); clear hown5 hgrow5 hbel5 hat5))
    have hR5 := read_any (.slice (some ⟨g5, 0, none⟩) (X.length + m.length) cap5) ALL b.length w5 (by have := HLA.out; omega) (by omega) (by omega) (by have h := Sl.own O5.out; have e := HLA.out; rw [e] at h ⊢; exact h)
    rw [HR.out] at hR5
    refine hR5.mono ?_
    rintro e w6 ⟨ao6, c6, rfl, hb6, hown6⟩
    have D5 := hid (L3.out.trans (L5.out.mono s3))
    have s5 : w.heap.size ≤ w5.heap.size := by omega
    have L6 := hid (D5.out.trans (hb6.mono s5)); have O6 := hid (Sl.own hown6); have s6 := Nat.le_trans s5 hb6.size; clear hb6 hown6 hR5
    go_wp2_with fail
    refine (same_any _ _ l l w6 O6.out (H.out.below L6.out (fun _ _ h => h))).mono ?_
    rintro e w7 ⟨rfl, hb7⟩
    have L7 := hid (L6.out.trans (hb7.mono s6)); have s7 := Nat.le_trans s6 hb7.size; clear hb7
    rw [show decide (l = l) = true from decide_eq_true rfl]
    go_wp2_with fail
    refine (lives_any w7).mono ?_
    rintro e w8 ⟨rfl, hb8⟩
    have L8 := hid (L7.out.trans (hb8.mono s7)); clear hb8
    go_wp2
    go_ret
    exact ⟨rfl, L8.out⟩
  · have HP := hid (pput_err vb v l w (by omega) h h64 hc)
    have HC := hid (check_any v l w (by omega) h h64)
    generalize chkL l = n at *
    have hne : (n == 0) = false := by simpa using hc
    clear h hf hb hm h64
    go_enter Try.func7, Try.ntmps7
    go_wp2_with fail
    refine HP.out.mono ?_
    rintro e wz ⟨rfl, hwz⟩
    subst wz
    go_wp2_with fail
    refine HC.out.mono ?_
    rintro e wz ⟨rfl, hwz⟩
    subst wz
    go_wp2_with fail
    refine (lives_any w).mono ?_
    rintro e w2 ⟨rfl, hb2⟩
    have L2 := hid hb2; clear hb2
    go_wp2
    go_ret
    exact ⟨rfl, L2.out⟩
end Go.Proofs.Ytimeadnkligkaaa
