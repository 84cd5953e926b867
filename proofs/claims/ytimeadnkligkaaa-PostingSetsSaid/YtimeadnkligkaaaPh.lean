/- Contract of posting.Read. -/
import Derived.Test.YtimeadnkligkaaaPe
import Derived.Test.YtimeadnkligkaaaFj
namespace Go.Proofs.Ytimeadnkligkaaa
open Go.RowKit

theorem getU_cases (l : List UInt8) (a : Int) : (∃ e, getU l a = (0, 0, e) ∧ e ≠ 0) ∨
    (∃ m j A : Nat, a = (A : Int) ∧ getU l a = ((m : Int), ((A + j : Nat) : Int), 0) ∧ A + j ≤ l.length ∧ uintL m = (l.drop A).take j ∧ m ≤ 9223372036854775807) := by
  by_cases ho : a < 0 ∨ (l.length : Int) < a
  · exact .inl ⟨2, by unfold getU; rw [if_pos ho], by decide⟩
  · obtain ⟨A, rfl⟩ : ∃ A : Nat, a = A := ⟨a.toNat, by omega⟩
    have e : getU l (A : Int) = getG l A 9 0 0 := by unfold getU; rw [if_neg ho, Int.toNat_natCast]
    rw [e]
    by_cases hz : (getG l A 9 0 0).2.2 = 0
    · obtain ⟨m, j, h1, h2, h3, h4, _, h6⟩ := getG_back l A 8 0 0 rfl hz
      refine .inr ⟨m, j, A, rfl, ?_, by omega, by simpa [uintL] using h4, ?_⟩
      · refine Prod.ext ?_ (Prod.ext ?_ hz)
        · rw [h1]; simp
        · rw [h2]; simp
      · have : (128 : Nat) * 128 ^ 8 = 9223372036854775808 := by decide
        omega
    · have := getG_fail l A 9 0 0 hz
      exact .inl ⟨_, Prod.ext this.1 (Prod.ext this.2 rfl), hz⟩

def readS (b : List UInt8) : Nat → Int → List Int → Int → List Int × Int × Int
  | 0, a, L, _ => (L, a, 0)
  | k + 1, a, L, p =>
    if (getU b a).2.2 ≠ 0 then ([], 0, (getU b a).2.2)
    else if 1099511627776 - p < (getU b a).1 ∨ (0 < L.length ∧ (getU b a).1 = 0) then ([], 0, 5)
    else readS b k (getU b a).2.1 (L ++ [p + (getU b a).1]) (p + (getU b a).1)
/-- posting.Read in plain words -/
def readV (b : List UInt8) (a : Int) : List Int × Int × Int :=
  if (getU b a).2.2 ≠ 0 then ([], 0, (getU b a).2.2) else if 1024 < (getU b a).1 then ([], 0, 3) else readS b (getU b a).1.toNat (getU b a).2.1 [] 0
def ReadPost (w : World) (r : List Int × Int × Int) (e : Ending) (w' : World) : Prop :=
  ∃ ao c, e = .returned (.tuple #[.slice ao r.1.length c, .int .i64 r.2.1, .int .i64 r.2.2]) ∧ Below w.heap.size w w' ∧ w'.ownsRow w.heap.size 3 1 (.slice ao r.1.length c) r.1.length (ic r.1)

def slenR : Value → Nat
  | .slice _ n _ => n
  | _ => 0
def RdRel (w : World) (l : List UInt8) (n : Nat) (R : List Int × Int × Int) (at' e lv p : Value) (wr : World) : Prop :=
  ∃ (a : Int) (L : List Int) (q : Int) (ao : Option Addr) (c : Nat), at' = .int .i64 a ∧ e = .int .i64 0 ∧ lv = .slice ao L.length c ∧ p = .int .i64 q ∧ -9223372036854775808 ≤ a ∧ a ≤ 9223372036854775807 ∧ 0 ≤ q ∧ q ≤ 1099511627776 ∧ L.length ≤ n ∧
    readS l (n - L.length) a L q = R ∧ w.heap.size ≤ wr.heap.size ∧ Below w.heap.size w wr ∧ wr.ownsRow w.heap.size 3 1 (.slice ao L.length c) L.length (ic L)

set_option linter.unusedSimpArgs false in
set_option maxRecDepth 100000 in
set_option maxHeartbeats 2000000 in
theorem read_any (v : Value) (l : List UInt8) (a : Int) (w : World) (hl : l.length ≤ 140737488355328) (ha0 : -9223372036854775808 ≤ a) (ha1 : a ≤ 9223372036854775807) (hb : Sl w 1 v l.length (bc l)) :
    Calls Try.prog 24 #[v, .int .i64 a] w (ReadPost w (readV l a)) := by
  have HG := hid (getUint_any v l a w hl ha0 ha1 hb)
  obtain ⟨R, hR⟩ : ∃ R, R = readV l a := ⟨_, rfl⟩
  rw [← hR]
  rcases getU_cases l a with ⟨er, hg, he⟩ | ⟨n, j, A, rfl, hg, hj, hu, hn⟩
  · have hR2 : R = ([], 0, er) := by rw [hR]; unfold readV; rw [hg, if_pos he]
    have HR := hid hR2
    rw [hg] at HG
    have hne : (er == 0) = false := by simpa using he
    clear hR hR2 hg he hb
    go_enter Try.func24, Try.ntmps24
    go_wp2_with fail
    go_step3
    go_wp2_with fail
    refine HG.out.mono ?_
    unfold retU
    rintro e wz ⟨rfl, hwz⟩
    subst wz
    go_wp2_with fail
    go_step3
    go_wp2_with fail
    go_loopw [8] (fun e wr => e = .int .i64 er ∧ wr = w) (fun _ _ => 0)
    case atStart => exact ⟨rfl, rfl⟩
    case round =>
      obtain ⟨rfl, rfl⟩ := hrel
      go_wp2
      go_ret3
      rw [HR.out]
      exact ⟨none, 0, rfl, Below.refl _ _, World.ownsRow_nil _ _ _ _⟩
  · by_cases hbig : 1024 < n
    · have hR2 : R = ([], 0, 3) := by rw [hR]; unfold readV; rw [hg, if_neg (by simp), if_pos (by simp; omega)]
      have HR := hid hR2
      rw [hg] at HG
      have hd : decide (1024 < (n : Int)) = true := decide_eq_true (by omega)
      clear hR hR2 hg hb
      go_enter Try.func24, Try.ntmps24
      go_wp2_with fail
      go_step3
      go_wp2_with fail
      refine HG.out.mono ?_
      unfold retU
      rintro e wz ⟨rfl, hwz⟩
      subst wz
      go_wp2_with fail
      go_step3
      go_wp2_with fail
      go_loopw [8] (fun e wr => e = .int .i64 3 ∧ wr = w) (fun _ _ => 0)
      case atStart => exact ⟨rfl, rfl⟩
      case round =>
        obtain ⟨rfl, rfl⟩ := hrel
        go_wp2
        go_ret3
        rw [HR.out]
        exact ⟨none, 0, rfl, Below.refl _ _, World.ownsRow_nil _ _ _ _⟩
    · have hR2 : readS l n ((A + j : Nat) : Int) [] 0 = R := by rw [hR]; unfold readV; rw [hg, if_neg (by simp), if_neg (by simp; omega), Int.toNat_natCast]
      rw [hg] at HG
      have hd : decide (1024 < (n : Int)) = false := decide_eq_false (by omega)
      have HS := hid (show RdRel w l n R (.int .i64 ((A + j : Nat) : Int)) (.int .i64 0) (.slice none 0 0) (.int .i64 0) w from ⟨_, [], 0, none, 0, rfl, rfl, rfl, rfl, by omega, by omega, by omega, by omega, by simp, hR2, Nat.le_refl _, Below.refl _ _, World.ownsRow_nil _ _ _ _⟩)
      have HB := hid hb
      clear hR hR2 hg hb hu
      generalize A + j = A0 at *
      go_enter Try.func24, Try.ntmps24
      go_wp2_with fail
      go_step3
      go_wp2_with fail
      refine HG.out.mono ?_
      unfold retU
      rintro e wz ⟨rfl, hwz⟩
      subst wz
      go_wp2_with fail
      go_step3
      go_wp2_with fail
      go_loopw [1, 8, 9, 10, 11, 40, 43] (fun a e L p _ _ _ wr => RdRel w l n R a e L p wr) (fun _ _ L _ _ _ _ _ => n - slenR L)
      case atStart => exact HS.out
      case round =>
        obtain ⟨a, L, q, ao, c, rfl, rfl, rfl, rfl, ha0, ha1, hq0, hq1, hLn, hS, hsz, hbel, hown⟩ := hrel
        have LW := hid hbel; have O := hid hown; have HSS := hid hS
        clear hbel hown hS
        by_cases hlt : L.length < n
        · have i1 : decide ((L.length : Int) < (n : Int)) = true := decide_eq_true (by omega)
          obtain ⟨k, hk⟩ : ∃ k, n - L.length = k + 1 := ⟨n - L.length - 1, by omega⟩
          have hG2 := getUint_any v l a wr hl ha0 ha1 (HB.out.below LW.out (fun _ _ h => h))
          have hS2 := HSS.out
          rw [hk, readS] at hS2
          have kw : IntKind.i64.wrap (1099511627776 - q) = 1099511627776 - q := IntWalk.i64_in _ (by omega)
          rcases getU_cases l a with ⟨er, hg, he⟩ | ⟨m, j2, A2, rfl, hg, hj2, hu2, hm⟩
          · rw [hg] at hG2 hS2
            rw [if_pos he] at hS2
            have HG2 := hid hG2; have HR := hid hS2.symm
            have hne : (er == 0) = false := by simpa using he
            clear hG2 hS2 hg he

            go_wp2_with fail
            refine HG2.out.mono ?_
            unfold retU
            rintro e wz ⟨rfl, hwz⟩
            subst wz
            go_wp2
            go_ret3
            rw [HR.out]
            exact ⟨none, 0, rfl, LW.out, World.ownsRow_nil _ _ _ _⟩
          · rw [hg] at hG2 hS2
            rw [if_neg (by simp)] at hS2
            have HG2 := hid hG2
            clear hG2 hg hu2
            by_cases hbad : 1099511627776 - q < (m : Int)
            · have hd1 : decide (1099511627776 - q < (m : Int)) = true := decide_eq_true hbad
              rw [if_pos (.inl hbad)] at hS2
              have HR := hid hS2.symm
              clear hS2 hbad
              go_wp2_with fail
              refine HG2.out.mono ?_
              unfold retU
              rintro e wz ⟨rfl, hwz⟩
              subst wz
              go_wp2
              go_ret3
              rw [HR.out]
              exact ⟨none, 0, rfl, LW.out, World.ownsRow_nil _ _ _ _⟩
            · have hd1 : decide (1099511627776 - q < (m : Int)) = false := decide_eq_false hbad
              by_cases hz : 0 < L.length ∧ m = 0
              · obtain ⟨hz0, rfl⟩ := hz
                rw [if_pos (.inr ⟨hz0, rfl⟩)] at hS2
                have HR := hid hS2.symm
                have i2 : (0 : Int) < (L.length : Int) := by omega
                clear hS2 hbad
                go_wp2_with fail
                refine HG2.out.mono ?_
                unfold retU
                rintro e wz ⟨rfl, hwz⟩
                subst wz
                go_wp2
                go_ret3
                rw [HR.out]
                exact ⟨none, 0, rfl, LW.out, World.ownsRow_nil _ _ _ _⟩
              · rw [if_neg (by rintro (h | ⟨h1, h2⟩); exact hbad h; exact hz ⟨h1, by simpa using h2⟩)] at hS2
                have hqm : 0 ≤ q + (m : Int) ∧ q + (m : Int) ≤ 1099511627776 := by omega
                obtain ⟨y, hy⟩ : ∃ y, y = q + (m : Int) := ⟨_, rfl⟩
                have hkk : k = n - (L.length + 1) := by omega
                have kq : wrap64 (q + (m : Int)) = y := by rw [hy]; exact IntWalk.wrap64_in _ ⟨by omega, by omega⟩
                rw [← hy] at hS2 hqm
                rw [hkk] at hS2
                have hA2 : A2 + j2 ≤ 140737488355328 := by omega
                generalize A2 + j2 = A3 at *
                have HS2 := hid hS2
                clear hS2 hy hbad
                rcases Nat.eq_zero_or_pos L.length with hL0 | hL0
                · have i2 : decide ((0 : Int) < (L.length : Int)) = false := decide_eq_false (by omega)
                  have i4 : ¬ (0 < L.length) := by omega
                  clear hL0 hz
                  go_wp2_with fail
                  refine HG2.out.mono ?_
                  unfold retU
                  rintro e wz ⟨rfl, hwz⟩
                  subst wz
                  go_wp2_with (at_builtin; refine wpList_appI rfl (.tmp 58) (.tmp 60) rfl w.heap.size (.slice ao L.length c) L.length L rfl O.out y _ rfl rfl (by omega) hsz ?_; intro g3 cap3 w3 hown3 hgrow3 hbel3 hsz3; have O3 := hid hown3; have L3 := hid (hbel3 w LW.out); clear hown3 hgrow3 hbel3)
                  go_roundw
                  case rel => exact ⟨(A3 : Int), L ++ [y], y, some ⟨g3, 0, none⟩, cap3, rfl, rfl, by simp, rfl, by omega, by omega, hqm.1, hqm.2, by simp; omega, by simpa using HS2.out, hsz3, L3.out, by simpa using O3.out⟩
                  case measure => simp [slenR]; omega
                · have i2 : decide ((0 : Int) < (L.length : Int)) = true := decide_eq_true (by omega)
                  have i3 : ((m : Int) == 0) = false := by simp; omega
                  clear hz
                  go_wp2_with fail
                  refine HG2.out.mono ?_
                  unfold retU
                  rintro e wz ⟨rfl, hwz⟩
                  subst wz
                  go_wp2_with (at_builtin; refine wpList_appI rfl (.tmp 58) (.tmp 60) rfl w.heap.size (.slice ao L.length c) L.length L rfl O.out y _ rfl rfl (by omega) hsz ?_; intro g3 cap3 w3 hown3 hgrow3 hbel3 hsz3; have O3 := hid hown3; have L3 := hid (hbel3 w LW.out); clear hown3 hgrow3 hbel3)
                  go_roundw
                  case rel => exact ⟨(A3 : Int), L ++ [y], y, some ⟨g3, 0, none⟩, cap3, rfl, rfl, by simp, rfl, by omega, by omega, hqm.1, hqm.2, by simp; omega, by simpa using HS2.out, hsz3, L3.out, by simpa using O3.out⟩
                  case measure => simp [slenR]; omega
        · have hLe : L.length = n := by omega
          have i1 : decide ((L.length : Int) < (n : Int)) = false := decide_eq_false (by omega)
          have hS2 := HSS.out
          rw [show n - L.length = 0 by omega, readS] at hS2
          have HR := hid hS2.symm
          clear hS2
          go_wp2
          go_ret3
          rw [HR.out]
          exact ⟨ao, c, rfl, LW.out, O.out⟩
end Go.Proofs.Ytimeadnkligkaaa
