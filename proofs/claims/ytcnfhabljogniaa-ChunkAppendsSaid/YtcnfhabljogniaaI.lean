/- Contracts of the reference gaugeref01: Put. -/
import Derived.Test.YtcnfhabljogniaaH
namespace Go.Proofs.Ytcnfhabljogniaa
open Go.RowKit

section
variable (bv : Value) (l : List UInt8) (u : Nat) (w : World) (hl : l.length ≤ 170000000000000) (hb : Sl w 1 bv l.length (bc l))
include hl hb

theorem refPut_bad1 (N n : Int) (hN0 : -9223372036854775808 ≤ N) (hN : N ≤ 9223372036854775807) (hn0 : -9223372036854775808 ≤ n) (hn1 : n ≤ 9223372036854775807) (hR : rightB l N = false) :
    Calls Try.prog 45 #[.agg #[bv, .int .i64 N], .int .u64 u, .int .i64 n] w (PutPost w ([], 0, 2)) := by
  have hr := fun wx (hx : Sl wx 1 bv l.length (bc l)) => refRight_any bv l N wx hN0 hN (by omega) hx
  rw [hR] at hr
  have Hr := hid hr; clear hr
  have Hb := hid hb; clear hb hR
  go_enter Try.func45, Try.ntmps45
  go_wp2_with (go_at_call 52; refine (Hr.out _ ((Hb.out.alloc _).alloc _)).mono ?_; rintro e w1 ⟨rfl, hb1⟩; obtain ⟨x0, x1, x2, x3⟩ := two_boxes hb1; have X0 := hid x0; have X1 := hid x1; have X2 := hid x2; obtain ⟨a0, a1, a2, a3, a4⟩ := blk2 x0; obtain ⟨b0, b1, b2, b3, b4⟩ := blk2 x1; clear x0 x1 x2 hb1)
  refine bodyPost_ret (v := .tuple #[.agg #[.slice none 0 0, .int .i64 0], .int .i64 2]) (by simp [results, Try.results45, go_sem, b0, b1, b2, b3, b4]) rfl ⟨none, 0, rfl, ?_, ?_⟩
  · exact (X2.out.setCell (by simp) _).setCell (by simp) _
  · exact World.ownsRow_nil _ _ _ _

theorem refPut_bad2 (N n : Int) (hN0 : -9223372036854775808 ≤ N) (hN : N ≤ 9223372036854775807) (hn0 : -9223372036854775808 ≤ n) (hn1 : n ≤ 9223372036854775807) (hR : rightB l N = true) (hn : n < 0 ∨ 64 < n) :
    Calls Try.prog 45 #[.agg #[bv, .int .i64 N], .int .u64 u, .int .i64 n] w (PutPost w ([], 0, 2)) := by
  have hr := fun wx (hx : Sl wx 1 bv l.length (bc l)) => refRight_any bv l N wx hN0 hN (by omega) hx
  rw [hR] at hr
  have Hr := hid hr; clear hr
  have Hb := hid hb; clear hb hR
  rcases hn with hn | hn
  all_goals
    go_enter Try.func45, Try.ntmps45
    go_wp2_with (go_at_call 52; refine (Hr.out _ ((Hb.out.alloc _).alloc _)).mono ?_; rintro e w1 ⟨rfl, hb1⟩; obtain ⟨x0, x1, x2, x3⟩ := two_boxes hb1; have X0 := hid x0; have X1 := hid x1; have X2 := hid x2; obtain ⟨a0, a1, a2, a3, a4⟩ := blk2 x0; obtain ⟨b0, b1, b2, b3, b4⟩ := blk2 x1; clear x0 x1 x2 hb1)
    refine bodyPost_ret (v := .tuple #[.agg #[.slice none 0 0, .int .i64 0], .int .i64 2]) (by simp [results, Try.results45, go_sem, b0, b1, b2, b3, b4]) rfl ⟨none, 0, rfl, ?_, ?_⟩
    · exact (X2.out.setCell (by simp) _).setCell (by simp) _
    · exact World.ownsRow_nil _ _ _ _
theorem refPut_big (hu : u < 18446744073709551616) (N n : Int) (hN0 : -9223372036854775808 ≤ N) (hN : N ≤ 9223372036854775807) (hR : rightB l N = true) (hn0 : 0 ≤ n) (hn : n ≤ 64) (hbig : n < (Lib.bitLen u : Int)) :
    Calls Try.prog 45 #[.agg #[bv, .int .i64 N], .int .u64 u, .int .i64 n] w (PutPost w ([], 0, 3)) := by
  have hr := fun wx (hx : Sl wx 1 bv l.length (bc l)) => refRight_any bv l N wx hN0 hN (by omega) hx
  rw [hR] at hr
  have Hr := hid hr; clear hr
  have Hb := hid hb; clear hb hR
  go_enter Try.func45, Try.ntmps45
  go_wp2_with (first | (go_at_call 52; refine (Hr.out _ ((Hb.out.alloc _).alloc _)).mono ?_; rintro e w1 ⟨rfl, hb1⟩; obtain ⟨x0, x1, x2, x3⟩ := two_boxes hb1; have X0 := hid x0; have X1 := hid x1; have X2 := hid x2; obtain ⟨a0, a1, a2, a3, a4⟩ := blk2 x0; obtain ⟨b0, b1, b2, b3, b4⟩ := blk2 x1; clear x0 x1 x2 hb1) | (go_at_call 44; refine (refDigits_any u _ hu).mono ?_; rintro e wz ⟨rfl, hwz⟩; subst wz))
  refine bodyPost_ret (v := .tuple #[.agg #[.slice none 0 0, .int .i64 0], .int .i64 3]) (by simp [results, Try.results45, go_sem, b0, b1, b2, b3, b4]) rfl ⟨none, 0, rfl, ?_, ?_⟩
  · exact (X2.out.setCell (by simp) _).setCell (by simp) _
  · exact World.ownsRow_nil _ _ _ _

set_option maxRecDepth 100000 in
set_option maxHeartbeats 2000000 in
theorem refPut_good (hu : u < 18446744073709551616) (N n : Nat) (hN : N ≤ 1390000000000000) (hR : rightB l N = true) (hn : n ≤ 64) (hbig : Lib.bitLen u ≤ n) :
    Calls Try.prog 45 #[.agg #[bv, .int .i64 N], .int .u64 u, .int .i64 n] w (PutPost w (putN l N u n, N + n, 0)) := by
  have hr := fun wx (hx : Sl wx 1 bv l.length (bc l)) => refRight_any bv l N wx (by omega) (by omega) (by omega) hx
  have hRt := (rightB_Rt hR).2
  simp only [Int.toNat_natCast] at hRt
  rw [hR] at hr
  obtain ⟨bao, bcap, rfl, _, _, _⟩ := hb.shape
  have Hr := hid hr; clear hr
  have Hb := hid hb; clear hb hR
  have HRt := hid hRt; clear hRt
  go_enter Try.func45, Try.ntmps45
  go_wp2_with (first
    | (go_at_call 52; refine (Hr.out _ ((Hb.out.alloc _).alloc _)).mono ?_; rintro e w1 ⟨rfl, hb1⟩; obtain ⟨x0, x1, x2, x3⟩ := two_boxes hb1; have X0 := hid x0; have X1 := hid x1; have X2 := hid x2; obtain ⟨a0, a1, a2, a3, a4⟩ := blk2 x0; obtain ⟨b0, b1, b2, b3, b4⟩ := blk2 x1; clear x0 x1 x2 hb1)
    | (go_at_call 44; refine (refDigits_any u _ hu).mono ?_; rintro e wz ⟨rfl, hwz⟩; subst wz)
    | (at_builtin; refine wpList_appS rfl (.tmp 27) (.tmp 29) 24 rfl w1.heap.size (.slice (some ⟨w1.heap.size, 0, none⟩) 0 0) 0 [] rfl (own_made _ _ 0 w1.heap.size rfl (Nat.le_refl _) (by unfold maxLen; omega) (by simp)) (.slice bao l.length bcap) l.length l rfl (Src.ofSl Try.underlying24 ((Hb.out.below X2.out (fun _ _ h => h)).alloc _) (bc_one l)) (.inl (by simp)) (by omega) (by simp) _ rfl ?_; intro g2 cap2 w2 hown2 hgrow2 hbel2 hsz2 hat2; simp only [Nat.zero_add, List.nil_append] at hown2; have O2 := hid hown2; have L2 := hid (hbel2 w1 ((Below.refl _ _).alloc (Nat.le_refl _) _)); clear hown2 hgrow2 hbel2 hat2))
  go_loopw [8, 9] (fun b i wr => ∃ (k : Nat) (ao : Option Addr) (c : Nat), k ≤ n ∧ i = .int .i64 k ∧ b = .slice ao (putTo l N u n k).length c ∧ w1.heap.size ≤ wr.heap.size ∧ Below w1.heap.size w1 wr ∧ wr.ownsRow w1.heap.size 5 1 (.slice ao (putTo l N u n k).length c) (putTo l N u n k).length (bc (putTo l N u n k)))
    (fun _ i _ => n - (intOf i).toNat)
  case atStart => exact ⟨0, _, _, Nat.zero_le _, rfl, by simp [putTo], hsz2, L2.out, O2.out⟩
  case round =>
    obtain ⟨k, ao, c, hk, rfl, rfl, hsz, hbel, hown⟩ := hrel
    have O := hid hown; have L := hid hbel
    have Y0 := hid (blk_below X0.out hbel (by omega)); have y1 := blk_below X1.out hbel (by omega); have Y1 := hid y1
    obtain ⟨c0, c1, c2, c3, c4⟩ := blk2 Y0.out
    obtain ⟨d0, d1, d2, d3, d4⟩ := blk2 y1
    clear hown hbel y1
    by_cases hlt : k < n
    · have hRk := (HRt.out.putTo u n k).1
      have hd := hid (show putTo l N u n (k + 1) = pushBit (putTo l N u n k) (N + k) (decide (u / 2 ^ (n - 1 - k) % 2 = 1)) from rfl)
      have hdg := fun wx => refDigit_any u (n - 1 - k) wx hu (by omega)
      have e1 : ((n - 1 - k : Nat) : Int) = (n : Int) - 1 - k := by omega
      rw [e1] at hdg
      have hd2 : u / 2 ^ (n - 1 - k) % 2 < 2 := Nat.mod_lt _ (by decide)
      generalize u / 2 ^ (n - 1 - k) % 2 = d at *
      have hpt := fun wx (hx : World.ownsRow wx w1.heap.size 5 1 (.slice ao (putTo l N u n k).length c) (putTo l N u n k).length (bc (putTo l N u n k))) (hs : w1.heap.size ≤ wx.heap.size) => refput_any (.slice ao (putTo l N u n k).length c) (putTo l N u n k) (N + k) d w1.heap.size wx hd2 hRk (by omega) hx hs
      rw [← hd.out] at hpt
      have e2 : ((N + k : Nat) : Int) = (N : Int) + k := by omega
      rw [e2] at hpt
      have HD := hid hdg; have HP := hid hpt
      clear hdg hpt e1 e2 hRk hd
      generalize hlk : putTo l N u n k = lk at *
      have HLK := hid hlk; clear hlk
      have q1 : IntKind.i64.wrap ((N : Int) + k) = (N : Int) + k := IntWalk.i64_in _ (by omega)
      have q2 : IntKind.i64.wrap ((n : Int) - 1) = (n : Int) - 1 := IntWalk.i64_in _ (by omega)
      have q3 : IntKind.i64.wrap ((n : Int) - 1 - k) = (n : Int) - 1 - k := IntWalk.i64_in _ (by omega)
      go_wp2
      go_region_held3 (fun w' => w'.cell? ⟨w.heap.size, 1, none⟩ = some (.int .i64 N) ∧ Below w1.heap.size w1 w')
        (first | exact hS | exact ⟨c1, L.out.drew⟩)
        (first
          | (go_at_call 54; refine (HD.out _).mono ?_; rintro e wz ⟨rfl, hwz⟩; subst wz; have hS := And.intro c1 L.out.drew)
          | (go_at_call 53; refine (HP.out _ O.out.drew hsz).mono ?_; rintro e w5 ⟨ao5, c5, rfl, hb5, hs5, hg5, ho5⟩; have L5 := hid (hb5 w1 L.out.drew); have O5 := hid ho5; have hS := And.intro ((L5.out.cell (p := ⟨w.heap.size, 1, none⟩) (by show w.heap.size < _; omega)).trans a1) L5.out; clear hb5 hg5 ho5))
      go_wp2
      go_roundw
      case rel => exact ⟨k + 1, ao5, c5, by omega, by go_num, rfl, hs5, L5.out, O5.out⟩
      case measure => simp [intOf]; omega
    · obtain rfl : k = n := by omega
      go_wp2
      refine bodyPost_ret (v := .tuple #[.agg #[.slice ao (putTo l N u k k).length c, .int .i64 ((N : Int) + k)], .int .i64 0]) (by simp [results, Try.results45, go_sem, d0, d1, d2, d3, d4]) rfl ⟨ao, c, rfl, ?_, ?_⟩
      · exact ((X2.out.trans (L.out.mono (by omega))).setCell (by simp) _).setCell (by simp) _
      · exact own_setOther (own_setOther (own_base O.out (by omega)) _ _ (own_ne_lt O.out (by omega))) _ _ (own_ne_lt O.out (by omega))
end

/-- gaugeref01.Put. -/
theorem refPut_any (bv : Value) (l : List UInt8) (N : Int) (u : Nat) (n : Int) (w : World) (hN0 : -9223372036854775808 ≤ N) (hN : N ≤ 9223372036854775807) (hu : u < 18446744073709551616)
    (hn0 : -9223372036854775808 ≤ n) (hn1 : n ≤ 9223372036854775807) (hl : l.length ≤ 170000000000000) (hb : Sl w 1 bv l.length (bc l)) :
    Calls Try.prog 45 #[.agg #[bv, .int .i64 N], .int .u64 u, .int .i64 n] w (PutPost w (putV l N u n)) := by
  by_cases hR : rightB l N = false
  · have e : putV l N u n = ([], 0, 2) := by unfold putV; rw [if_pos (.inl hR)]
    rw [e]; exact refPut_bad1 bv l u w hl hb N n hN0 hN hn0 hn1 hR
  · have hR' : rightB l N = true := by simpa using hR
    by_cases hn : n < 0 ∨ 64 < n
    · have e : putV l N u n = ([], 0, 2) := by unfold putV; rw [if_pos (.inr hn)]
      rw [e]; exact refPut_bad2 bv l u w hl hb N n hN0 hN hn0 hn1 hR' hn
    · have hno : ¬ (rightB l N = false ∨ n < 0 ∨ 64 < n) := by simp [hR']; omega
      by_cases hbig : n < (Lib.bitLen u : Int)
      · have e : putV l N u n = ([], 0, 3) := by unfold putV; rw [if_neg hno, if_pos hbig]
        rw [e]; exact refPut_big bv l u w hl hb hu N n hN0 hN hR' (by omega) (by omega) hbig
      · have e : putV l N u n = (putN l N.toNat u n.toNat, N + n, 0) := by unfold putV; rw [if_neg hno, if_neg hbig]
        rw [e]
        have h0 := (rightB_Rt hR').1
        obtain ⟨m, rfl⟩ := Int.eq_ofNat_of_zero_le h0
        obtain ⟨k, rfl⟩ := Int.eq_ofNat_of_zero_le (show 0 ≤ n by omega)
        have hm := (rightB_Rt hR').2.1
        simp only [Int.toNat_natCast] at *
        exact refPut_good bv l u w hl hb hu m k (by omega) hR' (by omega) (by omega)
end Go.Proofs.Ytcnfhabljogniaa
