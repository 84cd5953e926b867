/- What is put is got; the walk of FrameBack. -/
import Derived.Test.YtecnjgiodnphcaaGd
import Derived.Test.YtecnjgiodnphcaaFz
namespace Go.Proofs.Ytecnjgiodnphcaa
open Go.RowKit

theorem getT_put (b s rest : List UInt8) (hs : s.length ≤ 65535) : getT (b ++ uintL s.length ++ s ++ rest) b.length = (s, (((b ++ uintL s.length ++ s).length : Nat) : Int), (0 : Int)) := by
  have hg := getU_put b (s ++ rest) s.length (by omega)
  rw [← List.append_assoc] at hg
  unfold getT
  rw [hg]
  simp only [ne_eq, not_true_eq_false, if_false]
  rw [if_neg (by omega), if_neg (by simp only [List.length_append]; omega)]
  refine Prod.ext ?_ (Prod.ext ?_ rfl)
  · simp only [Int.toNat_natCast]
    have e : (b ++ uintL s.length ++ s ++ rest).drop (b.length + (uintL s.length).length) = s ++ rest := by
      rw [show b.length + (uintL s.length).length = (b ++ uintL s.length).length by simp, List.append_assoc _ s rest, List.drop_left]
    rw [e, List.take_left]
  · simp only [List.length_append]; omega
theorem getF_put (q x more : List UInt8) (hx : x.length ≤ 65535) : getF (q ++ frameL x ++ more) q.length = (x, (((q ++ frameL x).length : Nat) : Int), (0 : Int)) := by
  have hd : (q ++ frameL x ++ more).drop q.length = frameL x ++ more := by rw [List.append_assoc, List.drop_left]
  have hfl := frameL_length x
  have hn : frN (q ++ frameL x ++ more) q.length = x.length := by
    unfold frN
    have h0 := getD_drop (q ++ frameL x ++ more) q.length 0
    have h1 := getD_drop (q ++ frameL x ++ more) q.length 1
    rw [hd] at h0 h1
    rw [Nat.add_zero] at h0
    rw [h0, h1]
    simp only [frameL, hd2, List.cons_append, List.nil_append, List.getD, List.getElem?_cons_zero, List.getElem?_cons_succ, Option.getD_some, UInt8.toNat_ofNat']
    omega
  have hh : (hd2 x.length).length = 2 := rfl
  have ht : (frameL x ++ more).take (2 + x.length) = hd2 x.length ++ x := by
    unfold frameL
    rw [List.append_assoc, show 2 + x.length = (hd2 x.length ++ x).length by simp [hh], List.take_left]
  have hk : ((frameL x ++ more).drop (2 + x.length)).take 4 = le4 (sumL (hd2 x.length ++ x)) := by
    unfold frameL
    rw [List.append_assoc, show 2 + x.length = (hd2 x.length ++ x).length by simp [hh], List.drop_left, show 4 = (le4 (sumL (hd2 x.length ++ x))).length by rfl, List.take_left]
  have hy : ((frameL x ++ more).drop 2).take x.length = x := by
    unfold frameL
    rw [List.append_assoc, List.append_assoc, show (2 : Nat) = (hd2 x.length).length by rfl, List.drop_left, List.take_left]
  unfold getF
  rw [if_neg (by simp only [List.length_append]; omega), Int.toNat_natCast, hn, if_neg (by simp only [List.length_append, hfl]; omega), if_neg (by simp only [List.length_append, hfl]; omega), if_neg]
  · refine Prod.ext ?_ (Prod.ext ?_ rfl)
    · show ((q ++ frameL x ++ more).drop (q.length + 2)).take x.length = x
      rw [← List.drop_drop, hd, hy]
    · simp only [List.length_append, hfl]; omega
  · rw [← List.drop_drop, hd, ht, hk]
    simp
end Go.Proofs.Ytecnjgiodnphcaa
