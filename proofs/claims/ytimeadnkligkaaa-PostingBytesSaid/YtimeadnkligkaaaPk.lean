/- frame.PutUint and posting.Put once more, for rows up to the bound; the reference's Bytes, Put. -/
import Derived.Test.YtimeadnkligkaaaPi
namespace Go.Proofs.Ytimeadnkligkaaa
open Go.RowKit

set_option maxRecDepth 100000 in
set_option maxHeartbeats 1000000 in
theorem putUint_wide (v : Value) (l : List UInt8) (n : Nat) (w : World) (hl : l.length ≤ 190000000000000) (hn : n ≤ 9223372036854775807) (hb : Sl w 1 v l.length (bc l)) :
    Calls Try.prog 32 #[v, .int .i64 n] w fun e w' => ∃ g cap, e = .returned (.tuple #[.slice (some ⟨g, 0, none⟩) (l ++ uintL n).length cap, .int .i64 0]) ∧ Below w.heap.size w w' ∧
      w'.ownsRow w.heap.size 5 1 (.slice (some ⟨g, 0, none⟩) (l ++ uintL n).length cap) (l ++ uintL n).length (bc (l ++ uintL n)) := by
  have Hb := hid hb; clear hb
  go_enter Try.func32, Try.ntmps32
  go_wp2_with (go_at_call 36; refine (own_any v l 9 w (by omega) Hb.out).mono ?_; rintro e w1 ⟨g, cap, rfl, hb1, hown⟩; have O1 := hid hown; have B1 := hid hb1; clear hown hb1)
  go_loopw [6, 1] (fun out i wr => ∃ f m pre g cap, i = .int .i64 (m : Nat) ∧ uintL n = pre ++ uintF f m ∧ pre.length + f = 8 ∧ m < 128 * 128 ^ f ∧ out = .slice (some ⟨g, 0, none⟩) (l ++ pre).length cap ∧ w.heap.size ≤ wr.heap.size ∧ Below w.heap.size w wr ∧
      wr.ownsRow w.heap.size 5 1 (.slice (some ⟨g, 0, none⟩) (l ++ pre).length cap) (l ++ pre).length (bc (l ++ pre)))
    (fun _ i _ => (intOf i).toNat)
  case atStart => exact ⟨8, n, [], g, cap, rfl, rfl, rfl, by omega, by simp, B1.out.size, B1.out, by simpa using O1.out⟩
  case round =>
    obtain ⟨f, m, pre, g, cap, rfl, hu, hpf, hm, rfl, hsz, hbel, hown⟩ := hrel
    have O := hid hown; have L := hid hbel; have HU := hid hu; have HP := hid hpf
    have hpl : (l ++ pre).length ≤ 190000000000100 := by simp; omega
    have hm63 : m ≤ 9223372036854775807 := by
      have hf8 : f ≤ 8 := by omega
      have : 128 ^ f ≤ 128 ^ 8 := Nat.pow_le_pow_right (by decide) hf8
      have e8 : (128 : Nat) ^ 8 = 72057594037927936 := by decide
      omega
    have HM := hid hm
    clear hown hbel hu hpf hm
    generalize hlp : l ++ pre = lp at *
    have HLP := hid hlp; clear hlp
    by_cases hge : 128 ≤ m
    · have hor := hid (or128_bits m)
      go_wp2_with (at_builtin; refine wpList_app1 rfl (.tmp 15) (.tmp 19) rfl w.heap.size _ lp.length lp _ rfl O.out wr.heap.size rfl rfl (by rw [hor.out]; omega) (by rw [hor.out]; omega) (by omega) hsz ?_; intro g2 cap2 w2 hown2 hgrow2 hbel2 hsz2 hat2; have O2 := hid hown2; have L2 := hid (hbel2 w L.out); clear hown2 hgrow2 hbel2 hat2)
      have h1 := hor.out
      have hf : f ≠ 0 := by
        rintro rfl
        have := HM.out
        simp at this; omega
      obtain ⟨f', rfl⟩ : ∃ f', f = f' + 1 := ⟨f - 1, by omega⟩
      have e1 : uintF (f' + 1) m = UInt8.ofNat (m % 128 + 128) :: uintF f' (m / 128) := by rw [uintF, if_neg (by omega)]
      have e2 : l ++ (pre ++ [UInt8.ofNat (m % 128 + 128)]) = lp ++ [UInt8.ofNat (m % 128 + 128)] := by rw [← List.append_assoc, HLP.out]
      have e3 : (lp ++ [UInt8.ofNat (m % 128 + 128)]).length = lp.length + 1 := by simp
      have o2 := O2.out
      rw [h1, Int.toNat_natCast] at o2
      go_roundw
      case rel =>
        refine ⟨f', m / 128, pre ++ [UInt8.ofNat (m % 128 + 128)], g2, cap2, by congr 1, by rw [HU.out, e1]; simp, by have := HP.out; simp; omega, ?_, by rw [e2, e3], hsz2, L2.out, by rw [e2, e3]; exact o2⟩
        have := HM.out
        rw [Nat.pow_succ] at this
        omega
      case measure => simp [intOf]; omega
    · go_wp2_with (at_builtin; refine wpList_app1 rfl (.tmp 21) (.tmp 24) rfl w.heap.size _ lp.length lp _ rfl O.out wr.heap.size rfl rfl (by omega) (by omega) (by omega) hsz ?_; intro g2 cap2 w2 hown2 hgrow2 hbel2 hsz2 hat2; have O2 := hid hown2; have L2 := hid (hbel2 w L.out); clear hown2 hgrow2 hbel2 hat2)
      have e1 : uintF f m = [UInt8.ofNat m] := by
        cases f with
        | zero => rfl
        | succ f => rw [uintF, if_pos (by omega)]
      have e2 : l ++ uintL n = lp ++ [UInt8.ofNat m] := by rw [HU.out, e1, ← List.append_assoc, HLP.out]
      have e3 : (lp ++ [UInt8.ofNat m]).length = lp.length + 1 := by simp
      go_ret2
      refine ⟨g2, cap2, by rw [e2, e3]; rfl, L2.out, ?_⟩
      rw [e2, e3]
      have o2 := O2.out
      first | exact o2 | (rw [show ((m : Int) % 256).toNat = m by omega] at o2; exact o2)

set_option maxRecDepth 100000 in
set_option maxHeartbeats 1000000 in
theorem pput_wide (v vl : Value) (b : List UInt8) (l : List Int) (w : World) (hbl : b.length ≤ 140737488360000) (hb : Sl w 1 v b.length (bc b)) (hl : l.length ≤ 20000000000000) (hx : Sl w 1 vl l.length (ic l)) (h64 : I64 l) (hc : chkL l = 0) :
    Calls Try.prog 22 #[v, vl] w fun e w' => ∃ g cap, e = .returned (.tuple #[.slice (some ⟨g, 0, none⟩) (b ++ lvL l).length cap, .int .i64 0]) ∧ Below w.heap.size w w' ∧
      w'.ownsRow w.heap.size 5 1 (.slice (some ⟨g, 0, none⟩) (b ++ lvL l).length cap) (b ++ lvL l).length (bc (b ++ lvL l)) := by
  have h1024 := (chkL_ok hc).1
  have hC := check_any vl l w hl hx h64
  rw [hc] at hC
  have HC := hid hC; clear hC
  have HX := hid (fun k (hk : k < l.length) => (show ∃ b off c, vl = .slice (some ⟨b, off, none⟩) l.length c ∧ b < w.heap.size ∧ w.cell? ⟨b, off + k, none⟩ = some (.int .i64 (l.getD k 0)) from by
    obtain ⟨b, off, c', hv, _, _, hbl, hcell⟩ := hx.form (by decide) (by omega)
    exact ⟨b, off, c', hv, hbl, by rw [hcell k (by omega), ic_get l k hk]⟩))
  have HL := hid (ris_last l hc)
  obtain ⟨aol, cl, rfl, _⟩ := hx.shape
  obtain ⟨X, hX⟩ : ∃ X, X = b ++ lvL l := ⟨_, rfl⟩
  obtain ⟨x1, hx1⟩ : ∃ x, x = b ++ uintL l.length := ⟨_, rfl⟩
  have hP := putUint_wide v b l.length w (by omega) (by omega) hb
  rw [← hx1] at hP
  rw [← hX]
  have HP := hid hP; have HX0 := hid hX; have HX1 := hid hx1
  clear h64 hb hx hP hX hx1
  go_enter Try.func22, Try.ntmps22
  go_wp2_with fail
  refine HC.out.mono ?_
  rintro e wz ⟨rfl, hwz⟩
  subst wz
  go_wp2_with fail
  refine HP.out.mono ?_
  rintro e w1 ⟨g1, c1, rfl, hb1, hown1⟩
  have L1 := hid hb1; have O1 := hid hown1; clear hb1 hown1
  go_wp2
  go_loopw [7, 9, 11, 26] (fun out last _ i wr => ∃ k pre lp g cap, k ≤ l.length ∧ i = .int .i64 ((k : Nat) : Int) ∧ last = .int .i64 (lastL l k) ∧ lvL l = pre ++ dl (lastL l k) (l.drop k) ∧ pre.length ≤ 9 * (k + 1) ∧ lp = b ++ pre ∧ out = .slice (some ⟨g, 0, none⟩) lp.length cap ∧ w.heap.size ≤ wr.heap.size ∧ Below w.heap.size w wr ∧
      wr.ownsRow w.heap.size 5 1 (.slice (some ⟨g, 0, none⟩) lp.length cap) lp.length (bc lp))
    (fun _ _ _ i _ => l.length - (intOf i).toNat)
  case atStart => exact ⟨0, uintL l.length, x1, g1, c1, Nat.zero_le _, rfl, rfl, rfl, by have := uintL_length l.length; omega, HX1.out, rfl, L1.out.size, L1.out, O1.out⟩
  case round =>
    obtain ⟨k, pre, lp, g, cap, hk, rfl, rfl, hlv, hpl, hlp, rfl, hsz, hbel, hown⟩ := hrel
    have L := hid hbel; have O := hid hown; have HV := hid hlv
    have hll : lp.length ≤ 150000000000000 := by rw [hlp]; simp; omega
    have HLP := hid hlp
    clear hbel hown hlv hlp
    by_cases hlt : k < l.length
    · obtain ⟨b2, off2, c2, hv2, hb2, hcell2⟩ := HX.out k hlt
      simp only [Value.slice.injEq] at hv2
      obtain ⟨rfl, _, rfl⟩ := hv2
      have hcw : wr.cell? ⟨b2, off2 + k, none⟩ = some (.int .i64 (l.getD k 0)) := (L.out.cell (p := ⟨b2, off2 + k, none⟩) hb2).trans hcell2
      obtain ⟨q0, q1, q2, _⟩ := HL.out k hlt
      have HV2 := hid (HV.out.trans (congrArg (pre ++ ·) (dl_drop l k hlt)))
      have HN := hid (show lastL l (k + 1) = l.getD k 0 by simp [lastL])
      generalize l.getD k 0 = n at *
      generalize lastL l k = p at *
      obtain ⟨d, hd⟩ : ∃ d : Nat, d = (n - p).toNat := ⟨_, rfl⟩
      have kw : IntKind.i64.wrap (n - p) = (d : Int) := by rw [IntWalk.i64_in _ (by omega)]; omega
      have hw := uintL_length d
      have hd63 : d ≤ 1099511627776 := by omega
      have hP2 := putUint_wide (.slice (some ⟨g, 0, none⟩) lp.length cap) lp d wr (by omega) (by omega) (Sl.own O.out)
      obtain ⟨lq, hlq⟩ : ∃ lq, lq = lp ++ uintL d := ⟨_, rfl⟩
      rw [← hlq] at hP2
      rw [← hd] at HV2
      clear hd
      have HP2 := hid hP2; have HLQ := hid (show lq = b ++ (pre ++ uintL d) by rw [hlq, HLP.out, List.append_assoc])
      clear hcell2 hP2 hlq
      have hj : (k : Int) < (l.length : Int) := by omega
      go_wp2_with fail
      with_reducible refine HP2.out.mono ?_
      rintro e w3 ⟨g3, c3, rfl, hb3, hown3⟩
      have L3 := hid (L.out.trans (hb3.mono hsz)); have O3 := hid (own_base hown3 hsz); have s3 := Nat.le_trans hsz hb3.size; clear hb3 hown3
      go_wp2
      go_roundw
      case rel => exact ⟨k + 1, pre ++ uintL d, lq, g3, c3, by omega, by go_num, by rw [HN.out], by rw [HV2.out, HN.out, List.append_assoc], by simp; omega, HLQ.out, rfl, s3, L3.out, O3.out⟩
      case measure => simp [intOf]; omega
    · obtain rfl : k = l.length := by omega
      have e : X = lp := by rw [HX0.out, HLP.out, HV.out, List.drop_length]; simp [dl]
      go_wp2
      go_ret2
      rw [e]
      exact ⟨g, cap, rfl, L.out, O.out⟩

set_option maxRecDepth 100000 in
set_option maxHeartbeats 1000000 in
theorem refBytes_any (v : Value) (l : List Int) (w : World) (h1024 : l.length ≤ 1024) (hx : Sl w 1 v l.length (ic l)) (hc : chkL l = 0) :
    Calls Try.prog 33 #[v] w fun e w' => ∃ g cap, e = .returned (.slice (some ⟨g, 0, none⟩) (lvL l).length cap) ∧ Below w.heap.size w w' ∧
      w'.ownsRow w.heap.size 5 1 (.slice (some ⟨g, 0, none⟩) (lvL l).length cap) (lvL l).length (bc (lvL l)) := by
  have HX := hid (fun k (hk : k < l.length) => (show ∃ b off c, v = .slice (some ⟨b, off, none⟩) l.length c ∧ b < w.heap.size ∧ w.cell? ⟨b, off + k, none⟩ = some (.int .i64 (l.getD k 0)) from by
    obtain ⟨b, off, c', hv, _, _, hbl, hcell⟩ := hx.form (by decide) (by omega)
    exact ⟨b, off, c', hv, hbl, by rw [hcell k (by omega), ic_get l k hk]⟩))
  have HL := hid (ris_last l hc)
  obtain ⟨aol, cl, rfl, _⟩ := hx.shape
  have hP := refUint_any l.length w (by omega)
  obtain ⟨X, hX⟩ : ∃ X, X = lvL l := ⟨_, rfl⟩
  rw [← hX]
  obtain ⟨x1, hx1⟩ : ∃ x, x = uintL l.length := ⟨_, rfl⟩
  rw [← hx1] at hP
  have HX0 := hid hX; have HX1 := hid hx1; have HP := hid hP
  clear hX hx1 hP
  clear hx hc
  go_enter Try.func33, Try.ntmps33
  go_wp2_with fail
  refine HP.out.mono ?_
  rintro e w1 ⟨g1, c1, rfl, hb1, hown1⟩
  have L1 := hid hb1; have O1 := hid hown1; clear hb1 hown1
  go_wp2
  go_loopw [3, 4, 5] (fun out last i wr => ∃ k pre g cap, k ≤ l.length ∧ i = .int .i64 ((k : Nat) : Int) ∧ last = .int .i64 (lastL l k) ∧ lvL l = pre ++ dl (lastL l k) (l.drop k) ∧ pre.length ≤ 9 * (k + 1) ∧ out = .slice (some ⟨g, 0, none⟩) pre.length cap ∧ w.heap.size ≤ wr.heap.size ∧ Below w.heap.size w wr ∧
      wr.ownsRow w.heap.size 5 1 (.slice (some ⟨g, 0, none⟩) pre.length cap) pre.length (bc pre))
    (fun _ _ i _ => l.length - (intOf i).toNat)
  case atStart => exact ⟨0, x1, g1, c1, Nat.zero_le _, rfl, rfl, by rw [HX1.out]; rfl, by rw [HX1.out]; have := uintL_length l.length; omega, rfl, L1.out.size, L1.out, O1.out⟩
  case round =>
    obtain ⟨k, pre, g, cap, hk, rfl, rfl, hlv, hpl, rfl, hsz, hbel, hown⟩ := hrel
    have L := hid hbel; have O := hid hown; have HV := hid hlv
    clear hbel hown hlv
    by_cases hlt : k < l.length
    · obtain ⟨b2, off2, c2, hv2, hb2, hcell2⟩ := HX.out k hlt
      simp only [Value.slice.injEq] at hv2
      obtain ⟨rfl, _, rfl⟩ := hv2
      have hcw : wr.cell? ⟨b2, off2 + k, none⟩ = some (.int .i64 (l.getD k 0)) := (L.out.cell (p := ⟨b2, off2 + k, none⟩) hb2).trans hcell2
      obtain ⟨q0, q1, q2, _⟩ := HL.out k hlt
      have HV2 := hid (HV.out.trans (congrArg (pre ++ ·) (dl_drop l k hlt)))
      have HN := hid (show lastL l (k + 1) = l.getD k 0 by simp [lastL])
      generalize l.getD k 0 = n at *
      generalize lastL l k = p at *
      obtain ⟨d, hd⟩ : ∃ d : Nat, d = (n - p).toNat := ⟨_, rfl⟩
      have kw : IntKind.i64.wrap (n - p) = (d : Int) := by rw [IntWalk.i64_in _ (by omega)]; omega
      have hd63 : d ≤ 1099511627776 := by omega
      have HP2 := hid (refUint_any d wr (by omega))
      rw [← hd] at HV2
      clear hd hcell2
      have hw := uintL_length d
      generalize uintL d = y at *
      go_wp2_with fail
      refine HP2.out.mono ?_
      rintro e w3 ⟨g3, c3, rfl, hb3, hown3⟩
      have L3 := hid (L.out.trans (hb3.mono hsz)); have O3 := hid (Sl.own hown3); have s3 := Nat.le_trans hsz hb3.size
      have OO := hid (own_below O.out hb3 (Nat.le_refl _)); have hcw3 : w3.cell? ⟨b2, off2 + k, none⟩ = some (.int .i64 n) := (hb3.cell (p := ⟨b2, off2 + k, none⟩) (Nat.lt_of_lt_of_le hb2 hsz)).trans hcw
      have hyp : 0 < y.length ∨ y.length = 0 := by omega
      clear hb3 hown3
      go_wp2_with (at_builtin; refine wpList_appS rfl (.tmp 15) (.tmp 22) 36 rfl w.heap.size (.slice (some ⟨g, 0, none⟩) pre.length cap) pre.length pre rfl OO.out (.slice (some ⟨g3, 0, none⟩) y.length c3) y.length y rfl (Src.ofSl Try.underlying36 O3.out (bc_one y)) (.inl (by simp)) (by omega) s3 _ rfl ?_; intro g4 cap4 w4 hown4 hgrow4 hbel4 hsz4 hat4; have O4 := hid hown4; have L4 := hid (hbel4 w L3.out); have hcw4 : w4.cell? ⟨b2, off2 + k, none⟩ = some (.int .i64 n) := ((L4.out.cell (p := ⟨b2, off2 + k, none⟩) hb2).trans ((L3.out.cell (p := ⟨b2, off2 + k, none⟩) hb2).symm.trans hcw3)); clear hown4 hgrow4 hbel4 hat4)
      go_roundw
      case rel => exact ⟨k + 1, pre ++ y, g4, cap4, by omega, by go_num, by rw [HN.out], by rw [HV2.out, HN.out, List.append_assoc], by simp; omega, by simp, hsz4, L4.out, by simpa using O4.out⟩
      case measure => simp [intOf]; omega
    · obtain rfl : k = l.length := by omega
      have e : X = pre := by rw [HX0.out, HV.out, List.drop_length]; simp [dl]
      go_wp2
      go_ret
      rw [e]
      exact ⟨g, cap, rfl, L.out, O.out⟩
end Go.Proofs.Ytimeadnkligkaaa
