/- The walk of ChunkCuts. -/
import Derived.Test.YtcnfhabljogniaaCm
namespace Go.Proofs.Ytcnfhabljogniaa
open Go.RowKit
set_option linter.unusedSimpArgs false

theorem takeR_next (Ls : List (List (Int × Int))) (k : Nat) (h : k < Ls.length) : (Ls.take (k + 1)).flatten = (Ls.take k).flatten ++ Ls.getD k [] := by
  rw [List.take_add_one, List.flatten_append]; simp [h]
theorem flatten_take_len (Ls : List (List (Int × Int))) (k : Nat) : (Ls.take k).flatten.length ≤ Ls.flatten.length := by
  have h : (Ls.take k).flatten.length + (Ls.drop k).flatten.length = Ls.flatten.length := by
    rw [← List.length_append, ← List.flatten_append, List.take_append_drop]
  omega

set_option maxRecDepth 100000 in
set_option maxHeartbeats 2000000 in
theorem walk_ChunkCuts (w : World) (v : Value) (l : List (Int × Int)) (hb : Sl w 2 v l.length (sc l)) (_h64 : S64 l) (hl : l.length ≤ 8796093022208) :
    Calls Try.prog 7 #[v] w fun e w' => e = .returned (.bool true) ∧ Below w.heap.size w w' := by
  have Hb := hid hb
  obtain ⟨ao, c, rfl, _, _, _⟩ := hb.shape
  clear hb
  go_enter Try.func7, Try.ntmps7
  go_wp2_with fail
  refine (own_any _ l w (by omega) Hb.out).mono ?_
  rintro e w1 ⟨g1, c1, rfl, hb1, hown1⟩
  have L1 := hid hb1; have O1 := hid hown1
  clear hb1 hown1
  go_wp2_with fail
  refine (cut_any _ l w1 (by omega) (Sl.own O1.out)).mono ?_
  rintro e w2 ⟨Ls, ao2, c2, rfl, hb2, hrows, hcut⟩
  have L2 := hid (L1.out.trans (hb2.mono L1.out.size)); have R2 := hid hrows; have C2 := hid hcut
  have s2 := L2.out.size
  have hfl : Ls.flatten = l := by rw [hcut.2.2.2.1, List.take_length]
  have HF := hid hfl
  have hLn : Ls.length ≤ l.length := hcut.2.2.2.2
  clear hb2 hrows hcut O1 hfl
  go_wp2
  go_loopw [4, 5] (fun av i wr => ∃ k ao3 c3, k ≤ Ls.length ∧ i = .int .i64 ((k : Nat) : Int) ∧ av = .slice ao3 (Ls.take k).flatten.length c3 ∧ Below w2.heap.size w2 wr ∧ wr.ownsRow w2.heap.size 40 2 (.slice ao3 (Ls.take k).flatten.length c3) (Ls.take k).flatten.length (sc (Ls.take k).flatten))
    (fun _ i _ => Ls.length - (intOf i).toNat)
  case atStart => exact ⟨0, none, 0, Nat.zero_le _, rfl, rfl, Below.refl _ _, World.ownsRow_nil _ _ _ _⟩
  case round =>
    obtain ⟨k, ao3, c3, hk, rfl, rfl, hbel, hown⟩ := hrel
    have L := hid hbel; have O := hid hown
    have sz := hbel.size
    clear hbel hown
    by_cases hlt : k < Ls.length
    · obtain ⟨f, hv, hf⟩ := R2.out
      obtain ⟨b2, off2, c2', hv2, _, _, hb2l, hcell⟩ := (Sl.own hv).form (by decide) (by omega)
      simp only [Value.slice.injEq] at hv2
      obtain ⟨rfl, _, rfl⟩ := hv2
      have hck := hcell k (by omega)
      rw [show ((List.range Ls.length).map f)[k]? = some (f k) by simp [hlt]] at hck
      obtain ⟨⟨aok, ck, hfk⟩, hownk⟩ := hf.1 k hlt
      rw [hfk] at hck hownk
      have hlen := C2.out.1 k hlt
      have hlast := C2.out.2.1 k
      have HT := hid (takeR_next Ls k hlt)
      have HL1 := flatten_take_len Ls k
      rw [HF.out] at HL1
      obtain ⟨y, hy⟩ : ∃ y, y = Ls.getD k [] := ⟨_, rfl⟩
      rw [← hy] at hck hownk hlen hlast HT
      have hckr : wr.cell? ⟨b2, off2 + k, none⟩ = some (.slice aok y.length ck) := by rw [World.cell?_of_block (L.out.block b2 hb2l)]; exact hck
      have SY := hid ((Sl.own hownk).below L.out (fun _ _ h => h))
      obtain ⟨n, hn⟩ : ∃ n, n = (Ls.take k).flatten := ⟨_, rfl⟩
      rw [← hn] at O HT HL1 ⊢
      have i1 : (k : Int) < (Ls.length : Int) := by omega
      have i0 : (0 : Int) ≤ (k : Int) := by omega
      have d1 : ((y.length : Int) == 0) = false := by simp; intro h; rw [h] at hlen; simp at hlen
      have d2 : decide (120 < (y.length : Int)) = false := decide_eq_false (by omega)
      have kw : IntKind.i64.wrap ((Ls.length : Int) - 1) = (Ls.length : Int) - 1 := IntWalk.i64_in _ (by omega)
      clear hy hn hv hf hcell hfk hck hownk
      by_cases hl2 : k + 1 < Ls.length
      · have d3 : decide ((k : Int) < (Ls.length : Int) - 1) = true := decide_eq_true (by omega)
        have d4 : ((y.length : Int) != 120) = false := by have := hlast hl2; simp; omega
        clear hlast
        go_wp2_with (at_builtin; refine wpList_appMS rfl _ _ rfl w2.heap.size (.slice ao3 n.length c3) n.length n rfl O.out (.slice aok y.length ck) y.length y rfl SY.out (by omega) sz ?_; intro ao5 c5 w5 hown5 hgrow5 hbel5 sz5; have L5 := hid (hbel5 w2 L.out); have O5 := hid hown5; clear hown5 hgrow5 hbel5)
        go_roundw
        case rel =>
          have o5 := O5.out
          rw [← List.length_append, ← HT.out] at o5
          exact ⟨k + 1, ao5, c5, hlt, by go_num, by rw [HT.out, List.length_append], L5.out, o5⟩
        case measure => simp [intOf]; omega
      · have d3 : decide ((k : Int) < (Ls.length : Int) - 1) = false := decide_eq_false (by omega)
        clear hlast
        go_wp2_with (at_builtin; refine wpList_appMS rfl _ _ rfl w2.heap.size (.slice ao3 n.length c3) n.length n rfl O.out (.slice aok y.length ck) y.length y rfl SY.out (by omega) sz ?_; intro ao5 c5 w5 hown5 hgrow5 hbel5 sz5; have L5 := hid (hbel5 w2 L.out); have O5 := hid hown5; clear hown5 hgrow5 hbel5)
        go_roundw
        case rel =>
          have o5 := O5.out
          rw [← List.length_append, ← HT.out] at o5
          exact ⟨k + 1, ao5, c5, hlt, by go_num, by rw [HT.out, List.length_append], L5.out, o5⟩
        case measure => simp [intOf]; omega
    · obtain rfl : k = Ls.length := by omega
      have o := O.out
      have hT : (Ls.take Ls.length).flatten = l := by rw [List.take_length]; exact HF.out
      rw [hT] at o ⊢
      have O' := hid o
      have Lw := hid (L2.out.trans (L.out.mono s2))
      clear o hT O
      go_wp2_with fail
      refine (same_any _ _ l l wr (Sl.own O'.out) (Hb.out.below Lw.out (fun _ _ h => h))).mono ?_
      rintro e w6 ⟨rfl, hb6⟩
      have L6 := hid (Lw.out.trans (hb6.mono Lw.out.size))
      clear hb6
      rw [decide_eq_true (rfl : l = l)]
      go_wp2_with fail
      refine (lives_any w6).mono ?_
      rintro e w7 ⟨rfl, hb7⟩
      have L7 := hid (L6.out.trans (hb7.mono L6.out.size))
      clear hb7
      go_wp2
      go_ret
      exact ⟨rfl, L7.out⟩
end Go.Proofs.Ytcnfhabljogniaa
