/- chunk.Decode. -/
import Derived.Test.YtcnfhabljogniaaCh
namespace Go.Proofs.Ytcnfhabljogniaa
open Go.RowKit
set_option linter.unusedSimpArgs false

/-- Samples, with an error: in memory of the call's own. -/
def DecPost (w : World) (r : List (Int × Int) × Int) (e : Ending) (w' : World) : Prop :=
  ∃ ao c, e = .returned (.tuple #[.slice ao r.1.length c, .int .i64 r.2]) ∧ Below w.heap.size w w' ∧ w'.ownsRow w.heap.size 40 2 (.slice ao r.1.length c) r.1.length (sc r.1)

/-- the deferred calls of Decode -/
def dfr (H : Nat) : List Deferred := [{ target := Target.fn (Fn.func 33) #[.pointer (some ⟨H, 0, none⟩), .pointer (some ⟨H + 1, 0, none⟩)], args := #[] }]

theorem door_back (w wr : World) (tmps : Array Value) (ao : Option Addr) (c : Nat) (er : Int) (s : List (Int × Int)) (h2 : tmps[2]?.getD undef = .pointer (some ⟨w.heap.size, 0, none⟩)) (h3 : tmps[3]?.getD undef = .pointer (some ⟨w.heap.size + 1, 0, none⟩))
    (hB : Below w.heap.size w wr) (hH : wr.heap[w.heap.size]? = some (.cells #[.slice ao s.length c] 22 (0, 0))) (hE : wr.heap[w.heap.size + 1]? = some (.cells #[.int .i64 er] 25 (0, 0)))
    (ho : wr.ownsRow w.heap.size 40 2 (.slice ao s.length c) s.length (sc s)) :
    Leaves Try.prog Try.f19 tmps (DecPost w (s, er)) (dfr w.heap.size) .returning wr := by
  refine leaves_cons (f := 33) (args := #[.pointer (some ⟨w.heap.size, 0, none⟩), .pointer (some ⟨w.heap.size + 1, 0, none⟩)]) (by simp) (by simp [go_sem]) ?_
  refine (catch_idle _ _ wr).mono ?_
  rintro e u' w'' ⟨rfl, rfl, rfl⟩
  obtain ⟨p0, p1, p2⟩ := blk1 hH
  obtain ⟨q0, q1, q2⟩ := blk1 hE
  refine ⟨.tuple #[.slice ao s.length c, .int .i64 er], ?_, ao, c, rfl, hB, ho⟩
  simp [results, Try.results19, go_sem, h2, h3, p0, q0]

theorem door_panic (w wr : World) (tmps : Array Value) (lv ev : Value) (h2 : tmps[2]?.getD undef = .pointer (some ⟨w.heap.size, 0, none⟩)) (h3 : tmps[3]?.getD undef = .pointer (some ⟨w.heap.size + 1, 0, none⟩))
    (hB : Below w.heap.size w wr) (hH : wr.heap[w.heap.size]? = some (.cells #[lv] 22 (0, 0))) (hE : wr.heap[w.heap.size + 1]? = some (.cells #[ev] 25 (0, 0))) :
    Leaves Try.prog Try.f19 tmps (DecPost w ([], 5)) (dfr w.heap.size) (.panicking brk) wr := by
  refine leaves_cons (f := 33) (args := #[.pointer (some ⟨w.heap.size, 0, none⟩), .pointer (some ⟨w.heap.size + 1, 0, none⟩)]) (by simp) (by simp [go_sem]) ?_
  refine (catch_panicking _ _ (show w.heap.size < w.heap.size + 1 by omega) [] lv ev wr hH hE).mono ?_
  rintro e u' w'' ⟨rfl, rfl, hp, hq, hb⟩
  obtain ⟨p0, p1, p2⟩ := blk1 hp
  obtain ⟨q0, q1, q2⟩ := blk1 hq
  have L := hB.trans hb
  simp only [settle, List.dropWhile_nil]
  refine ⟨.tuple #[.slice none 0 0, .int .i64 5], ?_, none, 0, rfl, L, World.ownsRow_nil _ _ _ _⟩
  simp [results, Try.results19, go_sem, h2, h3, p0, q0]

set_option maxRecDepth 100000 in
set_option maxHeartbeats 1000000 in
theorem decode_none (bv : Value) (l : List UInt8) (w : World) (hl : l.length ≤ 150000000000000) (hb : Sl w 1 bv l.length (bc l)) (hr : rdU l 0 = none) :
    Calls Try.prog 19 #[bv] w (DecPost w ([], 5)) := by
  have hmf : ∀ (fn : Fn) (first cap : Array Value) (w : World), (Instr.makeFunc fn first cap).run Try.prog w = .ok (.func fn first cap) w := fun _ _ _ _ => rfl
  have HN := hid (fun wx hx h => rnum_any (w.heap.size + 2) bv l 0 wx hl (by omega) hx h)
  rw [hr] at HN
  have Hb := hid hb
  obtain ⟨ao, c, rfl, _, _, _⟩ := hb.shape
  have k8 : IntKind.i64.wrap (8 * (l.length : Int)) = 8 * (l.length : Int) := IntWalk.i64_in _ (by omega)
  clear hb hr
  go_enter_defers Try.func19, Try.ntmps19
  go_wp2_with fail
  have B2 := hid (blk_new ((w.alloc (.cells #[.slice none 0 0] 22)).alloc (.cells #[.int .i64 0] 25)) (.cells #[.slice ao l.length c, .int .i64 (8 * (l.length : Int)), .int .i64 0] 73) (w.heap.size + 2) (by simp))
  have B1 := hid (blk_alloc (blk_new (w.alloc (.cells #[.slice none 0 0] 22)) (.cells #[.int .i64 0] 25) (w.heap.size + 1) (by simp)) (.cells #[.slice ao l.length c, .int .i64 (8 * (l.length : Int)), .int .i64 0] 73))
  have B0 := hid (blk_alloc (blk_alloc (blk_new w (.cells #[.slice none 0 0] 22) _ rfl) (.cells #[.int .i64 0] 25)) (.cells #[.slice ao l.length c, .int .i64 (8 * (l.length : Int)), .int .i64 0] 73))
  have L0 := hid ((((Below.refl w.heap.size w).alloc (Nat.le_refl _) (.cells #[.slice none 0 0] 22)).alloc (by simp) (.cells #[.int .i64 0] 25)).alloc (by simp; omega) (.cells #[.slice ao l.length c, .int .i64 (8 * (l.length : Int)), .int .i64 0] 73))
  refine (HN.out _ (((Hb.out.alloc _).alloc _).alloc _) (by unfold Rd; rw [B2.out]; simp)).mono ?_
  rintro e w1 ⟨hg, he⟩
  cases he
  have s0 : w.heap.size + 3 = (((w.alloc (.cells #[.slice none 0 0] 22)).alloc (.cells #[.int .i64 0] 25)).alloc (.cells #[.slice ao l.length c, .int .i64 (8 * (l.length : Int)), .int .i64 0] 73)).heap.size := by simp
  refine door_panic w w1 _ (.slice none 0 0) (.int .i64 0) ?_ ?_ (L0.out.grown hg (by simp <;> omega) (by intro k hk; simp at hk; omega)) ?_ ?_
  · rfl
  · rfl
  · rw [hg.block _ (by simp <;> omega) (by simp)]; exact B0.out
  · rw [hg.block _ (by simp <;> omega) (by simp)]; exact B1.out
end Go.Proofs.Ytcnfhabljogniaa
