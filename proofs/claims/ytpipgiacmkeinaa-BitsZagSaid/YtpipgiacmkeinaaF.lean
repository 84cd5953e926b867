/- The walks of the laws BitsZigs and BitsZag. -/
import Derived.Test.YtpipgiacmkeinaaE
namespace Go.Proofs.Ytpipgiacmkeinaa
open Go.RowKit

theorem walk_BitsZigs (w : World) (n : Int) (h0 : -9223372036854775808 ≤ n) (h1 : n ≤ 9223372036854775807) (u : Int) (h2 : 0 ≤ u) (h3 : u ≤ 18446744073709551615) :
    Calls Try.prog 5 #[.int .i64 n, .int .u64 u] w fun e w' => e = .returned (.bool true) ∧ Below w.heap.size w w' := by
  go_enter Try.func5, Try.ntmps5
  go_wp2_with (first
    | (go_at_call 21; refine (zig_any n _ h0 h1).mono ?_; rintro e wz ⟨rfl, hwz⟩; subst wz)
    | (go_at_call 23; refine (zag_any u _ h2 (by omega)).mono ?_; rintro e wz ⟨rfl, hwz⟩; subst wz)
    | (go_at_call 22; refine (refZig_any n _ h0 h1).mono ?_; rintro e wz ⟨rfl, hwz⟩; subst wz)
    | (go_at_call 24; refine (refZag_any u _ h2 (by omega)).mono ?_; rintro e wz ⟨rfl, hwz⟩; subst wz)
    | (go_at_call 18; refine (lives_any _).mono ?_; rintro e wz ⟨rfl, hwz⟩))
  go_ret
  exact ⟨rfl, hwz⟩

theorem walk_BitsZag (w : World) (n : Int) (h0 : -9223372036854775808 ≤ n) (h1 : n ≤ 9223372036854775807) (u : Int) (h2 : 0 ≤ u) (h3 : u ≤ 18446744073709551615) :
    Calls Try.prog 6 #[.int .i64 n, .int .u64 u] w fun e w' => e = .returned (.bool true) ∧ Below w.heap.size w w' := by
  have hz := zig_range n h0 h1
  have hy := zag_range u h2 (by omega)
  have ez := hid (zag_zig n)
  have ey := hid (zig_zag u h2)
  obtain ⟨z, hzz⟩ : ∃ z, z = zig n := ⟨_, rfl⟩
  obtain ⟨y, hyy⟩ : ∃ y, y = zag u := ⟨_, rfl⟩
  rw [← hzz] at hz ez
  rw [← hyy] at hy ey
  have Hz := hid hzz; have Hy := hid hyy
  clear hzz hyy
  go_enter Try.func6, Try.ntmps6
  go_wp2_with fail
  refine (zig_any n _ h0 h1).mono ?_
  rintro e wz ⟨rfl, hwz⟩
  subst wz
  rw [← Hz.out]
  go_wp2_with fail
  refine (zag_any z _ hz.1 hz.2).mono ?_
  rintro e wz ⟨rfl, hwz⟩
  subst wz
  rw [ez.out]
  go_wp2_with fail
  refine (zag_any u _ h2 (by omega)).mono ?_
  rintro e wz ⟨rfl, hwz⟩
  subst wz
  rw [← Hy.out]
  go_wp2_with fail
  refine (zig_any y _ hy.1 hy.2).mono ?_
  rintro e wz ⟨rfl, hwz⟩
  subst wz
  rw [ey.out]
  go_wp2_with fail
  refine (lives_any _).mono ?_
  rintro e wz ⟨rfl, hwz⟩
  go_wp2
  go_ret
  exact ⟨rfl, hwz⟩
end Go.Proofs.Ytpipgiacmkeinaa
