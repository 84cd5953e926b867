/- window.known: the nine names, and any other. -/
import Derived.Test.YtebjdiiogihcdaaWf
namespace Go.Proofs.Ytebjdiiogihcdaa
open Go.RowKit
set_option linter.unusedSimpArgs false

/-- the nine names -/
def opL : Nat → List UInt8
  | 0 => [99, 111, 117, 110, 116, 95, 111, 118, 101, 114, 95, 116, 105, 109, 101]
  | 1 => [115, 117, 109, 95, 111, 118, 101, 114, 95, 116, 105, 109, 101]
  | 2 => [97, 118, 103, 95, 111, 118, 101, 114, 95, 116, 105, 109, 101]
  | 3 => [109, 105, 110, 95, 111, 118, 101, 114, 95, 116, 105, 109, 101]
  | 4 => [109, 97, 120, 95, 111, 118, 101, 114, 95, 116, 105, 109, 101]
  | 5 => [108, 97, 115, 116, 95, 111, 118, 101, 114, 95, 116, 105, 109, 101]
  | 6 => [100, 101, 108, 116, 97]
  | 7 => [105, 110, 99, 114, 101, 97, 115, 101]
  | 8 => [114, 97, 116, 101]
  | _ => []
def opS0 : Value := .string { data := #[99, 111, 117, 110, 116, 95, 111, 118, 101, 114, 95, 116, 105, 109, 101] }
def opS1 : Value := .string { data := #[115, 117, 109, 95, 111, 118, 101, 114, 95, 116, 105, 109, 101] }
def opS2 : Value := .string { data := #[97, 118, 103, 95, 111, 118, 101, 114, 95, 116, 105, 109, 101] }
def opS3 : Value := .string { data := #[109, 105, 110, 95, 111, 118, 101, 114, 95, 116, 105, 109, 101] }
def opS4 : Value := .string { data := #[109, 97, 120, 95, 111, 118, 101, 114, 95, 116, 105, 109, 101] }
def opS5 : Value := .string { data := #[108, 97, 115, 116, 95, 111, 118, 101, 114, 95, 116, 105, 109, 101] }
def opS6 : Value := .string { data := #[100, 101, 108, 116, 97] }
def opS7 : Value := .string { data := #[105, 110, 99, 114, 101, 97, 115, 101] }
def opS8 : Value := .string { data := #[114, 97, 116, 101] }

set_option maxRecDepth 100000 in
set_option maxHeartbeats 1000000 in
theorem known_0 (w : World) : Calls Try.prog 20 #[opS0] w fun e w' => e = .returned (.int .i64 1) ∧ w' = w := by
  unfold opS0
  go_enter Try.func20, Try.ntmps20
  go_wp2
  go_ret
  exact ⟨rfl, rfl⟩

set_option maxRecDepth 100000 in
set_option maxHeartbeats 1000000 in
theorem known_1 (w : World) : Calls Try.prog 20 #[opS1] w fun e w' => e = .returned (.int .i64 1) ∧ w' = w := by
  unfold opS1
  go_enter Try.func20, Try.ntmps20
  go_wp2
  go_ret
  exact ⟨rfl, rfl⟩

set_option maxRecDepth 100000 in
set_option maxHeartbeats 1000000 in
theorem known_2 (w : World) : Calls Try.prog 20 #[opS2] w fun e w' => e = .returned (.int .i64 1) ∧ w' = w := by
  unfold opS2
  go_enter Try.func20, Try.ntmps20
  go_wp2
  go_ret
  exact ⟨rfl, rfl⟩

set_option maxRecDepth 100000 in
set_option maxHeartbeats 1000000 in
theorem known_3 (w : World) : Calls Try.prog 20 #[opS3] w fun e w' => e = .returned (.int .i64 1) ∧ w' = w := by
  unfold opS3
  go_enter Try.func20, Try.ntmps20
  go_wp2
  go_ret
  exact ⟨rfl, rfl⟩

set_option maxRecDepth 100000 in
set_option maxHeartbeats 1000000 in
theorem known_4 (w : World) : Calls Try.prog 20 #[opS4] w fun e w' => e = .returned (.int .i64 1) ∧ w' = w := by
  unfold opS4
  go_enter Try.func20, Try.ntmps20
  go_wp2
  go_ret
  exact ⟨rfl, rfl⟩

set_option maxRecDepth 100000 in
set_option maxHeartbeats 1000000 in
theorem known_5 (w : World) : Calls Try.prog 20 #[opS5] w fun e w' => e = .returned (.int .i64 1) ∧ w' = w := by
  unfold opS5
  go_enter Try.func20, Try.ntmps20
  go_wp2
  go_ret
  exact ⟨rfl, rfl⟩

set_option maxRecDepth 100000 in
set_option maxHeartbeats 1000000 in
theorem known_6 (w : World) : Calls Try.prog 20 #[opS6] w fun e w' => e = .returned (.int .i64 2) ∧ w' = w := by
  unfold opS6
  go_enter Try.func20, Try.ntmps20
  go_wp2
  go_ret
  exact ⟨rfl, rfl⟩

set_option maxRecDepth 100000 in
set_option maxHeartbeats 1000000 in
theorem known_7 (w : World) : Calls Try.prog 20 #[opS7] w fun e w' => e = .returned (.int .i64 2) ∧ w' = w := by
  unfold opS7
  go_enter Try.func20, Try.ntmps20
  go_wp2
  go_ret
  exact ⟨rfl, rfl⟩

set_option maxRecDepth 100000 in
set_option maxHeartbeats 1000000 in
theorem known_8 (w : World) : Calls Try.prog 20 #[opS8] w fun e w' => e = .returned (.int .i64 2) ∧ w' = w := by
  unfold opS8
  go_enter Try.func20, Try.ntmps20
  go_wp2
  go_ret
  exact ⟨rfl, rfl⟩

set_option maxRecDepth 100000 in
set_option maxHeartbeats 1000000 in
theorem known_no (s : ByteArray) (h : ∀ i, i < 9 → (s.toList == opL i) = false) (w : World) : Calls Try.prog 20 #[.string s] w fun e w' => e = .returned (.int .i64 0) ∧ w' = w := by
  have h0 : (s.toList == ([99, 111, 117, 110, 116, 95, 111, 118, 101, 114, 95, 116, 105, 109, 101] : List UInt8)) = false := h 0 (by decide)
  have h1 : (s.toList == ([115, 117, 109, 95, 111, 118, 101, 114, 95, 116, 105, 109, 101] : List UInt8)) = false := h 1 (by decide)
  have h2 : (s.toList == ([97, 118, 103, 95, 111, 118, 101, 114, 95, 116, 105, 109, 101] : List UInt8)) = false := h 2 (by decide)
  have h3 : (s.toList == ([109, 105, 110, 95, 111, 118, 101, 114, 95, 116, 105, 109, 101] : List UInt8)) = false := h 3 (by decide)
  have h4 : (s.toList == ([109, 97, 120, 95, 111, 118, 101, 114, 95, 116, 105, 109, 101] : List UInt8)) = false := h 4 (by decide)
  have h5 : (s.toList == ([108, 97, 115, 116, 95, 111, 118, 101, 114, 95, 116, 105, 109, 101] : List UInt8)) = false := h 5 (by decide)
  have h6 : (s.toList == ([100, 101, 108, 116, 97] : List UInt8)) = false := h 6 (by decide)
  have h7 : (s.toList == ([105, 110, 99, 114, 101, 97, 115, 101] : List UInt8)) = false := h 7 (by decide)
  have h8 : (s.toList == ([114, 97, 116, 101] : List UInt8)) = false := h 8 (by decide)
  clear h
  go_enter Try.func20, Try.ntmps20
  go_wp2
  go_ret
  exact ⟨rfl, rfl⟩
end Go.Proofs.Ytebjdiiogihcdaa
