/-
  No cell of these rows narrows 'for every input' (looked for: loops, veiled, ifaces, maps, wideKeys, modest, calm, conditions, laid).
  DERIVED. THE GIVEN ROWS OF THIS SEAT. 6 by the template 'for every input the law returns true; each argument reads behind the call as it read before'; 0 by the template 'total and deterministic' (their statements: YtebjdiiogihcdaaTotals.lean).
  GIVEN WITH THE SEED: the statements are not yours to turn. If you find one false, say at which input.
  Laid BY PROGRAM, IN A SANDBOX (cutbox-rows.mjs): the forced cells as the released guide's own fill.sh prints them over the translation 25f17f925d180363… (all of the seat's roots in one cut). By AI agents, Wed Nov 11 2026. No macro, syntax, notation, axiom, sorry.
-/
import Derived.Test.YtebjdiiogihcdaaChecked
import GoSem.Claim
import GoSem.ClaimJoined
import GoSem.ClaimMapViews
import Derived.JoinedTies
import Derived.KernelRfl
namespace Go.Proofs.Ytebjdiiogihcdaa
/- THE CELL 'sum', in the pinned program and in every row, IS THE sha256 OF THE DUMP (.gsa) THAT YtebjdiiogihcdaaProg.lean LOADS. Nothing in Lean hashes anything: it is a label: what it is worth is what the hold of that sum in a sandbox is worth. -/
noncomputable def Try.pinned : Pinned := { name := "ytebjdiiogihcdaa", sum := "25f17f925d180363160fc0fbefa3f1e3dda4debf49e29aa3f0f9ae2e45a0b21e", checked := Try.checked }
namespace Rows
def none {H : Type} : Left H := { results := [], args := [] }

/-- 'gaugelaw18.WindowTells': WHATEVER THE INPUT: true; the input reads as it did. -/
def windowTellsSpec : ChangeSpec := { name := "windowTells", fn := fun _ => fun
  | [d1, d2, d3] => { results := [.lit (.bool true)], args := [d1, d2, d3] }
  | _ => none }
def windowTellsRow : OpenClaim := { program := "ytebjdiiogihcdaa", sum := "25f17f925d180363160fc0fbefa3f1e3dda4debf49e29aa3f0f9ae2e45a0b21e", func := "gauge/gaugelaw18.WindowTells", spec := "windowTells", unfollowed := true, recurses := true, named := ["math/bits.divideError", "math/bits.overflowError"], apart := false }
def WindowTellsSaid : Prop := windowTellsRow.holds Try.pinned (OpenSpec.ofChange windowTellsSpec)

/-- ITS FALSE NEIGHBOUR: 'it returns false'. Refute it at one input. -/
def windowTellsWrong : ChangeSpec := { name := "windowTells", fn := fun _ => fun
  | [d1, d2, d3] => { results := [.lit (.bool false)], args := [d1, d2, d3] }
  | _ => none }
def WindowTellsWrongFalsely : Prop := windowTellsRow.holds Try.pinned (OpenSpec.ofChange windowTellsWrong)

/-- 'gaugelaw18.WindowParts': WHATEVER THE INPUT: true; the input reads as it did. -/
def windowPartsSpec : ChangeSpec := { name := "windowParts", fn := fun _ => fun
  | [d1, d2] => { results := [.lit (.bool true)], args := [d1, d2] }
  | _ => none }
def windowPartsRow : OpenClaim := { program := "ytebjdiiogihcdaa", sum := "25f17f925d180363160fc0fbefa3f1e3dda4debf49e29aa3f0f9ae2e45a0b21e", func := "gauge/gaugelaw18.WindowParts", spec := "windowParts", unfollowed := true, recurses := true, named := ["math/bits.divideError", "math/bits.overflowError"], apart := false }
def WindowPartsSaid : Prop := windowPartsRow.holds Try.pinned (OpenSpec.ofChange windowPartsSpec)

/-- ITS FALSE NEIGHBOUR: 'it returns false'. Refute it at one input. -/
def windowPartsWrong : ChangeSpec := { name := "windowParts", fn := fun _ => fun
  | [d1, d2] => { results := [.lit (.bool false)], args := [d1, d2] }
  | _ => none }
def WindowPartsWrongFalsely : Prop := windowPartsRow.holds Try.pinned (OpenSpec.ofChange windowPartsWrong)

/-- 'gaugelaw18.WindowRises': WHATEVER THE INPUT: true; the input reads as it did. -/
def windowRisesSpec : ChangeSpec := { name := "windowRises", fn := fun _ => fun
  | [d1, d2] => { results := [.lit (.bool true)], args := [d1, d2] }
  | _ => none }
def windowRisesRow : OpenClaim := { program := "ytebjdiiogihcdaa", sum := "25f17f925d180363160fc0fbefa3f1e3dda4debf49e29aa3f0f9ae2e45a0b21e", func := "gauge/gaugelaw18.WindowRises", spec := "windowRises", unfollowed := true, recurses := true, named := ["math/bits.divideError", "math/bits.overflowError"], apart := false }
def WindowRisesSaid : Prop := windowRisesRow.holds Try.pinned (OpenSpec.ofChange windowRisesSpec)

/-- ITS FALSE NEIGHBOUR: 'it returns false'. Refute it at one input. -/
def windowRisesWrong : ChangeSpec := { name := "windowRises", fn := fun _ => fun
  | [d1, d2] => { results := [.lit (.bool false)], args := [d1, d2] }
  | _ => none }
def WindowRisesWrongFalsely : Prop := windowRisesRow.holds Try.pinned (OpenSpec.ofChange windowRisesWrong)

/-- 'gaugelaw18.WindowAdjoins': WHATEVER THE INPUT: true; the input reads as it did. -/
def windowAdjoinsSpec : ChangeSpec := { name := "windowAdjoins", fn := fun _ => fun
  | [d1, d2, d3, d4] => { results := [.lit (.bool true)], args := [d1, d2, d3, d4] }
  | _ => none }
def windowAdjoinsRow : OpenClaim := { program := "ytebjdiiogihcdaa", sum := "25f17f925d180363160fc0fbefa3f1e3dda4debf49e29aa3f0f9ae2e45a0b21e", func := "gauge/gaugelaw18.WindowAdjoins", spec := "windowAdjoins", unfollowed := true, recurses := true, named := ["math/bits.divideError", "math/bits.overflowError"], apart := false }
def WindowAdjoinsSaid : Prop := windowAdjoinsRow.holds Try.pinned (OpenSpec.ofChange windowAdjoinsSpec)

/-- ITS FALSE NEIGHBOUR: 'it returns false'. Refute it at one input. -/
def windowAdjoinsWrong : ChangeSpec := { name := "windowAdjoins", fn := fun _ => fun
  | [d1, d2, d3, d4] => { results := [.lit (.bool false)], args := [d1, d2, d3, d4] }
  | _ => none }
def WindowAdjoinsWrongFalsely : Prop := windowAdjoinsRow.holds Try.pinned (OpenSpec.ofChange windowAdjoinsWrong)

/-- 'gaugelaw18.WindowRanges': WHATEVER THE INPUT: true; the input reads as it did. -/
def windowRangesSpec : ChangeSpec := { name := "windowRanges", fn := fun _ => fun
  | [d1, d2, d3] => { results := [.lit (.bool true)], args := [d1, d2, d3] }
  | _ => none }
def windowRangesRow : OpenClaim := { program := "ytebjdiiogihcdaa", sum := "25f17f925d180363160fc0fbefa3f1e3dda4debf49e29aa3f0f9ae2e45a0b21e", func := "gauge/gaugelaw18.WindowRanges", spec := "windowRanges", unfollowed := true, recurses := true, named := ["math/bits.divideError", "math/bits.overflowError"], apart := false }
def WindowRangesSaid : Prop := windowRangesRow.holds Try.pinned (OpenSpec.ofChange windowRangesSpec)

/-- ITS FALSE NEIGHBOUR: 'it returns false'. Refute it at one input. -/
def windowRangesWrong : ChangeSpec := { name := "windowRanges", fn := fun _ => fun
  | [d1, d2, d3] => { results := [.lit (.bool false)], args := [d1, d2, d3] }
  | _ => none }
def WindowRangesWrongFalsely : Prop := windowRangesRow.holds Try.pinned (OpenSpec.ofChange windowRangesWrong)

/-- 'gaugelaw18.WindowLast': WHATEVER THE INPUT: true; the input reads as it did. -/
def windowLastSpec : ChangeSpec := { name := "windowLast", fn := fun _ => fun
  | [d1, d2] => { results := [.lit (.bool true)], args := [d1, d2] }
  | _ => none }
def windowLastRow : OpenClaim := { program := "ytebjdiiogihcdaa", sum := "25f17f925d180363160fc0fbefa3f1e3dda4debf49e29aa3f0f9ae2e45a0b21e", func := "gauge/gaugelaw18.WindowLast", spec := "windowLast", unfollowed := true, recurses := true, named := ["math/bits.divideError", "math/bits.overflowError"], apart := false }
def WindowLastSaid : Prop := windowLastRow.holds Try.pinned (OpenSpec.ofChange windowLastSpec)

/-- ITS FALSE NEIGHBOUR: 'it returns false'. Refute it at one input. -/
def windowLastWrong : ChangeSpec := { name := "windowLast", fn := fun _ => fun
  | [d1, d2] => { results := [.lit (.bool false)], args := [d1, d2] }
  | _ => none }
def WindowLastWrongFalsely : Prop := windowLastRow.holds Try.pinned (OpenSpec.ofChange windowLastWrong)

/- THE SECOND FORM. 'bulk': how many values and letters a reading holds, each counted each time it is reached (what is shared counts as often as it is met; a slice's spare places count too). A statement '..UptoSaid' is the law's where the arguments, and the package variables that the reading takes, are together of bulk at most 1048576: NARROWER than '..Said'. Prove '..Said' where nothing that the law and all that it calls make is longer than what came in: it says more and counts as full. Else prove '..UptoSaid'. A law counts once. -/
mutual
def uptoBulk {H : Type} : DataW H → Nat
  | .lit (.string bytes) => bytes.length + 1
  | .lit _ => 1
  | .nil => 1
  | .ptr d => uptoBulk d + 1
  | .slice elems spare => uptoBulkAll elems + uptoBulkAll spare + 1
  | .agg parts => uptoBulkAll parts + 1
  | .iface _ d => uptoBulk d + 1
  | .map entries => uptoBulkEntries entries + 1
  | .held _ => 1
def uptoBulkAll {H : Type} : List (DataW H) → Nat
  | [] => 0
  | d :: r => uptoBulk d + uptoBulkAll r
def uptoBulkEntries {H : Type} : List (Lit × DataW H) → Nat
  | [] => 0
  | x :: r => uptoBulkEntry x + uptoBulkEntries r
def uptoBulkEntry {H : Type} : Lit × DataW H → Nat
  | (.string bytes, d) => bytes.length + uptoBulk d + 1
  | (_, d) => uptoBulk d + 1
 end
def uptoSmall : (H : Type) → List (DataW H) → Bool := fun _ ds => decide (uptoBulkAll ds ≤ 1048576)
def OpenSpec.upto (s : _root_.Go.ChangeSpec) : _root_.Go.OpenSpec := { _root_.Go.OpenSpec.ofChange s with cond := some uptoSmall }

/-- 'gaugelaw18.WindowTells', WHERE WHAT IT READS IS OF BULK AT MOST 1048576: true; the input reads as it did. -/
def windowTellsUptoRow : OpenClaim := { program := "ytebjdiiogihcdaa", sum := "25f17f925d180363160fc0fbefa3f1e3dda4debf49e29aa3f0f9ae2e45a0b21e", func := "gauge/gaugelaw18.WindowTells", spec := "windowTells", unfollowed := true, recurses := true, named := ["math/bits.divideError", "math/bits.overflowError"], apart := false, narrowed := true }
def WindowTellsUptoSaid : Prop := windowTellsUptoRow.holds Try.pinned (OpenSpec.upto windowTellsSpec)

/-- 'gaugelaw18.WindowParts', WHERE WHAT IT READS IS OF BULK AT MOST 1048576: true; the input reads as it did. -/
def windowPartsUptoRow : OpenClaim := { program := "ytebjdiiogihcdaa", sum := "25f17f925d180363160fc0fbefa3f1e3dda4debf49e29aa3f0f9ae2e45a0b21e", func := "gauge/gaugelaw18.WindowParts", spec := "windowParts", unfollowed := true, recurses := true, named := ["math/bits.divideError", "math/bits.overflowError"], apart := false, narrowed := true }
def WindowPartsUptoSaid : Prop := windowPartsUptoRow.holds Try.pinned (OpenSpec.upto windowPartsSpec)

/-- 'gaugelaw18.WindowRises', WHERE WHAT IT READS IS OF BULK AT MOST 1048576: true; the input reads as it did. -/
def windowRisesUptoRow : OpenClaim := { program := "ytebjdiiogihcdaa", sum := "25f17f925d180363160fc0fbefa3f1e3dda4debf49e29aa3f0f9ae2e45a0b21e", func := "gauge/gaugelaw18.WindowRises", spec := "windowRises", unfollowed := true, recurses := true, named := ["math/bits.divideError", "math/bits.overflowError"], apart := false, narrowed := true }
def WindowRisesUptoSaid : Prop := windowRisesUptoRow.holds Try.pinned (OpenSpec.upto windowRisesSpec)

/-- 'gaugelaw18.WindowAdjoins', WHERE WHAT IT READS IS OF BULK AT MOST 1048576: true; the input reads as it did. -/
def windowAdjoinsUptoRow : OpenClaim := { program := "ytebjdiiogihcdaa", sum := "25f17f925d180363160fc0fbefa3f1e3dda4debf49e29aa3f0f9ae2e45a0b21e", func := "gauge/gaugelaw18.WindowAdjoins", spec := "windowAdjoins", unfollowed := true, recurses := true, named := ["math/bits.divideError", "math/bits.overflowError"], apart := false, narrowed := true }
def WindowAdjoinsUptoSaid : Prop := windowAdjoinsUptoRow.holds Try.pinned (OpenSpec.upto windowAdjoinsSpec)

/-- 'gaugelaw18.WindowRanges', WHERE WHAT IT READS IS OF BULK AT MOST 1048576: true; the input reads as it did. -/
def windowRangesUptoRow : OpenClaim := { program := "ytebjdiiogihcdaa", sum := "25f17f925d180363160fc0fbefa3f1e3dda4debf49e29aa3f0f9ae2e45a0b21e", func := "gauge/gaugelaw18.WindowRanges", spec := "windowRanges", unfollowed := true, recurses := true, named := ["math/bits.divideError", "math/bits.overflowError"], apart := false, narrowed := true }
def WindowRangesUptoSaid : Prop := windowRangesUptoRow.holds Try.pinned (OpenSpec.upto windowRangesSpec)

/-- 'gaugelaw18.WindowLast', WHERE WHAT IT READS IS OF BULK AT MOST 1048576: true; the input reads as it did. -/
def windowLastUptoRow : OpenClaim := { program := "ytebjdiiogihcdaa", sum := "25f17f925d180363160fc0fbefa3f1e3dda4debf49e29aa3f0f9ae2e45a0b21e", func := "gauge/gaugelaw18.WindowLast", spec := "windowLast", unfollowed := true, recurses := true, named := ["math/bits.divideError", "math/bits.overflowError"], apart := false, narrowed := true }
def WindowLastUptoSaid : Prop := windowLastUptoRow.holds Try.pinned (OpenSpec.upto windowLastSpec)

end Rows
end Go.Proofs.Ytebjdiiogihcdaa
