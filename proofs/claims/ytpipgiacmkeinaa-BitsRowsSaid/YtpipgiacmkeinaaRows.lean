/-
  No cell of these rows narrows 'for every input' (looked for: loops, veiled, ifaces, maps, wideKeys, modest, calm, conditions, laid).
  DERIVED. THE GIVEN ROWS OF THIS SEAT. 9 by the template 'for every input the law returns true; each argument reads behind the call as it read before'; 0 by the template 'total and deterministic' (their statements: YtpipgiacmkeinaaTotals.lean).
  GIVEN WITH THE SEED: the statements are not yours to turn. If you find one false, say at which input.
  Laid BY PROGRAM, IN A SANDBOX (cutbox-rows.mjs): the forced cells as the released guide's own fill.sh prints them over the translation 6bc67f3fb3913442… (all of the seat's roots in one cut). By AI agents, Wed Nov 11 2026. No macro, syntax, notation, axiom, sorry.
-/
import Derived.Test.YtpipgiacmkeinaaChecked
import GoSem.Claim
import GoSem.ClaimJoined
import GoSem.ClaimMapViews
import Derived.JoinedTies
import Derived.KernelRfl
namespace Go.Proofs.Ytpipgiacmkeinaa
/- THE CELL 'sum', in the pinned program and in every row, IS THE sha256 OF THE DUMP (.gsa) THAT YtpipgiacmkeinaaProg.lean LOADS. Nothing in Lean hashes anything: it is a label: what it is worth is what the hold of that sum in a sandbox is worth. -/
noncomputable def Try.pinned : Pinned := { name := "ytpipgiacmkeinaa", sum := "6bc67f3fb3913442bb0612c2860624fedf1cfae08c85f47878315e6fb09f7117", checked := Try.checked }
namespace Rows
def none {H : Type} : Left H := { results := [], args := [] }

/-- 'gaugelaw01.BitsPuts': WHATEVER THE INPUT: true; the input reads as it did. -/
def bitsPutsSpec : ChangeSpec := { name := "bitsPuts", fn := fun _ => fun
  | [d1, d2, d3] => { results := [.lit (.bool true)], args := [d1, d2, d3] }
  | _ => none }
def bitsPutsRow : OpenClaim := { program := "ytpipgiacmkeinaa", sum := "6bc67f3fb3913442bb0612c2860624fedf1cfae08c85f47878315e6fb09f7117", func := "gauge/gaugelaw01.BitsPuts", spec := "bitsPuts", unfollowed := true, recurses := true, apart := false }
def BitsPutsSaid : Prop := bitsPutsRow.holds Try.pinned (OpenSpec.ofChange bitsPutsSpec)

/-- ITS FALSE NEIGHBOUR: 'it returns false'. Refute it at one input. -/
def bitsPutsWrong : ChangeSpec := { name := "bitsPuts", fn := fun _ => fun
  | [d1, d2, d3] => { results := [.lit (.bool false)], args := [d1, d2, d3] }
  | _ => none }
def BitsPutsWrongFalsely : Prop := bitsPutsRow.holds Try.pinned (OpenSpec.ofChange bitsPutsWrong)

/-- 'gaugelaw01.BitsRights': WHATEVER THE INPUT: true; the input reads as it did. -/
def bitsRightsSpec : ChangeSpec := { name := "bitsRights", fn := fun _ => fun
  | [d] => { results := [.lit (.bool true)], args := [d] }
  | _ => none }
def bitsRightsRow : OpenClaim := { program := "ytpipgiacmkeinaa", sum := "6bc67f3fb3913442bb0612c2860624fedf1cfae08c85f47878315e6fb09f7117", func := "gauge/gaugelaw01.BitsRights", spec := "bitsRights", unfollowed := true, recurses := true, apart := false }
def BitsRightsSaid : Prop := bitsRightsRow.holds Try.pinned (OpenSpec.ofChange bitsRightsSpec)

/-- ITS FALSE NEIGHBOUR: 'it returns false'. Refute it at one input. -/
def bitsRightsWrong : ChangeSpec := { name := "bitsRights", fn := fun _ => fun
  | [d] => { results := [.lit (.bool false)], args := [d] }
  | _ => none }
def BitsRightsWrongFalsely : Prop := bitsRightsRow.holds Try.pinned (OpenSpec.ofChange bitsRightsWrong)

/-- 'gaugelaw01.BitsZigs': WHATEVER THE INPUT: true; the input reads as it did. -/
def bitsZigsSpec : ChangeSpec := { name := "bitsZigs", fn := fun _ => fun
  | [d1, d2] => { results := [.lit (.bool true)], args := [d1, d2] }
  | _ => none }
def bitsZigsRow : OpenClaim := { program := "ytpipgiacmkeinaa", sum := "6bc67f3fb3913442bb0612c2860624fedf1cfae08c85f47878315e6fb09f7117", func := "gauge/gaugelaw01.BitsZigs", spec := "bitsZigs", unfollowed := true, recurses := true, apart := false }
def BitsZigsSaid : Prop := bitsZigsRow.holds Try.pinned (OpenSpec.ofChange bitsZigsSpec)

/-- ITS FALSE NEIGHBOUR: 'it returns false'. Refute it at one input. -/
def bitsZigsWrong : ChangeSpec := { name := "bitsZigs", fn := fun _ => fun
  | [d1, d2] => { results := [.lit (.bool false)], args := [d1, d2] }
  | _ => none }
def BitsZigsWrongFalsely : Prop := bitsZigsRow.holds Try.pinned (OpenSpec.ofChange bitsZigsWrong)

/-- 'gaugelaw01.BitsZag': WHATEVER THE INPUT: true; the input reads as it did. -/
def bitsZagSpec : ChangeSpec := { name := "bitsZag", fn := fun _ => fun
  | [d1, d2] => { results := [.lit (.bool true)], args := [d1, d2] }
  | _ => none }
def bitsZagRow : OpenClaim := { program := "ytpipgiacmkeinaa", sum := "6bc67f3fb3913442bb0612c2860624fedf1cfae08c85f47878315e6fb09f7117", func := "gauge/gaugelaw01.BitsZag", spec := "bitsZag", unfollowed := true, recurses := true, apart := false }
def BitsZagSaid : Prop := bitsZagRow.holds Try.pinned (OpenSpec.ofChange bitsZagSpec)

/-- ITS FALSE NEIGHBOUR: 'it returns false'. Refute it at one input. -/
def bitsZagWrong : ChangeSpec := { name := "bitsZag", fn := fun _ => fun
  | [d1, d2] => { results := [.lit (.bool false)], args := [d1, d2] }
  | _ => none }
def BitsZagWrongFalsely : Prop := bitsZagRow.holds Try.pinned (OpenSpec.ofChange bitsZagWrong)

/-- 'gaugelaw01.BitsGets': WHATEVER THE INPUT: true; the input reads as it did. -/
def bitsGetsSpec : ChangeSpec := { name := "bitsGets", fn := fun _ => fun
  | [d1, d2, d3] => { results := [.lit (.bool true)], args := [d1, d2, d3] }
  | _ => none }
def bitsGetsRow : OpenClaim := { program := "ytpipgiacmkeinaa", sum := "6bc67f3fb3913442bb0612c2860624fedf1cfae08c85f47878315e6fb09f7117", func := "gauge/gaugelaw01.BitsGets", spec := "bitsGets", unfollowed := true, recurses := true, apart := false }
def BitsGetsSaid : Prop := bitsGetsRow.holds Try.pinned (OpenSpec.ofChange bitsGetsSpec)

/-- ITS FALSE NEIGHBOUR: 'it returns false'. Refute it at one input. -/
def bitsGetsWrong : ChangeSpec := { name := "bitsGets", fn := fun _ => fun
  | [d1, d2, d3] => { results := [.lit (.bool false)], args := [d1, d2, d3] }
  | _ => none }
def BitsGetsWrongFalsely : Prop := bitsGetsRow.holds Try.pinned (OpenSpec.ofChange bitsGetsWrong)

/-- 'gaugelaw01.BitsBack': WHATEVER THE INPUT: true; the input reads as it did. -/
def bitsBackSpec : ChangeSpec := { name := "bitsBack", fn := fun _ => fun
  | [d1, d2, d3, d4] => { results := [.lit (.bool true)], args := [d1, d2, d3, d4] }
  | _ => none }
def bitsBackRow : OpenClaim := { program := "ytpipgiacmkeinaa", sum := "6bc67f3fb3913442bb0612c2860624fedf1cfae08c85f47878315e6fb09f7117", func := "gauge/gaugelaw01.BitsBack", spec := "bitsBack", unfollowed := true, recurses := true, apart := false }
def BitsBackSaid : Prop := bitsBackRow.holds Try.pinned (OpenSpec.ofChange bitsBackSpec)

/-- ITS FALSE NEIGHBOUR: 'it returns false'. Refute it at one input. -/
def bitsBackWrong : ChangeSpec := { name := "bitsBack", fn := fun _ => fun
  | [d1, d2, d3, d4] => { results := [.lit (.bool false)], args := [d1, d2, d3, d4] }
  | _ => none }
def BitsBackWrongFalsely : Prop := bitsBackRow.holds Try.pinned (OpenSpec.ofChange bitsBackWrong)

/-- 'gaugelaw01.BitsNums': WHATEVER THE INPUT: true; the input reads as it did. -/
def bitsNumsSpec : ChangeSpec := { name := "bitsNums", fn := fun _ => fun
  | [d1, d2, d3] => { results := [.lit (.bool true)], args := [d1, d2, d3] }
  | _ => none }
def bitsNumsRow : OpenClaim := { program := "ytpipgiacmkeinaa", sum := "6bc67f3fb3913442bb0612c2860624fedf1cfae08c85f47878315e6fb09f7117", func := "gauge/gaugelaw01.BitsNums", spec := "bitsNums", unfollowed := true, recurses := true, apart := false }
def BitsNumsSaid : Prop := bitsNumsRow.holds Try.pinned (OpenSpec.ofChange bitsNumsSpec)

/-- ITS FALSE NEIGHBOUR: 'it returns false'. Refute it at one input. -/
def bitsNumsWrong : ChangeSpec := { name := "bitsNums", fn := fun _ => fun
  | [d1, d2, d3] => { results := [.lit (.bool false)], args := [d1, d2, d3] }
  | _ => none }
def BitsNumsWrongFalsely : Prop := bitsNumsRow.holds Try.pinned (OpenSpec.ofChange bitsNumsWrong)

/-- 'gaugelaw01.BitsRows': WHATEVER THE INPUT: true; the input reads as it did. -/
def bitsRowsSpec : ChangeSpec := { name := "bitsRows", fn := fun _ => fun
  | [d] => { results := [.lit (.bool true)], args := [d] }
  | _ => none }
def bitsRowsRow : OpenClaim := { program := "ytpipgiacmkeinaa", sum := "6bc67f3fb3913442bb0612c2860624fedf1cfae08c85f47878315e6fb09f7117", func := "gauge/gaugelaw01.BitsRows", spec := "bitsRows", unfollowed := true, recurses := true, apart := false }
def BitsRowsSaid : Prop := bitsRowsRow.holds Try.pinned (OpenSpec.ofChange bitsRowsSpec)

/-- ITS FALSE NEIGHBOUR: 'it returns false'. Refute it at one input. -/
def bitsRowsWrong : ChangeSpec := { name := "bitsRows", fn := fun _ => fun
  | [d] => { results := [.lit (.bool false)], args := [d] }
  | _ => none }
def BitsRowsWrongFalsely : Prop := bitsRowsRow.holds Try.pinned (OpenSpec.ofChange bitsRowsWrong)

/-- 'gaugelaw01.BitsOne': WHATEVER THE INPUT: true; the input reads as it did. -/
def bitsOneSpec : ChangeSpec := { name := "bitsOne", fn := fun _ => fun
  | [d1, d2, d3] => { results := [.lit (.bool true)], args := [d1, d2, d3] }
  | _ => none }
def bitsOneRow : OpenClaim := { program := "ytpipgiacmkeinaa", sum := "6bc67f3fb3913442bb0612c2860624fedf1cfae08c85f47878315e6fb09f7117", func := "gauge/gaugelaw01.BitsOne", spec := "bitsOne", unfollowed := true, recurses := true, apart := false }
def BitsOneSaid : Prop := bitsOneRow.holds Try.pinned (OpenSpec.ofChange bitsOneSpec)

/-- ITS FALSE NEIGHBOUR: 'it returns false'. Refute it at one input. -/
def bitsOneWrong : ChangeSpec := { name := "bitsOne", fn := fun _ => fun
  | [d1, d2, d3] => { results := [.lit (.bool false)], args := [d1, d2, d3] }
  | _ => none }
def BitsOneWrongFalsely : Prop := bitsOneRow.holds Try.pinned (OpenSpec.ofChange bitsOneWrong)

/- THE SECOND FORM. 'bulk': how many values and letters a reading holds, each counted each time it is reached (what is shared counts as often as it is met; a slice's spare places count too). A statement '..UptoSaid' is the law's where the arguments, and the package variables that the reading takes, are together of bulk at most 1048576: NARROWER than '..Said'. Prove '..Said' where nothing that the law and all that it calls make is longer than what came in: it says more and counts as full. Else prove '..UptoSaid'. A law counts once. -/
mutual
def uptoBulk {H : Type} : DataW H → Nat
  | .lit (.string bytes) => bytes.length + 1
  | .lit _ => 1
  | .nil => 1
  | .ptr d => uptoBulk d + 1
  | .slice elems spare => uptoBulkAll elems + uptoBulkAll spare + 1
  | .agg parts => uptoBulkAll parts + 1
  | .iface _ d => uptoBulk d + 1
  | .map entries => uptoBulkEntries entries + 1
  | .held _ => 1
def uptoBulkAll {H : Type} : List (DataW H) → Nat
  | [] => 0
  | d :: r => uptoBulk d + uptoBulkAll r
def uptoBulkEntries {H : Type} : List (Lit × DataW H) → Nat
  | [] => 0
  | x :: r => uptoBulkEntry x + uptoBulkEntries r
def uptoBulkEntry {H : Type} : Lit × DataW H → Nat
  | (.string bytes, d) => bytes.length + uptoBulk d + 1
  | (_, d) => uptoBulk d + 1
 end
def uptoSmall : (H : Type) → List (DataW H) → Bool := fun _ ds => decide (uptoBulkAll ds ≤ 1048576)
def OpenSpec.upto (s : _root_.Go.ChangeSpec) : _root_.Go.OpenSpec := { _root_.Go.OpenSpec.ofChange s with cond := some uptoSmall }

/-- 'gaugelaw01.BitsPuts', WHERE WHAT IT READS IS OF BULK AT MOST 1048576: true; the input reads as it did. -/
def bitsPutsUptoRow : OpenClaim := { program := "ytpipgiacmkeinaa", sum := "6bc67f3fb3913442bb0612c2860624fedf1cfae08c85f47878315e6fb09f7117", func := "gauge/gaugelaw01.BitsPuts", spec := "bitsPuts", unfollowed := true, recurses := true, apart := false, narrowed := true }
def BitsPutsUptoSaid : Prop := bitsPutsUptoRow.holds Try.pinned (OpenSpec.upto bitsPutsSpec)

/-- 'gaugelaw01.BitsRights', WHERE WHAT IT READS IS OF BULK AT MOST 1048576: true; the input reads as it did. -/
def bitsRightsUptoRow : OpenClaim := { program := "ytpipgiacmkeinaa", sum := "6bc67f3fb3913442bb0612c2860624fedf1cfae08c85f47878315e6fb09f7117", func := "gauge/gaugelaw01.BitsRights", spec := "bitsRights", unfollowed := true, recurses := true, apart := false, narrowed := true }
def BitsRightsUptoSaid : Prop := bitsRightsUptoRow.holds Try.pinned (OpenSpec.upto bitsRightsSpec)

/-- 'gaugelaw01.BitsZigs', WHERE WHAT IT READS IS OF BULK AT MOST 1048576: true; the input reads as it did. -/
def bitsZigsUptoRow : OpenClaim := { program := "ytpipgiacmkeinaa", sum := "6bc67f3fb3913442bb0612c2860624fedf1cfae08c85f47878315e6fb09f7117", func := "gauge/gaugelaw01.BitsZigs", spec := "bitsZigs", unfollowed := true, recurses := true, apart := false, narrowed := true }
def BitsZigsUptoSaid : Prop := bitsZigsUptoRow.holds Try.pinned (OpenSpec.upto bitsZigsSpec)

/-- 'gaugelaw01.BitsZag', WHERE WHAT IT READS IS OF BULK AT MOST 1048576: true; the input reads as it did. -/
def bitsZagUptoRow : OpenClaim := { program := "ytpipgiacmkeinaa", sum := "6bc67f3fb3913442bb0612c2860624fedf1cfae08c85f47878315e6fb09f7117", func := "gauge/gaugelaw01.BitsZag", spec := "bitsZag", unfollowed := true, recurses := true, apart := false, narrowed := true }
def BitsZagUptoSaid : Prop := bitsZagUptoRow.holds Try.pinned (OpenSpec.upto bitsZagSpec)

/-- 'gaugelaw01.BitsGets', WHERE WHAT IT READS IS OF BULK AT MOST 1048576: true; the input reads as it did. -/
def bitsGetsUptoRow : OpenClaim := { program := "ytpipgiacmkeinaa", sum := "6bc67f3fb3913442bb0612c2860624fedf1cfae08c85f47878315e6fb09f7117", func := "gauge/gaugelaw01.BitsGets", spec := "bitsGets", unfollowed := true, recurses := true, apart := false, narrowed := true }
def BitsGetsUptoSaid : Prop := bitsGetsUptoRow.holds Try.pinned (OpenSpec.upto bitsGetsSpec)

/-- 'gaugelaw01.BitsBack', WHERE WHAT IT READS IS OF BULK AT MOST 1048576: true; the input reads as it did. -/
def bitsBackUptoRow : OpenClaim := { program := "ytpipgiacmkeinaa", sum := "6bc67f3fb3913442bb0612c2860624fedf1cfae08c85f47878315e6fb09f7117", func := "gauge/gaugelaw01.BitsBack", spec := "bitsBack", unfollowed := true, recurses := true, apart := false, narrowed := true }
def BitsBackUptoSaid : Prop := bitsBackUptoRow.holds Try.pinned (OpenSpec.upto bitsBackSpec)

/-- 'gaugelaw01.BitsNums', WHERE WHAT IT READS IS OF BULK AT MOST 1048576: true; the input reads as it did. -/
def bitsNumsUptoRow : OpenClaim := { program := "ytpipgiacmkeinaa", sum := "6bc67f3fb3913442bb0612c2860624fedf1cfae08c85f47878315e6fb09f7117", func := "gauge/gaugelaw01.BitsNums", spec := "bitsNums", unfollowed := true, recurses := true, apart := false, narrowed := true }
def BitsNumsUptoSaid : Prop := bitsNumsUptoRow.holds Try.pinned (OpenSpec.upto bitsNumsSpec)

/-- 'gaugelaw01.BitsRows', WHERE WHAT IT READS IS OF BULK AT MOST 1048576: true; the input reads as it did. -/
def bitsRowsUptoRow : OpenClaim := { program := "ytpipgiacmkeinaa", sum := "6bc67f3fb3913442bb0612c2860624fedf1cfae08c85f47878315e6fb09f7117", func := "gauge/gaugelaw01.BitsRows", spec := "bitsRows", unfollowed := true, recurses := true, apart := false, narrowed := true }
def BitsRowsUptoSaid : Prop := bitsRowsUptoRow.holds Try.pinned (OpenSpec.upto bitsRowsSpec)

/-- 'gaugelaw01.BitsOne', WHERE WHAT IT READS IS OF BULK AT MOST 1048576: true; the input reads as it did. -/
def bitsOneUptoRow : OpenClaim := { program := "ytpipgiacmkeinaa", sum := "6bc67f3fb3913442bb0612c2860624fedf1cfae08c85f47878315e6fb09f7117", func := "gauge/gaugelaw01.BitsOne", spec := "bitsOne", unfollowed := true, recurses := true, apart := false, narrowed := true }
def BitsOneUptoSaid : Prop := bitsOneUptoRow.holds Try.pinned (OpenSpec.upto bitsOneSpec)

end Rows
end Go.Proofs.Ytpipgiacmkeinaa
