/-
  No cell of these rows narrows 'for every input' (looked for: loops, veiled, ifaces, maps, wideKeys, modest, calm, conditions, laid).
  DERIVED. THE GIVEN ROWS OF THIS SEAT. 4 by the template 'for every input the law returns true; each argument reads behind the call as it read before'; 0 by the template 'total and deterministic' (their statements: YtncnkfjddolabaaTotals.lean).
  GIVEN WITH THE SEED: the statements are not yours to turn. If you find one false, say at which input.
  Laid BY PROGRAM, IN A SANDBOX (cutbox-rows.mjs): the forced cells as the released guide's own fill.sh prints them over the translation 92b233337d58537e… (all of the seat's roots in one cut). By AI agents, Wed Nov 11 2026. No macro, syntax, notation, axiom, sorry.
-/
import Derived.Test.YtncnkfjddolabaaChecked
import GoSem.Claim
import GoSem.ClaimJoined
import GoSem.ClaimMapViews
import Derived.JoinedTies
import Derived.KernelRfl
namespace Go.Proofs.Ytncnkfjddolabaa
/- THE CELL 'sum', in the pinned program and in every row, IS THE sha256 OF THE DUMP (.gsa) THAT YtncnkfjddolabaaProg.lean LOADS. Nothing in Lean hashes anything: it is a label: what it is worth is what the hold of that sum in a sandbox is worth. -/
noncomputable def Try.pinned : Pinned := { name := "ytncnkfjddolabaa", sum := "92b233337d58537eb9d9282226b68c3541bfdf16f393bdbe5f9302a16f7e5d88", checked := Try.checked }
namespace Rows
def none {H : Type} : Left H := { results := [], args := [] }

/-- 'herbariumlaw09.TotalEdges': WHATEVER THE INPUT: true; the input reads as it did. -/
def totalEdgesSpec : ChangeSpec := { name := "totalEdges", fn := fun _ => fun
  | [d1, d2] => { results := [.lit (.bool true)], args := [d1, d2] }
  | _ => none }
def totalEdgesRow : OpenClaim := { program := "ytncnkfjddolabaa", sum := "92b233337d58537eb9d9282226b68c3541bfdf16f393bdbe5f9302a16f7e5d88", func := "herbarium/herbariumlaw09.TotalEdges", spec := "totalEdges", inPlace := ["math.Float64bits", "math.Float64frombits", "math.archFloor", "math.archTrunc"], apart := false }
def TotalEdgesSaid : Prop := totalEdgesRow.holds Try.pinned (OpenSpec.ofChange totalEdgesSpec)

/-- ITS FALSE NEIGHBOUR: 'it returns false'. Refute it at one input. -/
def totalEdgesWrong : ChangeSpec := { name := "totalEdges", fn := fun _ => fun
  | [d1, d2] => { results := [.lit (.bool false)], args := [d1, d2] }
  | _ => none }
def TotalEdgesWrongFalsely : Prop := totalEdgesRow.holds Try.pinned (OpenSpec.ofChange totalEdgesWrong)

/-- 'herbariumlaw16.GaugeAdds': WHATEVER THE INPUT: true; the input reads as it did. -/
def gaugeAddsSpec : ChangeSpec := { name := "gaugeAdds", fn := fun _ => fun
  | [d1, d2] => { results := [.lit (.bool true)], args := [d1, d2] }
  | _ => none }
def gaugeAddsRow : OpenClaim := { program := "ytncnkfjddolabaa", sum := "92b233337d58537eb9d9282226b68c3541bfdf16f393bdbe5f9302a16f7e5d88", func := "herbarium/herbariumlaw16.GaugeAdds", spec := "gaugeAdds", inPlace := ["math.Float64frombits", "math.Float64bits", "internal/reflectlite.ValueOf", "internal/reflectlite.Swapper", "(internal/reflectlite.Value).Len"], unfollowed := true, recurses := true, apart := false }
def GaugeAddsSaid : Prop := gaugeAddsRow.holds Try.pinned (OpenSpec.ofChange gaugeAddsSpec)

/-- ITS FALSE NEIGHBOUR: 'it returns false'. Refute it at one input. -/
def gaugeAddsWrong : ChangeSpec := { name := "gaugeAdds", fn := fun _ => fun
  | [d1, d2] => { results := [.lit (.bool false)], args := [d1, d2] }
  | _ => none }
def GaugeAddsWrongFalsely : Prop := gaugeAddsRow.holds Try.pinned (OpenSpec.ofChange gaugeAddsWrong)

/-- 'herbariumlaw16.GaugeChecks': WHATEVER THE INPUT: true; the input reads as it did. -/
def gaugeChecksSpec : ChangeSpec := { name := "gaugeChecks", fn := fun _ => fun
  | [d1, d2, d3, d4, d5, d6] => { results := [.lit (.bool true)], args := [d1, d2, d3, d4, d5, d6] }
  | _ => none }
def gaugeChecksRow : OpenClaim := { program := "ytncnkfjddolabaa", sum := "92b233337d58537eb9d9282226b68c3541bfdf16f393bdbe5f9302a16f7e5d88", func := "herbarium/herbariumlaw16.GaugeChecks", spec := "gaugeChecks", inPlace := ["math.Float64frombits", "math.Float64bits", "internal/reflectlite.ValueOf", "internal/reflectlite.Swapper", "(internal/reflectlite.Value).Len"], unfollowed := true, recurses := true, apart := false }
def GaugeChecksSaid : Prop := gaugeChecksRow.holds Try.pinned (OpenSpec.ofChange gaugeChecksSpec)

/-- ITS FALSE NEIGHBOUR: 'it returns false'. Refute it at one input. -/
def gaugeChecksWrong : ChangeSpec := { name := "gaugeChecks", fn := fun _ => fun
  | [d1, d2, d3, d4, d5, d6] => { results := [.lit (.bool false)], args := [d1, d2, d3, d4, d5, d6] }
  | _ => none }
def GaugeChecksWrongFalsely : Prop := gaugeChecksRow.holds Try.pinned (OpenSpec.ofChange gaugeChecksWrong)

/-- 'herbariumlaw12.KmvAdds': WHATEVER THE INPUT: true; the input reads as it did. -/
def kmvAddsSpec : ChangeSpec := { name := "kmvAdds", fn := fun _ => fun
  | [d1, d2, d3] => { results := [.lit (.bool true)], args := [d1, d2, d3] }
  | _ => none }
def kmvAddsRow : OpenClaim := { program := "ytncnkfjddolabaa", sum := "92b233337d58537eb9d9282226b68c3541bfdf16f393bdbe5f9302a16f7e5d88", func := "herbarium/herbariumlaw12.KmvAdds", spec := "kmvAdds", inPlace := ["internal/reflectlite.ValueOf", "internal/reflectlite.Swapper", "(internal/reflectlite.Value).Len"], unfollowed := true, recurses := true, named := ["math/bits.divideError", "math/bits.overflowError"], apart := false }
def KmvAddsSaid : Prop := kmvAddsRow.holds Try.pinned (OpenSpec.ofChange kmvAddsSpec)

/-- ITS FALSE NEIGHBOUR: 'it returns false'. Refute it at one input. -/
def kmvAddsWrong : ChangeSpec := { name := "kmvAdds", fn := fun _ => fun
  | [d1, d2, d3] => { results := [.lit (.bool false)], args := [d1, d2, d3] }
  | _ => none }
def KmvAddsWrongFalsely : Prop := kmvAddsRow.holds Try.pinned (OpenSpec.ofChange kmvAddsWrong)

/- THE SECOND FORM. 'bulk': how many values and letters a reading holds, each counted each time it is reached (what is shared counts as often as it is met; a slice's spare places count too). A statement '..UptoSaid' is the law's where the arguments, and the package variables that the reading takes, are together of bulk at most 1048576: NARROWER than '..Said'. Prove '..Said' where nothing that the law and all that it calls make is longer than what came in: it says more and counts as full. Else prove '..UptoSaid'. A law counts once. -/
mutual
def uptoBulk {H : Type} : DataW H → Nat
  | .lit (.string bytes) => bytes.length + 1
  | .lit _ => 1
  | .nil => 1
  | .ptr d => uptoBulk d + 1
  | .slice elems spare => uptoBulkAll elems + uptoBulkAll spare + 1
  | .agg parts => uptoBulkAll parts + 1
  | .iface _ d => uptoBulk d + 1
  | .map entries => uptoBulkEntries entries + 1
  | .held _ => 1
def uptoBulkAll {H : Type} : List (DataW H) → Nat
  | [] => 0
  | d :: r => uptoBulk d + uptoBulkAll r
def uptoBulkEntries {H : Type} : List (Lit × DataW H) → Nat
  | [] => 0
  | x :: r => uptoBulkEntry x + uptoBulkEntries r
def uptoBulkEntry {H : Type} : Lit × DataW H → Nat
  | (.string bytes, d) => bytes.length + uptoBulk d + 1
  | (_, d) => uptoBulk d + 1
 end
def uptoSmall : (H : Type) → List (DataW H) → Bool := fun _ ds => decide (uptoBulkAll ds ≤ 1048576)
def OpenSpec.upto (s : _root_.Go.ChangeSpec) : _root_.Go.OpenSpec := { _root_.Go.OpenSpec.ofChange s with cond := some uptoSmall }

/-- 'herbariumlaw09.TotalEdges', WHERE WHAT IT READS IS OF BULK AT MOST 1048576: true; the input reads as it did. -/
def totalEdgesUptoRow : OpenClaim := { program := "ytncnkfjddolabaa", sum := "92b233337d58537eb9d9282226b68c3541bfdf16f393bdbe5f9302a16f7e5d88", func := "herbarium/herbariumlaw09.TotalEdges", spec := "totalEdges", inPlace := ["math.Float64bits", "math.Float64frombits", "math.archFloor", "math.archTrunc"], apart := false, narrowed := true }
def TotalEdgesUptoSaid : Prop := totalEdgesUptoRow.holds Try.pinned (OpenSpec.upto totalEdgesSpec)

/-- 'herbariumlaw16.GaugeAdds', WHERE WHAT IT READS IS OF BULK AT MOST 1048576: true; the input reads as it did. -/
def gaugeAddsUptoRow : OpenClaim := { program := "ytncnkfjddolabaa", sum := "92b233337d58537eb9d9282226b68c3541bfdf16f393bdbe5f9302a16f7e5d88", func := "herbarium/herbariumlaw16.GaugeAdds", spec := "gaugeAdds", inPlace := ["math.Float64frombits", "math.Float64bits", "internal/reflectlite.ValueOf", "internal/reflectlite.Swapper", "(internal/reflectlite.Value).Len"], unfollowed := true, recurses := true, apart := false, narrowed := true }
def GaugeAddsUptoSaid : Prop := gaugeAddsUptoRow.holds Try.pinned (OpenSpec.upto gaugeAddsSpec)

/-- 'herbariumlaw16.GaugeChecks', WHERE WHAT IT READS IS OF BULK AT MOST 1048576: true; the input reads as it did. -/
def gaugeChecksUptoRow : OpenClaim := { program := "ytncnkfjddolabaa", sum := "92b233337d58537eb9d9282226b68c3541bfdf16f393bdbe5f9302a16f7e5d88", func := "herbarium/herbariumlaw16.GaugeChecks", spec := "gaugeChecks", inPlace := ["math.Float64frombits", "math.Float64bits", "internal/reflectlite.ValueOf", "internal/reflectlite.Swapper", "(internal/reflectlite.Value).Len"], unfollowed := true, recurses := true, apart := false, narrowed := true }
def GaugeChecksUptoSaid : Prop := gaugeChecksUptoRow.holds Try.pinned (OpenSpec.upto gaugeChecksSpec)

/-- 'herbariumlaw12.KmvAdds', WHERE WHAT IT READS IS OF BULK AT MOST 1048576: true; the input reads as it did. -/
def kmvAddsUptoRow : OpenClaim := { program := "ytncnkfjddolabaa", sum := "92b233337d58537eb9d9282226b68c3541bfdf16f393bdbe5f9302a16f7e5d88", func := "herbarium/herbariumlaw12.KmvAdds", spec := "kmvAdds", inPlace := ["internal/reflectlite.ValueOf", "internal/reflectlite.Swapper", "(internal/reflectlite.Value).Len"], unfollowed := true, recurses := true, named := ["math/bits.divideError", "math/bits.overflowError"], apart := false, narrowed := true }
def KmvAddsUptoSaid : Prop := kmvAddsUptoRow.holds Try.pinned (OpenSpec.upto kmvAddsSpec)

end Rows
end Go.Proofs.Ytncnkfjddolabaa
