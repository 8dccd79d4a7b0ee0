/-
  No cell of these rows narrows 'for every input' (looked for: loops, veiled, ifaces, maps, wideKeys, modest, calm, conditions, laid).
  DERIVED. THE GIVEN ROWS OF THIS SEAT. 11 by the template 'for every input the law returns true; each argument reads behind the call as it read before'; 0 by the template 'total and deterministic' (their statements: YtceckapldohkdaaTotals.lean).
  GIVEN WITH THE SEED: the statements are not yours to turn. If you find one false, say at which input.
  Laid BY PROGRAM, IN A SANDBOX (cutbox-rows.mjs): the forced cells as the released guide's own fill.sh prints them over the translation ae81aa892a483ecf… (all of the seat's roots in one cut). By AI agents, Wed Nov 11 2026. No macro, syntax, notation, axiom, sorry.
-/
import Derived.Test.YtceckapldohkdaaChecked
import GoSem.Claim
import GoSem.ClaimJoined
import GoSem.ClaimMapViews
import Derived.JoinedTies
import Derived.KernelRfl
namespace Go.Proofs.Ytceckapldohkdaa
/- THE CELL 'sum', in the pinned program and in every row, IS THE sha256 OF THE DUMP (.gsa) THAT YtceckapldohkdaaProg.lean LOADS. Nothing in Lean hashes anything: it is a label: what it is worth is what the hold of that sum in a sandbox is worth. -/
noncomputable def Try.pinned : Pinned := { name := "ytceckapldohkdaa", sum := "ae81aa892a483ecf0b0c04cf4fbde74eea8196b8b49a5bd13e3c152365d95e81", checked := Try.checked }
namespace Rows
def none {H : Type} : Left H := { results := [], args := [] }

/-- 'laws.FnExactAreLives': WHATEVER THE INPUT: true; the input reads as it did. -/
def fnExactAreLivesSpec : ChangeSpec := { name := "fnExactAreLives", fn := fun _ => fun
  | [d] => { results := [.lit (.bool true)], args := [d] }
  | _ => none }
def fnExactAreLivesRow : OpenClaim := { program := "ytceckapldohkdaa", sum := "ae81aa892a483ecf0b0c04cf4fbde74eea8196b8b49a5bd13e3c152365d95e81", func := "loop.example/g01382/laws.FnExactAreLives", spec := "fnExactAreLives", unfollowed := true, recurses := true, apart := false }
def FnExactAreLivesSaid : Prop := fnExactAreLivesRow.holds Try.pinned (OpenSpec.ofChange fnExactAreLivesSpec)

/-- ITS FALSE NEIGHBOUR: 'it returns false'. Refute it at one input. -/
def fnExactAreLivesWrong : ChangeSpec := { name := "fnExactAreLives", fn := fun _ => fun
  | [d] => { results := [.lit (.bool false)], args := [d] }
  | _ => none }
def FnExactAreLivesWrongFalsely : Prop := fnExactAreLivesRow.holds Try.pinned (OpenSpec.ofChange fnExactAreLivesWrong)

/-- 'laws.FnExactSameLives': WHATEVER THE INPUT: true; the input reads as it did. -/
def fnExactSameLivesSpec : ChangeSpec := { name := "fnExactSameLives", fn := fun _ => fun
  | [d1, d2] => { results := [.lit (.bool true)], args := [d1, d2] }
  | _ => none }
def fnExactSameLivesRow : OpenClaim := { program := "ytceckapldohkdaa", sum := "ae81aa892a483ecf0b0c04cf4fbde74eea8196b8b49a5bd13e3c152365d95e81", func := "loop.example/g01382/laws.FnExactSameLives", spec := "fnExactSameLives", inPlace := ["math.Float32bits", "math.Float64bits"], unfollowed := true, recurses := true, apart := false }
def FnExactSameLivesSaid : Prop := fnExactSameLivesRow.holds Try.pinned (OpenSpec.ofChange fnExactSameLivesSpec)

/-- ITS FALSE NEIGHBOUR: 'it returns false'. Refute it at one input. -/
def fnExactSameLivesWrong : ChangeSpec := { name := "fnExactSameLives", fn := fun _ => fun
  | [d1, d2] => { results := [.lit (.bool false)], args := [d1, d2] }
  | _ => none }
def FnExactSameLivesWrongFalsely : Prop := fnExactSameLivesRow.holds Try.pinned (OpenSpec.ofChange fnExactSameLivesWrong)

/-- 'laws.FnExactCountFailed': WHATEVER THE INPUT: true; the input reads as it did. -/
def fnExactCountFailedSpec : ChangeSpec := { name := "fnExactCountFailed", fn := fun _ => fun
  | [d] => { results := [.lit (.bool true)], args := [d] }
  | _ => none }
def fnExactCountFailedRow : OpenClaim := { program := "ytceckapldohkdaa", sum := "ae81aa892a483ecf0b0c04cf4fbde74eea8196b8b49a5bd13e3c152365d95e81", func := "loop.example/g01382/laws.FnExactCountFailed", spec := "fnExactCountFailed", unfollowed := true, recurses := true, apart := false }
def FnExactCountFailedSaid : Prop := fnExactCountFailedRow.holds Try.pinned (OpenSpec.ofChange fnExactCountFailedSpec)

/-- ITS FALSE NEIGHBOUR: 'it returns false'. Refute it at one input. -/
def fnExactCountFailedWrong : ChangeSpec := { name := "fnExactCountFailed", fn := fun _ => fun
  | [d] => { results := [.lit (.bool false)], args := [d] }
  | _ => none }
def FnExactCountFailedWrongFalsely : Prop := fnExactCountFailedRow.holds Try.pinned (OpenSpec.ofChange fnExactCountFailedWrong)

/-- 'laws.FnExactTimeOfTest': WHATEVER THE INPUT: true; the input reads as it did. -/
def fnExactTimeOfTestSpec : ChangeSpec := { name := "fnExactTimeOfTest", fn := fun _ => fun
  | [d] => { results := [.lit (.bool true)], args := [d] }
  | _ => none }
def fnExactTimeOfTestRow : OpenClaim := { program := "ytceckapldohkdaa", sum := "ae81aa892a483ecf0b0c04cf4fbde74eea8196b8b49a5bd13e3c152365d95e81", func := "loop.example/g01382/laws.FnExactTimeOfTest", spec := "fnExactTimeOfTest", unfollowed := true, recurses := true, apart := false }
def FnExactTimeOfTestSaid : Prop := fnExactTimeOfTestRow.holds Try.pinned (OpenSpec.ofChange fnExactTimeOfTestSpec)

/-- ITS FALSE NEIGHBOUR: 'it returns false'. Refute it at one input. -/
def fnExactTimeOfTestWrong : ChangeSpec := { name := "fnExactTimeOfTest", fn := fun _ => fun
  | [d] => { results := [.lit (.bool false)], args := [d] }
  | _ => none }
def FnExactTimeOfTestWrongFalsely : Prop := fnExactTimeOfTestRow.holds Try.pinned (OpenSpec.ofChange fnExactTimeOfTestWrong)

/-- 'laws.FnExactRankSumOf': WHATEVER THE INPUT: true; the input reads as it did. -/
def fnExactRankSumOfSpec : ChangeSpec := { name := "fnExactRankSumOf", fn := fun _ => fun
  | [d1, d2] => { results := [.lit (.bool true)], args := [d1, d2] }
  | _ => none }
def fnExactRankSumOfRow : OpenClaim := { program := "ytceckapldohkdaa", sum := "ae81aa892a483ecf0b0c04cf4fbde74eea8196b8b49a5bd13e3c152365d95e81", func := "loop.example/g01382/laws.FnExactRankSumOf", spec := "fnExactRankSumOf", unfollowed := true, recurses := true, apart := false }
def FnExactRankSumOfSaid : Prop := fnExactRankSumOfRow.holds Try.pinned (OpenSpec.ofChange fnExactRankSumOfSpec)

/-- ITS FALSE NEIGHBOUR: 'it returns false'. Refute it at one input. -/
def fnExactRankSumOfWrong : ChangeSpec := { name := "fnExactRankSumOf", fn := fun _ => fun
  | [d1, d2] => { results := [.lit (.bool false)], args := [d1, d2] }
  | _ => none }
def FnExactRankSumOfWrongFalsely : Prop := fnExactRankSumOfRow.holds Try.pinned (OpenSpec.ofChange fnExactRankSumOfWrong)

/-- 'laws.FnExactFitRate': WHATEVER THE INPUT: true; the input reads as it did. -/
def fnExactFitRateSpec : ChangeSpec := { name := "fnExactFitRate", fn := fun _ => fun
  | [d] => { results := [.lit (.bool true)], args := [d] }
  | _ => none }
def fnExactFitRateRow : OpenClaim := { program := "ytceckapldohkdaa", sum := "ae81aa892a483ecf0b0c04cf4fbde74eea8196b8b49a5bd13e3c152365d95e81", func := "loop.example/g01382/laws.FnExactFitRate", spec := "fnExactFitRate", unfollowed := true, recurses := true, apart := false }
def FnExactFitRateSaid : Prop := fnExactFitRateRow.holds Try.pinned (OpenSpec.ofChange fnExactFitRateSpec)

/-- ITS FALSE NEIGHBOUR: 'it returns false'. Refute it at one input. -/
def fnExactFitRateWrong : ChangeSpec := { name := "fnExactFitRate", fn := fun _ => fun
  | [d] => { results := [.lit (.bool false)], args := [d] }
  | _ => none }
def FnExactFitRateWrongFalsely : Prop := fnExactFitRateRow.holds Try.pinned (OpenSpec.ofChange fnExactFitRateWrong)

/-- 'laws.FnExactIntervalTable': WHATEVER THE INPUT: true; the input reads as it did. -/
def fnExactIntervalTableSpec : ChangeSpec := { name := "fnExactIntervalTable", fn := fun _ => fun
  | [d1, d2, d3] => { results := [.lit (.bool true)], args := [d1, d2, d3] }
  | _ => none }
def fnExactIntervalTableRow : OpenClaim := { program := "ytceckapldohkdaa", sum := "ae81aa892a483ecf0b0c04cf4fbde74eea8196b8b49a5bd13e3c152365d95e81", func := "loop.example/g01382/laws.FnExactIntervalTable", spec := "fnExactIntervalTable", unfollowed := true, recurses := true, apart := false }
def FnExactIntervalTableSaid : Prop := fnExactIntervalTableRow.holds Try.pinned (OpenSpec.ofChange fnExactIntervalTableSpec)

/-- ITS FALSE NEIGHBOUR: 'it returns false'. Refute it at one input. -/
def fnExactIntervalTableWrong : ChangeSpec := { name := "fnExactIntervalTable", fn := fun _ => fun
  | [d1, d2, d3] => { results := [.lit (.bool false)], args := [d1, d2, d3] }
  | _ => none }
def FnExactIntervalTableWrongFalsely : Prop := fnExactIntervalTableRow.holds Try.pinned (OpenSpec.ofChange fnExactIntervalTableWrong)

/-- 'laws.FnExactLawTime': WHATEVER THE INPUT: true; the input reads as it did. -/
def fnExactLawTimeSpec : ChangeSpec := { name := "fnExactLawTime", fn := fun _ => fun
  | [d1, d2] => { results := [.lit (.bool true)], args := [d1, d2] }
  | _ => none }
def fnExactLawTimeRow : OpenClaim := { program := "ytceckapldohkdaa", sum := "ae81aa892a483ecf0b0c04cf4fbde74eea8196b8b49a5bd13e3c152365d95e81", func := "loop.example/g01382/laws.FnExactLawTime", spec := "fnExactLawTime", inPlace := ["math.Float64frombits", "math.Float64bits"], apart := false }
def FnExactLawTimeSaid : Prop := fnExactLawTimeRow.holds Try.pinned (OpenSpec.ofChange fnExactLawTimeSpec)

/-- ITS FALSE NEIGHBOUR: 'it returns false'. Refute it at one input. -/
def fnExactLawTimeWrong : ChangeSpec := { name := "fnExactLawTime", fn := fun _ => fun
  | [d1, d2] => { results := [.lit (.bool false)], args := [d1, d2] }
  | _ => none }
def FnExactLawTimeWrongFalsely : Prop := fnExactLawTimeRow.holds Try.pinned (OpenSpec.ofChange fnExactLawTimeWrong)

/-- 'laws.FnExactLawSurvives': WHATEVER THE INPUT: true; the input reads as it did. -/
def fnExactLawSurvivesSpec : ChangeSpec := { name := "fnExactLawSurvives", fn := fun _ => fun
  | [d1, d2] => { results := [.lit (.bool true)], args := [d1, d2] }
  | _ => none }
def fnExactLawSurvivesRow : OpenClaim := { program := "ytceckapldohkdaa", sum := "ae81aa892a483ecf0b0c04cf4fbde74eea8196b8b49a5bd13e3c152365d95e81", func := "loop.example/g01382/laws.FnExactLawSurvives", spec := "fnExactLawSurvives", inPlace := ["math.Float64frombits", "math.Float64bits"], unfollowed := true, recurses := true, apart := false }
def FnExactLawSurvivesSaid : Prop := fnExactLawSurvivesRow.holds Try.pinned (OpenSpec.ofChange fnExactLawSurvivesSpec)

/-- ITS FALSE NEIGHBOUR: 'it returns false'. Refute it at one input. -/
def fnExactLawSurvivesWrong : ChangeSpec := { name := "fnExactLawSurvives", fn := fun _ => fun
  | [d1, d2] => { results := [.lit (.bool false)], args := [d1, d2] }
  | _ => none }
def FnExactLawSurvivesWrongFalsely : Prop := fnExactLawSurvivesRow.holds Try.pinned (OpenSpec.ofChange fnExactLawSurvivesWrong)

/-- 'laws.FnExactLawHazard': WHATEVER THE INPUT: true; the input reads as it did. -/
def fnExactLawHazardSpec : ChangeSpec := { name := "fnExactLawHazard", fn := fun _ => fun
  | [d1, d2] => { results := [.lit (.bool true)], args := [d1, d2] }
  | _ => none }
def fnExactLawHazardRow : OpenClaim := { program := "ytceckapldohkdaa", sum := "ae81aa892a483ecf0b0c04cf4fbde74eea8196b8b49a5bd13e3c152365d95e81", func := "loop.example/g01382/laws.FnExactLawHazard", spec := "fnExactLawHazard", inPlace := ["math.Float64frombits", "math.Float64bits"], unfollowed := true, recurses := true, apart := false }
def FnExactLawHazardSaid : Prop := fnExactLawHazardRow.holds Try.pinned (OpenSpec.ofChange fnExactLawHazardSpec)

/-- ITS FALSE NEIGHBOUR: 'it returns false'. Refute it at one input. -/
def fnExactLawHazardWrong : ChangeSpec := { name := "fnExactLawHazard", fn := fun _ => fun
  | [d1, d2] => { results := [.lit (.bool false)], args := [d1, d2] }
  | _ => none }
def FnExactLawHazardWrongFalsely : Prop := fnExactLawHazardRow.holds Try.pinned (OpenSpec.ofChange fnExactLawHazardWrong)

/-- 'laws.FnExactLawMean': WHATEVER THE INPUT: true; the input reads as it did. -/
def fnExactLawMeanSpec : ChangeSpec := { name := "fnExactLawMean", fn := fun _ => fun
  | [d1, d2, d3] => { results := [.lit (.bool true)], args := [d1, d2, d3] }
  | _ => none }
def fnExactLawMeanRow : OpenClaim := { program := "ytceckapldohkdaa", sum := "ae81aa892a483ecf0b0c04cf4fbde74eea8196b8b49a5bd13e3c152365d95e81", func := "loop.example/g01382/laws.FnExactLawMean", spec := "fnExactLawMean", inPlace := ["math.Float64frombits", "math.Float64bits"], unfollowed := true, recurses := true, apart := false }
def FnExactLawMeanSaid : Prop := fnExactLawMeanRow.holds Try.pinned (OpenSpec.ofChange fnExactLawMeanSpec)

/-- ITS FALSE NEIGHBOUR: 'it returns false'. Refute it at one input. -/
def fnExactLawMeanWrong : ChangeSpec := { name := "fnExactLawMean", fn := fun _ => fun
  | [d1, d2, d3] => { results := [.lit (.bool false)], args := [d1, d2, d3] }
  | _ => none }
def FnExactLawMeanWrongFalsely : Prop := fnExactLawMeanRow.holds Try.pinned (OpenSpec.ofChange fnExactLawMeanWrong)

/- THE SECOND FORM. 'bulk': how many values and letters a reading holds, each counted each time it is reached (what is shared counts as often as it is met; a slice's spare places count too). A statement '..UptoSaid' is the law's where the arguments, and the package variables that the reading takes, are together of bulk at most 1048576: NARROWER than '..Said'. Prove '..Said' where nothing that the law and all that it calls make is longer than what came in: it says more and counts as full. Else prove '..UptoSaid'. A law counts once. -/
mutual
def uptoBulk {H : Type} : DataW H → Nat
  | .lit (.string bytes) => bytes.length + 1
  | .lit _ => 1
  | .nil => 1
  | .ptr d => uptoBulk d + 1
  | .slice elems spare => uptoBulkAll elems + uptoBulkAll spare + 1
  | .agg parts => uptoBulkAll parts + 1
  | .iface _ d => uptoBulk d + 1
  | .map entries => uptoBulkEntries entries + 1
  | .held _ => 1
def uptoBulkAll {H : Type} : List (DataW H) → Nat
  | [] => 0
  | d :: r => uptoBulk d + uptoBulkAll r
def uptoBulkEntries {H : Type} : List (Lit × DataW H) → Nat
  | [] => 0
  | x :: r => uptoBulkEntry x + uptoBulkEntries r
def uptoBulkEntry {H : Type} : Lit × DataW H → Nat
  | (.string bytes, d) => bytes.length + uptoBulk d + 1
  | (_, d) => uptoBulk d + 1
 end
def uptoSmall : (H : Type) → List (DataW H) → Bool := fun _ ds => decide (uptoBulkAll ds ≤ 1048576)
def OpenSpec.upto (s : _root_.Go.ChangeSpec) : _root_.Go.OpenSpec := { _root_.Go.OpenSpec.ofChange s with cond := some uptoSmall }

/-- 'laws.FnExactAreLives', WHERE WHAT IT READS IS OF BULK AT MOST 1048576: true; the input reads as it did. -/
def fnExactAreLivesUptoRow : OpenClaim := { program := "ytceckapldohkdaa", sum := "ae81aa892a483ecf0b0c04cf4fbde74eea8196b8b49a5bd13e3c152365d95e81", func := "loop.example/g01382/laws.FnExactAreLives", spec := "fnExactAreLives", unfollowed := true, recurses := true, apart := false, narrowed := true }
def FnExactAreLivesUptoSaid : Prop := fnExactAreLivesUptoRow.holds Try.pinned (OpenSpec.upto fnExactAreLivesSpec)

/-- 'laws.FnExactSameLives', WHERE WHAT IT READS IS OF BULK AT MOST 1048576: true; the input reads as it did. -/
def fnExactSameLivesUptoRow : OpenClaim := { program := "ytceckapldohkdaa", sum := "ae81aa892a483ecf0b0c04cf4fbde74eea8196b8b49a5bd13e3c152365d95e81", func := "loop.example/g01382/laws.FnExactSameLives", spec := "fnExactSameLives", inPlace := ["math.Float32bits", "math.Float64bits"], unfollowed := true, recurses := true, apart := false, narrowed := true }
def FnExactSameLivesUptoSaid : Prop := fnExactSameLivesUptoRow.holds Try.pinned (OpenSpec.upto fnExactSameLivesSpec)

/-- 'laws.FnExactCountFailed', WHERE WHAT IT READS IS OF BULK AT MOST 1048576: true; the input reads as it did. -/
def fnExactCountFailedUptoRow : OpenClaim := { program := "ytceckapldohkdaa", sum := "ae81aa892a483ecf0b0c04cf4fbde74eea8196b8b49a5bd13e3c152365d95e81", func := "loop.example/g01382/laws.FnExactCountFailed", spec := "fnExactCountFailed", unfollowed := true, recurses := true, apart := false, narrowed := true }
def FnExactCountFailedUptoSaid : Prop := fnExactCountFailedUptoRow.holds Try.pinned (OpenSpec.upto fnExactCountFailedSpec)

/-- 'laws.FnExactTimeOfTest', WHERE WHAT IT READS IS OF BULK AT MOST 1048576: true; the input reads as it did. -/
def fnExactTimeOfTestUptoRow : OpenClaim := { program := "ytceckapldohkdaa", sum := "ae81aa892a483ecf0b0c04cf4fbde74eea8196b8b49a5bd13e3c152365d95e81", func := "loop.example/g01382/laws.FnExactTimeOfTest", spec := "fnExactTimeOfTest", unfollowed := true, recurses := true, apart := false, narrowed := true }
def FnExactTimeOfTestUptoSaid : Prop := fnExactTimeOfTestUptoRow.holds Try.pinned (OpenSpec.upto fnExactTimeOfTestSpec)

/-- 'laws.FnExactRankSumOf', WHERE WHAT IT READS IS OF BULK AT MOST 1048576: true; the input reads as it did. -/
def fnExactRankSumOfUptoRow : OpenClaim := { program := "ytceckapldohkdaa", sum := "ae81aa892a483ecf0b0c04cf4fbde74eea8196b8b49a5bd13e3c152365d95e81", func := "loop.example/g01382/laws.FnExactRankSumOf", spec := "fnExactRankSumOf", unfollowed := true, recurses := true, apart := false, narrowed := true }
def FnExactRankSumOfUptoSaid : Prop := fnExactRankSumOfUptoRow.holds Try.pinned (OpenSpec.upto fnExactRankSumOfSpec)

/-- 'laws.FnExactFitRate', WHERE WHAT IT READS IS OF BULK AT MOST 1048576: true; the input reads as it did. -/
def fnExactFitRateUptoRow : OpenClaim := { program := "ytceckapldohkdaa", sum := "ae81aa892a483ecf0b0c04cf4fbde74eea8196b8b49a5bd13e3c152365d95e81", func := "loop.example/g01382/laws.FnExactFitRate", spec := "fnExactFitRate", unfollowed := true, recurses := true, apart := false, narrowed := true }
def FnExactFitRateUptoSaid : Prop := fnExactFitRateUptoRow.holds Try.pinned (OpenSpec.upto fnExactFitRateSpec)

/-- 'laws.FnExactIntervalTable', WHERE WHAT IT READS IS OF BULK AT MOST 1048576: true; the input reads as it did. -/
def fnExactIntervalTableUptoRow : OpenClaim := { program := "ytceckapldohkdaa", sum := "ae81aa892a483ecf0b0c04cf4fbde74eea8196b8b49a5bd13e3c152365d95e81", func := "loop.example/g01382/laws.FnExactIntervalTable", spec := "fnExactIntervalTable", unfollowed := true, recurses := true, apart := false, narrowed := true }
def FnExactIntervalTableUptoSaid : Prop := fnExactIntervalTableUptoRow.holds Try.pinned (OpenSpec.upto fnExactIntervalTableSpec)

/-- 'laws.FnExactLawTime', WHERE WHAT IT READS IS OF BULK AT MOST 1048576: true; the input reads as it did. -/
def fnExactLawTimeUptoRow : OpenClaim := { program := "ytceckapldohkdaa", sum := "ae81aa892a483ecf0b0c04cf4fbde74eea8196b8b49a5bd13e3c152365d95e81", func := "loop.example/g01382/laws.FnExactLawTime", spec := "fnExactLawTime", inPlace := ["math.Float64frombits", "math.Float64bits"], apart := false, narrowed := true }
def FnExactLawTimeUptoSaid : Prop := fnExactLawTimeUptoRow.holds Try.pinned (OpenSpec.upto fnExactLawTimeSpec)

/-- 'laws.FnExactLawSurvives', WHERE WHAT IT READS IS OF BULK AT MOST 1048576: true; the input reads as it did. -/
def fnExactLawSurvivesUptoRow : OpenClaim := { program := "ytceckapldohkdaa", sum := "ae81aa892a483ecf0b0c04cf4fbde74eea8196b8b49a5bd13e3c152365d95e81", func := "loop.example/g01382/laws.FnExactLawSurvives", spec := "fnExactLawSurvives", inPlace := ["math.Float64frombits", "math.Float64bits"], unfollowed := true, recurses := true, apart := false, narrowed := true }
def FnExactLawSurvivesUptoSaid : Prop := fnExactLawSurvivesUptoRow.holds Try.pinned (OpenSpec.upto fnExactLawSurvivesSpec)

/-- 'laws.FnExactLawHazard', WHERE WHAT IT READS IS OF BULK AT MOST 1048576: true; the input reads as it did. -/
def fnExactLawHazardUptoRow : OpenClaim := { program := "ytceckapldohkdaa", sum := "ae81aa892a483ecf0b0c04cf4fbde74eea8196b8b49a5bd13e3c152365d95e81", func := "loop.example/g01382/laws.FnExactLawHazard", spec := "fnExactLawHazard", inPlace := ["math.Float64frombits", "math.Float64bits"], unfollowed := true, recurses := true, apart := false, narrowed := true }
def FnExactLawHazardUptoSaid : Prop := fnExactLawHazardUptoRow.holds Try.pinned (OpenSpec.upto fnExactLawHazardSpec)

/-- 'laws.FnExactLawMean', WHERE WHAT IT READS IS OF BULK AT MOST 1048576: true; the input reads as it did. -/
def fnExactLawMeanUptoRow : OpenClaim := { program := "ytceckapldohkdaa", sum := "ae81aa892a483ecf0b0c04cf4fbde74eea8196b8b49a5bd13e3c152365d95e81", func := "loop.example/g01382/laws.FnExactLawMean", spec := "fnExactLawMean", inPlace := ["math.Float64frombits", "math.Float64bits"], unfollowed := true, recurses := true, apart := false, narrowed := true }
def FnExactLawMeanUptoSaid : Prop := fnExactLawMeanUptoRow.holds Try.pinned (OpenSpec.upto fnExactLawMeanSpec)

end Rows
end Go.Proofs.Ytceckapldohkdaa
