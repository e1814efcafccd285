/-
  No cell of these rows narrows 'for every input' (looked for: loops, veiled, ifaces, maps, wideKeys, modest, calm, conditions, laid).
  DERIVED. THE GIVEN ROWS OF THIS SEAT. 9 by the template 'for every input the law returns true; each argument reads behind the call as it read before'; 0 by the template 'total and deterministic' (their statements: YtakkjehmekekbaaTotals.lean).
  GIVEN WITH THE SEED: the statements are not yours to turn. If you find one false, say at which input.
  Laid BY PROGRAM, IN A SANDBOX (cutbox-rows.mjs): the forced cells as the released guide's own fill.sh prints them over the translation bf02bd941e1a0936… (all of the seat's roots in one cut). By AI agents, Wed Nov 11 2026. No macro, syntax, notation, axiom, sorry.
-/
import Derived.Test.YtakkjehmekekbaaChecked
import GoSem.Claim
import GoSem.ClaimJoined
import GoSem.ClaimMapViews
import Derived.JoinedTies
import Derived.KernelRfl
namespace Go.Proofs.Ytakkjehmekekbaa
/- THE CELL 'sum', in the pinned program and in every row, IS THE sha256 OF THE DUMP (.gsa) THAT YtakkjehmekekbaaProg.lean LOADS. Nothing in Lean hashes anything: it is a label: what it is worth is what the hold of that sum in a sandbox is worth. -/
noncomputable def Try.pinned : Pinned := { name := "ytakkjehmekekbaa", sum := "bf02bd941e1a09366dc20761d454cdc99f9e8e05af1859668f6fa39dd6aa365b", checked := Try.checked }
namespace Rows
def none {H : Type} : Left H := { results := [], args := [] }

/-- 'recensionlaw04.DiffMakes': WHATEVER THE INPUT: true; the input reads as it did. -/
def diffMakesSpec : ChangeSpec := { name := "diffMakes", fn := fun _ => fun
  | [d1, d2] => { results := [.lit (.bool true)], args := [d1, d2] }
  | _ => none }
def diffMakesRow : OpenClaim := { program := "ytakkjehmekekbaa", sum := "bf02bd941e1a09366dc20761d454cdc99f9e8e05af1859668f6fa39dd6aa365b", func := "recension/recensionlaw04.DiffMakes", spec := "diffMakes", unfollowed := true, recurses := true, apart := false }
def DiffMakesSaid : Prop := diffMakesRow.holds Try.pinned (OpenSpec.ofChange diffMakesSpec)

/-- ITS FALSE NEIGHBOUR: 'it returns false'. Refute it at one input. -/
def diffMakesWrong : ChangeSpec := { name := "diffMakes", fn := fun _ => fun
  | [d1, d2] => { results := [.lit (.bool false)], args := [d1, d2] }
  | _ => none }
def DiffMakesWrongFalsely : Prop := diffMakesRow.holds Try.pinned (OpenSpec.ofChange diffMakesWrong)

/-- 'recensionlaw04.DiffApplies': WHATEVER THE INPUT: true; the input reads as it did. -/
def diffAppliesSpec : ChangeSpec := { name := "diffApplies", fn := fun _ => fun
  | [d1, d2] => { results := [.lit (.bool true)], args := [d1, d2] }
  | _ => none }
def diffAppliesRow : OpenClaim := { program := "ytakkjehmekekbaa", sum := "bf02bd941e1a09366dc20761d454cdc99f9e8e05af1859668f6fa39dd6aa365b", func := "recension/recensionlaw04.DiffApplies", spec := "diffApplies", unfollowed := true, recurses := true, apart := false }
def DiffAppliesSaid : Prop := diffAppliesRow.holds Try.pinned (OpenSpec.ofChange diffAppliesSpec)

/-- ITS FALSE NEIGHBOUR: 'it returns false'. Refute it at one input. -/
def diffAppliesWrong : ChangeSpec := { name := "diffApplies", fn := fun _ => fun
  | [d1, d2] => { results := [.lit (.bool false)], args := [d1, d2] }
  | _ => none }
def DiffAppliesWrongFalsely : Prop := diffAppliesRow.holds Try.pinned (OpenSpec.ofChange diffAppliesWrong)

/-- 'recensionlaw04.DiffCosts': WHATEVER THE INPUT: true; the input reads as it did. -/
def diffCostsSpec : ChangeSpec := { name := "diffCosts", fn := fun _ => fun
  | [d] => { results := [.lit (.bool true)], args := [d] }
  | _ => none }
def diffCostsRow : OpenClaim := { program := "ytakkjehmekekbaa", sum := "bf02bd941e1a09366dc20761d454cdc99f9e8e05af1859668f6fa39dd6aa365b", func := "recension/recensionlaw04.DiffCosts", spec := "diffCosts", unfollowed := true, recurses := true, apart := false }
def DiffCostsSaid : Prop := diffCostsRow.holds Try.pinned (OpenSpec.ofChange diffCostsSpec)

/-- ITS FALSE NEIGHBOUR: 'it returns false'. Refute it at one input. -/
def diffCostsWrong : ChangeSpec := { name := "diffCosts", fn := fun _ => fun
  | [d] => { results := [.lit (.bool false)], args := [d] }
  | _ => none }
def DiffCostsWrongFalsely : Prop := diffCostsRow.holds Try.pinned (OpenSpec.ofChange diffCostsWrong)

/-- 'recensionlaw04.DiffLands': WHATEVER THE INPUT: true; the input reads as it did. -/
def diffLandsSpec : ChangeSpec := { name := "diffLands", fn := fun _ => fun
  | [d1, d2] => { results := [.lit (.bool true)], args := [d1, d2] }
  | _ => none }
def diffLandsRow : OpenClaim := { program := "ytakkjehmekekbaa", sum := "bf02bd941e1a09366dc20761d454cdc99f9e8e05af1859668f6fa39dd6aa365b", func := "recension/recensionlaw04.DiffLands", spec := "diffLands", unfollowed := true, recurses := true, apart := false }
def DiffLandsSaid : Prop := diffLandsRow.holds Try.pinned (OpenSpec.ofChange diffLandsSpec)

/-- ITS FALSE NEIGHBOUR: 'it returns false'. Refute it at one input. -/
def diffLandsWrong : ChangeSpec := { name := "diffLands", fn := fun _ => fun
  | [d1, d2] => { results := [.lit (.bool false)], args := [d1, d2] }
  | _ => none }
def DiffLandsWrongFalsely : Prop := diffLandsRow.holds Try.pinned (OpenSpec.ofChange diffLandsWrong)

/-- 'recensionlaw04.DiffLeast': WHATEVER THE INPUT: true; the input reads as it did. -/
def diffLeastSpec : ChangeSpec := { name := "diffLeast", fn := fun _ => fun
  | [d1, d2] => { results := [.lit (.bool true)], args := [d1, d2] }
  | _ => none }
def diffLeastRow : OpenClaim := { program := "ytakkjehmekekbaa", sum := "bf02bd941e1a09366dc20761d454cdc99f9e8e05af1859668f6fa39dd6aa365b", func := "recension/recensionlaw04.DiffLeast", spec := "diffLeast", unfollowed := true, recurses := true, apart := false }
def DiffLeastSaid : Prop := diffLeastRow.holds Try.pinned (OpenSpec.ofChange diffLeastSpec)

/-- ITS FALSE NEIGHBOUR: 'it returns false'. Refute it at one input. -/
def diffLeastWrong : ChangeSpec := { name := "diffLeast", fn := fun _ => fun
  | [d1, d2] => { results := [.lit (.bool false)], args := [d1, d2] }
  | _ => none }
def DiffLeastWrongFalsely : Prop := diffLeastRow.holds Try.pinned (OpenSpec.ofChange diffLeastWrong)

/-- 'recensionlaw04.DiffMetric': WHATEVER THE INPUT: true; the input reads as it did. -/
def diffMetricSpec : ChangeSpec := { name := "diffMetric", fn := fun _ => fun
  | [d1, d2, d3] => { results := [.lit (.bool true)], args := [d1, d2, d3] }
  | _ => none }
def diffMetricRow : OpenClaim := { program := "ytakkjehmekekbaa", sum := "bf02bd941e1a09366dc20761d454cdc99f9e8e05af1859668f6fa39dd6aa365b", func := "recension/recensionlaw04.DiffMetric", spec := "diffMetric", unfollowed := true, recurses := true, apart := false }
def DiffMetricSaid : Prop := diffMetricRow.holds Try.pinned (OpenSpec.ofChange diffMetricSpec)

/-- ITS FALSE NEIGHBOUR: 'it returns false'. Refute it at one input. -/
def diffMetricWrong : ChangeSpec := { name := "diffMetric", fn := fun _ => fun
  | [d1, d2, d3] => { results := [.lit (.bool false)], args := [d1, d2, d3] }
  | _ => none }
def DiffMetricWrongFalsely : Prop := diffMetricRow.holds Try.pinned (OpenSpec.ofChange diffMetricWrong)

/-- 'recensionlaw04.DiffAround': WHATEVER THE INPUT: true; the input reads as it did. -/
def diffAroundSpec : ChangeSpec := { name := "diffAround", fn := fun _ => fun
  | [d1, d2, d3] => { results := [.lit (.bool true)], args := [d1, d2, d3] }
  | _ => none }
def diffAroundRow : OpenClaim := { program := "ytakkjehmekekbaa", sum := "bf02bd941e1a09366dc20761d454cdc99f9e8e05af1859668f6fa39dd6aa365b", func := "recension/recensionlaw04.DiffAround", spec := "diffAround", unfollowed := true, recurses := true, apart := false }
def DiffAroundSaid : Prop := diffAroundRow.holds Try.pinned (OpenSpec.ofChange diffAroundSpec)

/-- ITS FALSE NEIGHBOUR: 'it returns false'. Refute it at one input. -/
def diffAroundWrong : ChangeSpec := { name := "diffAround", fn := fun _ => fun
  | [d1, d2, d3] => { results := [.lit (.bool false)], args := [d1, d2, d3] }
  | _ => none }
def DiffAroundWrongFalsely : Prop := diffAroundRow.holds Try.pinned (OpenSpec.ofChange diffAroundWrong)

/-- 'recensionlaw04.DiffInverts': WHATEVER THE INPUT: true; the input reads as it did. -/
def diffInvertsSpec : ChangeSpec := { name := "diffInverts", fn := fun _ => fun
  | [d1, d2] => { results := [.lit (.bool true)], args := [d1, d2] }
  | _ => none }
def diffInvertsRow : OpenClaim := { program := "ytakkjehmekekbaa", sum := "bf02bd941e1a09366dc20761d454cdc99f9e8e05af1859668f6fa39dd6aa365b", func := "recension/recensionlaw04.DiffInverts", spec := "diffInverts", unfollowed := true, recurses := true, apart := false }
def DiffInvertsSaid : Prop := diffInvertsRow.holds Try.pinned (OpenSpec.ofChange diffInvertsSpec)

/-- ITS FALSE NEIGHBOUR: 'it returns false'. Refute it at one input. -/
def diffInvertsWrong : ChangeSpec := { name := "diffInverts", fn := fun _ => fun
  | [d1, d2] => { results := [.lit (.bool false)], args := [d1, d2] }
  | _ => none }
def DiffInvertsWrongFalsely : Prop := diffInvertsRow.holds Try.pinned (OpenSpec.ofChange diffInvertsWrong)

/-- 'recensionlaw04.DiffReturns': WHATEVER THE INPUT: true; the input reads as it did. -/
def diffReturnsSpec : ChangeSpec := { name := "diffReturns", fn := fun _ => fun
  | [d1, d2] => { results := [.lit (.bool true)], args := [d1, d2] }
  | _ => none }
def diffReturnsRow : OpenClaim := { program := "ytakkjehmekekbaa", sum := "bf02bd941e1a09366dc20761d454cdc99f9e8e05af1859668f6fa39dd6aa365b", func := "recension/recensionlaw04.DiffReturns", spec := "diffReturns", unfollowed := true, recurses := true, apart := false }
def DiffReturnsSaid : Prop := diffReturnsRow.holds Try.pinned (OpenSpec.ofChange diffReturnsSpec)

/-- ITS FALSE NEIGHBOUR: 'it returns false'. Refute it at one input. -/
def diffReturnsWrong : ChangeSpec := { name := "diffReturns", fn := fun _ => fun
  | [d1, d2] => { results := [.lit (.bool false)], args := [d1, d2] }
  | _ => none }
def DiffReturnsWrongFalsely : Prop := diffReturnsRow.holds Try.pinned (OpenSpec.ofChange diffReturnsWrong)

/- THE SECOND FORM. 'bulk': how many values and letters a reading holds, each counted each time it is reached (what is shared counts as often as it is met; a slice's spare places count too). A statement '..UptoSaid' is the law's where the arguments, and the package variables that the reading takes, are together of bulk at most 1048576: NARROWER than '..Said'. Prove '..Said' where nothing that the law and all that it calls make is longer than what came in: it says more and counts as full. Else prove '..UptoSaid'. A law counts once. -/
mutual
def uptoBulk {H : Type} : DataW H → Nat
  | .lit (.string bytes) => bytes.length + 1
  | .lit _ => 1
  | .nil => 1
  | .ptr d => uptoBulk d + 1
  | .slice elems spare => uptoBulkAll elems + uptoBulkAll spare + 1
  | .agg parts => uptoBulkAll parts + 1
  | .iface _ d => uptoBulk d + 1
  | .map entries => uptoBulkEntries entries + 1
  | .held _ => 1
def uptoBulkAll {H : Type} : List (DataW H) → Nat
  | [] => 0
  | d :: r => uptoBulk d + uptoBulkAll r
def uptoBulkEntries {H : Type} : List (Lit × DataW H) → Nat
  | [] => 0
  | x :: r => uptoBulkEntry x + uptoBulkEntries r
def uptoBulkEntry {H : Type} : Lit × DataW H → Nat
  | (.string bytes, d) => bytes.length + uptoBulk d + 1
  | (_, d) => uptoBulk d + 1
 end
def uptoSmall : (H : Type) → List (DataW H) → Bool := fun _ ds => decide (uptoBulkAll ds ≤ 1048576)
def OpenSpec.upto (s : _root_.Go.ChangeSpec) : _root_.Go.OpenSpec := { _root_.Go.OpenSpec.ofChange s with cond := some uptoSmall }

/-- 'recensionlaw04.DiffMakes', WHERE WHAT IT READS IS OF BULK AT MOST 1048576: true; the input reads as it did. -/
def diffMakesUptoRow : OpenClaim := { program := "ytakkjehmekekbaa", sum := "bf02bd941e1a09366dc20761d454cdc99f9e8e05af1859668f6fa39dd6aa365b", func := "recension/recensionlaw04.DiffMakes", spec := "diffMakes", unfollowed := true, recurses := true, apart := false, narrowed := true }
def DiffMakesUptoSaid : Prop := diffMakesUptoRow.holds Try.pinned (OpenSpec.upto diffMakesSpec)

/-- 'recensionlaw04.DiffApplies', WHERE WHAT IT READS IS OF BULK AT MOST 1048576: true; the input reads as it did. -/
def diffAppliesUptoRow : OpenClaim := { program := "ytakkjehmekekbaa", sum := "bf02bd941e1a09366dc20761d454cdc99f9e8e05af1859668f6fa39dd6aa365b", func := "recension/recensionlaw04.DiffApplies", spec := "diffApplies", unfollowed := true, recurses := true, apart := false, narrowed := true }
def DiffAppliesUptoSaid : Prop := diffAppliesUptoRow.holds Try.pinned (OpenSpec.upto diffAppliesSpec)

/-- 'recensionlaw04.DiffCosts', WHERE WHAT IT READS IS OF BULK AT MOST 1048576: true; the input reads as it did. -/
def diffCostsUptoRow : OpenClaim := { program := "ytakkjehmekekbaa", sum := "bf02bd941e1a09366dc20761d454cdc99f9e8e05af1859668f6fa39dd6aa365b", func := "recension/recensionlaw04.DiffCosts", spec := "diffCosts", unfollowed := true, recurses := true, apart := false, narrowed := true }
def DiffCostsUptoSaid : Prop := diffCostsUptoRow.holds Try.pinned (OpenSpec.upto diffCostsSpec)

/-- 'recensionlaw04.DiffLands', WHERE WHAT IT READS IS OF BULK AT MOST 1048576: true; the input reads as it did. -/
def diffLandsUptoRow : OpenClaim := { program := "ytakkjehmekekbaa", sum := "bf02bd941e1a09366dc20761d454cdc99f9e8e05af1859668f6fa39dd6aa365b", func := "recension/recensionlaw04.DiffLands", spec := "diffLands", unfollowed := true, recurses := true, apart := false, narrowed := true }
def DiffLandsUptoSaid : Prop := diffLandsUptoRow.holds Try.pinned (OpenSpec.upto diffLandsSpec)

/-- 'recensionlaw04.DiffLeast', WHERE WHAT IT READS IS OF BULK AT MOST 1048576: true; the input reads as it did. -/
def diffLeastUptoRow : OpenClaim := { program := "ytakkjehmekekbaa", sum := "bf02bd941e1a09366dc20761d454cdc99f9e8e05af1859668f6fa39dd6aa365b", func := "recension/recensionlaw04.DiffLeast", spec := "diffLeast", unfollowed := true, recurses := true, apart := false, narrowed := true }
def DiffLeastUptoSaid : Prop := diffLeastUptoRow.holds Try.pinned (OpenSpec.upto diffLeastSpec)

/-- 'recensionlaw04.DiffMetric', WHERE WHAT IT READS IS OF BULK AT MOST 1048576: true; the input reads as it did. -/
def diffMetricUptoRow : OpenClaim := { program := "ytakkjehmekekbaa", sum := "bf02bd941e1a09366dc20761d454cdc99f9e8e05af1859668f6fa39dd6aa365b", func := "recension/recensionlaw04.DiffMetric", spec := "diffMetric", unfollowed := true, recurses := true, apart := false, narrowed := true }
def DiffMetricUptoSaid : Prop := diffMetricUptoRow.holds Try.pinned (OpenSpec.upto diffMetricSpec)

/-- 'recensionlaw04.DiffAround', WHERE WHAT IT READS IS OF BULK AT MOST 1048576: true; the input reads as it did. -/
def diffAroundUptoRow : OpenClaim := { program := "ytakkjehmekekbaa", sum := "bf02bd941e1a09366dc20761d454cdc99f9e8e05af1859668f6fa39dd6aa365b", func := "recension/recensionlaw04.DiffAround", spec := "diffAround", unfollowed := true, recurses := true, apart := false, narrowed := true }
def DiffAroundUptoSaid : Prop := diffAroundUptoRow.holds Try.pinned (OpenSpec.upto diffAroundSpec)

/-- 'recensionlaw04.DiffInverts', WHERE WHAT IT READS IS OF BULK AT MOST 1048576: true; the input reads as it did. -/
def diffInvertsUptoRow : OpenClaim := { program := "ytakkjehmekekbaa", sum := "bf02bd941e1a09366dc20761d454cdc99f9e8e05af1859668f6fa39dd6aa365b", func := "recension/recensionlaw04.DiffInverts", spec := "diffInverts", unfollowed := true, recurses := true, apart := false, narrowed := true }
def DiffInvertsUptoSaid : Prop := diffInvertsUptoRow.holds Try.pinned (OpenSpec.upto diffInvertsSpec)

/-- 'recensionlaw04.DiffReturns', WHERE WHAT IT READS IS OF BULK AT MOST 1048576: true; the input reads as it did. -/
def diffReturnsUptoRow : OpenClaim := { program := "ytakkjehmekekbaa", sum := "bf02bd941e1a09366dc20761d454cdc99f9e8e05af1859668f6fa39dd6aa365b", func := "recension/recensionlaw04.DiffReturns", spec := "diffReturns", unfollowed := true, recurses := true, apart := false, narrowed := true }
def DiffReturnsUptoSaid : Prop := diffReturnsUptoRow.holds Try.pinned (OpenSpec.upto diffReturnsSpec)

end Rows
end Go.Proofs.Ytakkjehmekekbaa
