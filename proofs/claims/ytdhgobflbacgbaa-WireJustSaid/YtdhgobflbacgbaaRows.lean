/-
  No cell of these rows narrows 'for every input' (looked for: loops, veiled, ifaces, maps, wideKeys, modest, calm, conditions, laid).
  DERIVED. THE GIVEN ROWS OF THIS SEAT. 15 by the template 'for every input the law returns true; each argument reads behind the call as it read before'; 0 by the template 'total and deterministic' (their statements: YtdhgobflbacgbaaTotals.lean).
  GIVEN WITH THE SEED: the statements are not yours to turn. If you find one false, say at which input.
  Laid BY PROGRAM, IN A SANDBOX (cutbox-rows.mjs): the forced cells as the released guide's own fill.sh prints them over the translation 38d537dbaa66c1c0… (all of the seat's roots in one cut). By AI agents, Wed Nov 11 2026. No macro, syntax, notation, axiom, sorry.
-/
import Derived.Test.YtdhgobflbacgbaaChecked
import GoSem.Claim
import GoSem.ClaimJoined
import GoSem.ClaimMapViews
import Derived.JoinedTies
import Derived.KernelRfl
namespace Go.Proofs.Ytdhgobflbacgbaa
/- THE CELL 'sum', in the pinned program and in every row, IS THE sha256 OF THE DUMP (.gsa) THAT YtdhgobflbacgbaaProg.lean LOADS. Nothing in Lean hashes anything: it is a label: what it is worth is what the hold of that sum in a sandbox is worth. -/
noncomputable def Try.pinned : Pinned := { name := "ytdhgobflbacgbaa", sum := "38d537dbaa66c1c04868994c17888f953006345113b98820ee8c9d3a0c8c9f33", checked := Try.checked }
namespace Rows
def none {H : Type} : Left H := { results := [], args := [] }

/-- 'recensionlaw02.WireReads': WHATEVER THE INPUT: true; the input reads as it did. -/
def wireReadsSpec : ChangeSpec := { name := "wireReads", fn := fun _ => fun
  | [d1, d2] => { results := [.lit (.bool true)], args := [d1, d2] }
  | _ => none }
def wireReadsRow : OpenClaim := { program := "ytdhgobflbacgbaa", sum := "38d537dbaa66c1c04868994c17888f953006345113b98820ee8c9d3a0c8c9f33", func := "recension/recensionlaw02.WireReads", spec := "wireReads", apart := false }
def WireReadsSaid : Prop := wireReadsRow.holds Try.pinned (OpenSpec.ofChange wireReadsSpec)

/-- ITS FALSE NEIGHBOUR: 'it returns false'. Refute it at one input. -/
def wireReadsWrong : ChangeSpec := { name := "wireReads", fn := fun _ => fun
  | [d1, d2] => { results := [.lit (.bool false)], args := [d1, d2] }
  | _ => none }
def WireReadsWrongFalsely : Prop := wireReadsRow.holds Try.pinned (OpenSpec.ofChange wireReadsWrong)

/-- 'recensionlaw02.WireNums': WHATEVER THE INPUT: true; the input reads as it did. -/
def wireNumsSpec : ChangeSpec := { name := "wireNums", fn := fun _ => fun
  | [d] => { results := [.lit (.bool true)], args := [d] }
  | _ => none }
def wireNumsRow : OpenClaim := { program := "ytdhgobflbacgbaa", sum := "38d537dbaa66c1c04868994c17888f953006345113b98820ee8c9d3a0c8c9f33", func := "recension/recensionlaw02.WireNums", spec := "wireNums", recurses := true, apart := false }
def WireNumsSaid : Prop := wireNumsRow.holds Try.pinned (OpenSpec.ofChange wireNumsSpec)

/-- ITS FALSE NEIGHBOUR: 'it returns false'. Refute it at one input. -/
def wireNumsWrong : ChangeSpec := { name := "wireNums", fn := fun _ => fun
  | [d] => { results := [.lit (.bool false)], args := [d] }
  | _ => none }
def WireNumsWrongFalsely : Prop := wireNumsRow.holds Try.pinned (OpenSpec.ofChange wireNumsWrong)

/-- 'recensionlaw02.WireGrows': WHATEVER THE INPUT: true; the input reads as it did. -/
def wireGrowsSpec : ChangeSpec := { name := "wireGrows", fn := fun _ => fun
  | [d1, d2] => { results := [.lit (.bool true)], args := [d1, d2] }
  | _ => none }
def wireGrowsRow : OpenClaim := { program := "ytdhgobflbacgbaa", sum := "38d537dbaa66c1c04868994c17888f953006345113b98820ee8c9d3a0c8c9f33", func := "recension/recensionlaw02.WireGrows", spec := "wireGrows", apart := false }
def WireGrowsSaid : Prop := wireGrowsRow.holds Try.pinned (OpenSpec.ofChange wireGrowsSpec)

/-- ITS FALSE NEIGHBOUR: 'it returns false'. Refute it at one input. -/
def wireGrowsWrong : ChangeSpec := { name := "wireGrows", fn := fun _ => fun
  | [d1, d2] => { results := [.lit (.bool false)], args := [d1, d2] }
  | _ => none }
def WireGrowsWrongFalsely : Prop := wireGrowsRow.holds Try.pinned (OpenSpec.ofChange wireGrowsWrong)

/-- 'recensionlaw02.WireTexts': WHATEVER THE INPUT: true; the input reads as it did. -/
def wireTextsSpec : ChangeSpec := { name := "wireTexts", fn := fun _ => fun
  | [d1, d2, d3] => { results := [.lit (.bool true)], args := [d1, d2, d3] }
  | _ => none }
def wireTextsRow : OpenClaim := { program := "ytdhgobflbacgbaa", sum := "38d537dbaa66c1c04868994c17888f953006345113b98820ee8c9d3a0c8c9f33", func := "recension/recensionlaw02.WireTexts", spec := "wireTexts", recurses := true, apart := false }
def WireTextsSaid : Prop := wireTextsRow.holds Try.pinned (OpenSpec.ofChange wireTextsSpec)

/-- ITS FALSE NEIGHBOUR: 'it returns false'. Refute it at one input. -/
def wireTextsWrong : ChangeSpec := { name := "wireTexts", fn := fun _ => fun
  | [d1, d2, d3] => { results := [.lit (.bool false)], args := [d1, d2, d3] }
  | _ => none }
def WireTextsWrongFalsely : Prop := wireTextsRow.holds Try.pinned (OpenSpec.ofChange wireTextsWrong)

/-- 'recensionlaw02.WireLists': WHATEVER THE INPUT: true; the input reads as it did. -/
def wireListsSpec : ChangeSpec := { name := "wireLists", fn := fun _ => fun
  | [d1, d2, d3] => { results := [.lit (.bool true)], args := [d1, d2, d3] }
  | _ => none }
def wireListsRow : OpenClaim := { program := "ytdhgobflbacgbaa", sum := "38d537dbaa66c1c04868994c17888f953006345113b98820ee8c9d3a0c8c9f33", func := "recension/recensionlaw02.WireLists", spec := "wireLists", recurses := true, apart := false }
def WireListsSaid : Prop := wireListsRow.holds Try.pinned (OpenSpec.ofChange wireListsSpec)

/-- ITS FALSE NEIGHBOUR: 'it returns false'. Refute it at one input. -/
def wireListsWrong : ChangeSpec := { name := "wireLists", fn := fun _ => fun
  | [d1, d2, d3] => { results := [.lit (.bool false)], args := [d1, d2, d3] }
  | _ => none }
def WireListsWrongFalsely : Prop := wireListsRow.holds Try.pinned (OpenSpec.ofChange wireListsWrong)

/-- 'recensionlaw02.WireHeads': WHATEVER THE INPUT: true; the input reads as it did. -/
def wireHeadsSpec : ChangeSpec := { name := "wireHeads", fn := fun _ => fun
  | [d1, d2, d3] => { results := [.lit (.bool true)], args := [d1, d2, d3] }
  | _ => none }
def wireHeadsRow : OpenClaim := { program := "ytdhgobflbacgbaa", sum := "38d537dbaa66c1c04868994c17888f953006345113b98820ee8c9d3a0c8c9f33", func := "recension/recensionlaw02.WireHeads", spec := "wireHeads", apart := false }
def WireHeadsSaid : Prop := wireHeadsRow.holds Try.pinned (OpenSpec.ofChange wireHeadsSpec)

/-- ITS FALSE NEIGHBOUR: 'it returns false'. Refute it at one input. -/
def wireHeadsWrong : ChangeSpec := { name := "wireHeads", fn := fun _ => fun
  | [d1, d2, d3] => { results := [.lit (.bool false)], args := [d1, d2, d3] }
  | _ => none }
def WireHeadsWrongFalsely : Prop := wireHeadsRow.holds Try.pinned (OpenSpec.ofChange wireHeadsWrong)

/-- 'recensionlaw05.DeltaHeads': WHATEVER THE INPUT: true; the input reads as it did. -/
def deltaHeadsSpec : ChangeSpec := { name := "deltaHeads", fn := fun _ => fun
  | [d1, d2, d3] => { results := [.lit (.bool true)], args := [d1, d2, d3] }
  | _ => none }
def deltaHeadsRow : OpenClaim := { program := "ytdhgobflbacgbaa", sum := "38d537dbaa66c1c04868994c17888f953006345113b98820ee8c9d3a0c8c9f33", func := "recension/recensionlaw05.DeltaHeads", spec := "deltaHeads", unfollowed := true, recurses := true, apart := false }
def DeltaHeadsSaid : Prop := deltaHeadsRow.holds Try.pinned (OpenSpec.ofChange deltaHeadsSpec)

/-- ITS FALSE NEIGHBOUR: 'it returns false'. Refute it at one input. -/
def deltaHeadsWrong : ChangeSpec := { name := "deltaHeads", fn := fun _ => fun
  | [d1, d2, d3] => { results := [.lit (.bool false)], args := [d1, d2, d3] }
  | _ => none }
def DeltaHeadsWrongFalsely : Prop := deltaHeadsRow.holds Try.pinned (OpenSpec.ofChange deltaHeadsWrong)

/-- 'recensionlaw02.WireBack': WHATEVER THE INPUT: true; the input reads as it did. -/
def wireBackSpec : ChangeSpec := { name := "wireBack", fn := fun _ => fun
  | [d1, d2, d3] => { results := [.lit (.bool true)], args := [d1, d2, d3] }
  | _ => none }
def wireBackRow : OpenClaim := { program := "ytdhgobflbacgbaa", sum := "38d537dbaa66c1c04868994c17888f953006345113b98820ee8c9d3a0c8c9f33", func := "recension/recensionlaw02.WireBack", spec := "wireBack", apart := false }
def WireBackSaid : Prop := wireBackRow.holds Try.pinned (OpenSpec.ofChange wireBackSpec)

/-- ITS FALSE NEIGHBOUR: 'it returns false'. Refute it at one input. -/
def wireBackWrong : ChangeSpec := { name := "wireBack", fn := fun _ => fun
  | [d1, d2, d3] => { results := [.lit (.bool false)], args := [d1, d2, d3] }
  | _ => none }
def WireBackWrongFalsely : Prop := wireBackRow.holds Try.pinned (OpenSpec.ofChange wireBackWrong)

/-- 'recensionlaw02.WireJust': WHATEVER THE INPUT: true; the input reads as it did. -/
def wireJustSpec : ChangeSpec := { name := "wireJust", fn := fun _ => fun
  | [d1, d2] => { results := [.lit (.bool true)], args := [d1, d2] }
  | _ => none }
def wireJustRow : OpenClaim := { program := "ytdhgobflbacgbaa", sum := "38d537dbaa66c1c04868994c17888f953006345113b98820ee8c9d3a0c8c9f33", func := "recension/recensionlaw02.WireJust", spec := "wireJust", apart := false }
def WireJustSaid : Prop := wireJustRow.holds Try.pinned (OpenSpec.ofChange wireJustSpec)

/-- ITS FALSE NEIGHBOUR: 'it returns false'. Refute it at one input. -/
def wireJustWrong : ChangeSpec := { name := "wireJust", fn := fun _ => fun
  | [d1, d2] => { results := [.lit (.bool false)], args := [d1, d2] }
  | _ => none }
def WireJustWrongFalsely : Prop := wireJustRow.holds Try.pinned (OpenSpec.ofChange wireJustWrong)

/-- 'recensionlaw05.DeltaOther': WHATEVER THE INPUT: true; the input reads as it did. -/
def deltaOtherSpec : ChangeSpec := { name := "deltaOther", fn := fun _ => fun
  | [d1, d2, d3] => { results := [.lit (.bool true)], args := [d1, d2, d3] }
  | _ => none }
def deltaOtherRow : OpenClaim := { program := "ytdhgobflbacgbaa", sum := "38d537dbaa66c1c04868994c17888f953006345113b98820ee8c9d3a0c8c9f33", func := "recension/recensionlaw05.DeltaOther", spec := "deltaOther", unfollowed := true, recurses := true, apart := false }
def DeltaOtherSaid : Prop := deltaOtherRow.holds Try.pinned (OpenSpec.ofChange deltaOtherSpec)

/-- ITS FALSE NEIGHBOUR: 'it returns false'. Refute it at one input. -/
def deltaOtherWrong : ChangeSpec := { name := "deltaOther", fn := fun _ => fun
  | [d1, d2, d3] => { results := [.lit (.bool false)], args := [d1, d2, d3] }
  | _ => none }
def DeltaOtherWrongFalsely : Prop := deltaOtherRow.holds Try.pinned (OpenSpec.ofChange deltaOtherWrong)

/-- 'recensionlaw05.DeltaMakes': WHATEVER THE INPUT: true; the input reads as it did. -/
def deltaMakesSpec : ChangeSpec := { name := "deltaMakes", fn := fun _ => fun
  | [d1, d2] => { results := [.lit (.bool true)], args := [d1, d2] }
  | _ => none }
def deltaMakesRow : OpenClaim := { program := "ytdhgobflbacgbaa", sum := "38d537dbaa66c1c04868994c17888f953006345113b98820ee8c9d3a0c8c9f33", func := "recension/recensionlaw05.DeltaMakes", spec := "deltaMakes", unfollowed := true, recurses := true, apart := false }
def DeltaMakesSaid : Prop := deltaMakesRow.holds Try.pinned (OpenSpec.ofChange deltaMakesSpec)

/-- ITS FALSE NEIGHBOUR: 'it returns false'. Refute it at one input. -/
def deltaMakesWrong : ChangeSpec := { name := "deltaMakes", fn := fun _ => fun
  | [d1, d2] => { results := [.lit (.bool false)], args := [d1, d2] }
  | _ => none }
def DeltaMakesWrongFalsely : Prop := deltaMakesRow.holds Try.pinned (OpenSpec.ofChange deltaMakesWrong)

/-- 'recensionlaw05.DeltaApplies': WHATEVER THE INPUT: true; the input reads as it did. -/
def deltaAppliesSpec : ChangeSpec := { name := "deltaApplies", fn := fun _ => fun
  | [d1, d2] => { results := [.lit (.bool true)], args := [d1, d2] }
  | _ => none }
def deltaAppliesRow : OpenClaim := { program := "ytdhgobflbacgbaa", sum := "38d537dbaa66c1c04868994c17888f953006345113b98820ee8c9d3a0c8c9f33", func := "recension/recensionlaw05.DeltaApplies", spec := "deltaApplies", unfollowed := true, recurses := true, apart := false }
def DeltaAppliesSaid : Prop := deltaAppliesRow.holds Try.pinned (OpenSpec.ofChange deltaAppliesSpec)

/-- ITS FALSE NEIGHBOUR: 'it returns false'. Refute it at one input. -/
def deltaAppliesWrong : ChangeSpec := { name := "deltaApplies", fn := fun _ => fun
  | [d1, d2] => { results := [.lit (.bool false)], args := [d1, d2] }
  | _ => none }
def DeltaAppliesWrongFalsely : Prop := deltaAppliesRow.holds Try.pinned (OpenSpec.ofChange deltaAppliesWrong)

/-- 'recensionlaw05.DeltaBack': WHATEVER THE INPUT: true; the input reads as it did. -/
def deltaBackSpec : ChangeSpec := { name := "deltaBack", fn := fun _ => fun
  | [d1, d2] => { results := [.lit (.bool true)], args := [d1, d2] }
  | _ => none }
def deltaBackRow : OpenClaim := { program := "ytdhgobflbacgbaa", sum := "38d537dbaa66c1c04868994c17888f953006345113b98820ee8c9d3a0c8c9f33", func := "recension/recensionlaw05.DeltaBack", spec := "deltaBack", unfollowed := true, recurses := true, apart := false }
def DeltaBackSaid : Prop := deltaBackRow.holds Try.pinned (OpenSpec.ofChange deltaBackSpec)

/-- ITS FALSE NEIGHBOUR: 'it returns false'. Refute it at one input. -/
def deltaBackWrong : ChangeSpec := { name := "deltaBack", fn := fun _ => fun
  | [d1, d2] => { results := [.lit (.bool false)], args := [d1, d2] }
  | _ => none }
def DeltaBackWrongFalsely : Prop := deltaBackRow.holds Try.pinned (OpenSpec.ofChange deltaBackWrong)

/-- 'recensionlaw05.DeltaShort': WHATEVER THE INPUT: true; the input reads as it did. -/
def deltaShortSpec : ChangeSpec := { name := "deltaShort", fn := fun _ => fun
  | [d1, d2] => { results := [.lit (.bool true)], args := [d1, d2] }
  | _ => none }
def deltaShortRow : OpenClaim := { program := "ytdhgobflbacgbaa", sum := "38d537dbaa66c1c04868994c17888f953006345113b98820ee8c9d3a0c8c9f33", func := "recension/recensionlaw05.DeltaShort", spec := "deltaShort", unfollowed := true, recurses := true, apart := false }
def DeltaShortSaid : Prop := deltaShortRow.holds Try.pinned (OpenSpec.ofChange deltaShortSpec)

/-- ITS FALSE NEIGHBOUR: 'it returns false'. Refute it at one input. -/
def deltaShortWrong : ChangeSpec := { name := "deltaShort", fn := fun _ => fun
  | [d1, d2] => { results := [.lit (.bool false)], args := [d1, d2] }
  | _ => none }
def DeltaShortWrongFalsely : Prop := deltaShortRow.holds Try.pinned (OpenSpec.ofChange deltaShortWrong)

/-- 'recensionlaw05.DeltaParts': WHATEVER THE INPUT: true; the input reads as it did. -/
def deltaPartsSpec : ChangeSpec := { name := "deltaParts", fn := fun _ => fun
  | [d1, d2, d3] => { results := [.lit (.bool true)], args := [d1, d2, d3] }
  | _ => none }
def deltaPartsRow : OpenClaim := { program := "ytdhgobflbacgbaa", sum := "38d537dbaa66c1c04868994c17888f953006345113b98820ee8c9d3a0c8c9f33", func := "recension/recensionlaw05.DeltaParts", spec := "deltaParts", unfollowed := true, recurses := true, apart := false }
def DeltaPartsSaid : Prop := deltaPartsRow.holds Try.pinned (OpenSpec.ofChange deltaPartsSpec)

/-- ITS FALSE NEIGHBOUR: 'it returns false'. Refute it at one input. -/
def deltaPartsWrong : ChangeSpec := { name := "deltaParts", fn := fun _ => fun
  | [d1, d2, d3] => { results := [.lit (.bool false)], args := [d1, d2, d3] }
  | _ => none }
def DeltaPartsWrongFalsely : Prop := deltaPartsRow.holds Try.pinned (OpenSpec.ofChange deltaPartsWrong)

/- THE SECOND FORM. 'bulk': how many values and letters a reading holds, each counted each time it is reached (what is shared counts as often as it is met; a slice's spare places count too). A statement '..UptoSaid' is the law's where the arguments, and the package variables that the reading takes, are together of bulk at most 1048576: NARROWER than '..Said'. Prove '..Said' where nothing that the law and all that it calls make is longer than what came in: it says more and counts as full. Else prove '..UptoSaid'. A law counts once. -/
mutual
def uptoBulk {H : Type} : DataW H → Nat
  | .lit (.string bytes) => bytes.length + 1
  | .lit _ => 1
  | .nil => 1
  | .ptr d => uptoBulk d + 1
  | .slice elems spare => uptoBulkAll elems + uptoBulkAll spare + 1
  | .agg parts => uptoBulkAll parts + 1
  | .iface _ d => uptoBulk d + 1
  | .map entries => uptoBulkEntries entries + 1
  | .held _ => 1
def uptoBulkAll {H : Type} : List (DataW H) → Nat
  | [] => 0
  | d :: r => uptoBulk d + uptoBulkAll r
def uptoBulkEntries {H : Type} : List (Lit × DataW H) → Nat
  | [] => 0
  | x :: r => uptoBulkEntry x + uptoBulkEntries r
def uptoBulkEntry {H : Type} : Lit × DataW H → Nat
  | (.string bytes, d) => bytes.length + uptoBulk d + 1
  | (_, d) => uptoBulk d + 1
 end
def uptoSmall : (H : Type) → List (DataW H) → Bool := fun _ ds => decide (uptoBulkAll ds ≤ 1048576)
def OpenSpec.upto (s : _root_.Go.ChangeSpec) : _root_.Go.OpenSpec := { _root_.Go.OpenSpec.ofChange s with cond := some uptoSmall }

/-- 'recensionlaw02.WireReads', WHERE WHAT IT READS IS OF BULK AT MOST 1048576: true; the input reads as it did. -/
def wireReadsUptoRow : OpenClaim := { program := "ytdhgobflbacgbaa", sum := "38d537dbaa66c1c04868994c17888f953006345113b98820ee8c9d3a0c8c9f33", func := "recension/recensionlaw02.WireReads", spec := "wireReads", apart := false, narrowed := true }
def WireReadsUptoSaid : Prop := wireReadsUptoRow.holds Try.pinned (OpenSpec.upto wireReadsSpec)

/-- 'recensionlaw02.WireNums', WHERE WHAT IT READS IS OF BULK AT MOST 1048576: true; the input reads as it did. -/
def wireNumsUptoRow : OpenClaim := { program := "ytdhgobflbacgbaa", sum := "38d537dbaa66c1c04868994c17888f953006345113b98820ee8c9d3a0c8c9f33", func := "recension/recensionlaw02.WireNums", spec := "wireNums", recurses := true, apart := false, narrowed := true }
def WireNumsUptoSaid : Prop := wireNumsUptoRow.holds Try.pinned (OpenSpec.upto wireNumsSpec)

/-- 'recensionlaw02.WireGrows', WHERE WHAT IT READS IS OF BULK AT MOST 1048576: true; the input reads as it did. -/
def wireGrowsUptoRow : OpenClaim := { program := "ytdhgobflbacgbaa", sum := "38d537dbaa66c1c04868994c17888f953006345113b98820ee8c9d3a0c8c9f33", func := "recension/recensionlaw02.WireGrows", spec := "wireGrows", apart := false, narrowed := true }
def WireGrowsUptoSaid : Prop := wireGrowsUptoRow.holds Try.pinned (OpenSpec.upto wireGrowsSpec)

/-- 'recensionlaw02.WireTexts', WHERE WHAT IT READS IS OF BULK AT MOST 1048576: true; the input reads as it did. -/
def wireTextsUptoRow : OpenClaim := { program := "ytdhgobflbacgbaa", sum := "38d537dbaa66c1c04868994c17888f953006345113b98820ee8c9d3a0c8c9f33", func := "recension/recensionlaw02.WireTexts", spec := "wireTexts", recurses := true, apart := false, narrowed := true }
def WireTextsUptoSaid : Prop := wireTextsUptoRow.holds Try.pinned (OpenSpec.upto wireTextsSpec)

/-- 'recensionlaw02.WireLists', WHERE WHAT IT READS IS OF BULK AT MOST 1048576: true; the input reads as it did. -/
def wireListsUptoRow : OpenClaim := { program := "ytdhgobflbacgbaa", sum := "38d537dbaa66c1c04868994c17888f953006345113b98820ee8c9d3a0c8c9f33", func := "recension/recensionlaw02.WireLists", spec := "wireLists", recurses := true, apart := false, narrowed := true }
def WireListsUptoSaid : Prop := wireListsUptoRow.holds Try.pinned (OpenSpec.upto wireListsSpec)

/-- 'recensionlaw02.WireHeads', WHERE WHAT IT READS IS OF BULK AT MOST 1048576: true; the input reads as it did. -/
def wireHeadsUptoRow : OpenClaim := { program := "ytdhgobflbacgbaa", sum := "38d537dbaa66c1c04868994c17888f953006345113b98820ee8c9d3a0c8c9f33", func := "recension/recensionlaw02.WireHeads", spec := "wireHeads", apart := false, narrowed := true }
def WireHeadsUptoSaid : Prop := wireHeadsUptoRow.holds Try.pinned (OpenSpec.upto wireHeadsSpec)

/-- 'recensionlaw05.DeltaHeads', WHERE WHAT IT READS IS OF BULK AT MOST 1048576: true; the input reads as it did. -/
def deltaHeadsUptoRow : OpenClaim := { program := "ytdhgobflbacgbaa", sum := "38d537dbaa66c1c04868994c17888f953006345113b98820ee8c9d3a0c8c9f33", func := "recension/recensionlaw05.DeltaHeads", spec := "deltaHeads", unfollowed := true, recurses := true, apart := false, narrowed := true }
def DeltaHeadsUptoSaid : Prop := deltaHeadsUptoRow.holds Try.pinned (OpenSpec.upto deltaHeadsSpec)

/-- 'recensionlaw02.WireBack', WHERE WHAT IT READS IS OF BULK AT MOST 1048576: true; the input reads as it did. -/
def wireBackUptoRow : OpenClaim := { program := "ytdhgobflbacgbaa", sum := "38d537dbaa66c1c04868994c17888f953006345113b98820ee8c9d3a0c8c9f33", func := "recension/recensionlaw02.WireBack", spec := "wireBack", apart := false, narrowed := true }
def WireBackUptoSaid : Prop := wireBackUptoRow.holds Try.pinned (OpenSpec.upto wireBackSpec)

/-- 'recensionlaw02.WireJust', WHERE WHAT IT READS IS OF BULK AT MOST 1048576: true; the input reads as it did. -/
def wireJustUptoRow : OpenClaim := { program := "ytdhgobflbacgbaa", sum := "38d537dbaa66c1c04868994c17888f953006345113b98820ee8c9d3a0c8c9f33", func := "recension/recensionlaw02.WireJust", spec := "wireJust", apart := false, narrowed := true }
def WireJustUptoSaid : Prop := wireJustUptoRow.holds Try.pinned (OpenSpec.upto wireJustSpec)

/-- 'recensionlaw05.DeltaOther', WHERE WHAT IT READS IS OF BULK AT MOST 1048576: true; the input reads as it did. -/
def deltaOtherUptoRow : OpenClaim := { program := "ytdhgobflbacgbaa", sum := "38d537dbaa66c1c04868994c17888f953006345113b98820ee8c9d3a0c8c9f33", func := "recension/recensionlaw05.DeltaOther", spec := "deltaOther", unfollowed := true, recurses := true, apart := false, narrowed := true }
def DeltaOtherUptoSaid : Prop := deltaOtherUptoRow.holds Try.pinned (OpenSpec.upto deltaOtherSpec)

/-- 'recensionlaw05.DeltaMakes', WHERE WHAT IT READS IS OF BULK AT MOST 1048576: true; the input reads as it did. -/
def deltaMakesUptoRow : OpenClaim := { program := "ytdhgobflbacgbaa", sum := "38d537dbaa66c1c04868994c17888f953006345113b98820ee8c9d3a0c8c9f33", func := "recension/recensionlaw05.DeltaMakes", spec := "deltaMakes", unfollowed := true, recurses := true, apart := false, narrowed := true }
def DeltaMakesUptoSaid : Prop := deltaMakesUptoRow.holds Try.pinned (OpenSpec.upto deltaMakesSpec)

/-- 'recensionlaw05.DeltaApplies', WHERE WHAT IT READS IS OF BULK AT MOST 1048576: true; the input reads as it did. -/
def deltaAppliesUptoRow : OpenClaim := { program := "ytdhgobflbacgbaa", sum := "38d537dbaa66c1c04868994c17888f953006345113b98820ee8c9d3a0c8c9f33", func := "recension/recensionlaw05.DeltaApplies", spec := "deltaApplies", unfollowed := true, recurses := true, apart := false, narrowed := true }
def DeltaAppliesUptoSaid : Prop := deltaAppliesUptoRow.holds Try.pinned (OpenSpec.upto deltaAppliesSpec)

/-- 'recensionlaw05.DeltaBack', WHERE WHAT IT READS IS OF BULK AT MOST 1048576: true; the input reads as it did. -/
def deltaBackUptoRow : OpenClaim := { program := "ytdhgobflbacgbaa", sum := "38d537dbaa66c1c04868994c17888f953006345113b98820ee8c9d3a0c8c9f33", func := "recension/recensionlaw05.DeltaBack", spec := "deltaBack", unfollowed := true, recurses := true, apart := false, narrowed := true }
def DeltaBackUptoSaid : Prop := deltaBackUptoRow.holds Try.pinned (OpenSpec.upto deltaBackSpec)

/-- 'recensionlaw05.DeltaShort', WHERE WHAT IT READS IS OF BULK AT MOST 1048576: true; the input reads as it did. -/
def deltaShortUptoRow : OpenClaim := { program := "ytdhgobflbacgbaa", sum := "38d537dbaa66c1c04868994c17888f953006345113b98820ee8c9d3a0c8c9f33", func := "recension/recensionlaw05.DeltaShort", spec := "deltaShort", unfollowed := true, recurses := true, apart := false, narrowed := true }
def DeltaShortUptoSaid : Prop := deltaShortUptoRow.holds Try.pinned (OpenSpec.upto deltaShortSpec)

/-- 'recensionlaw05.DeltaParts', WHERE WHAT IT READS IS OF BULK AT MOST 1048576: true; the input reads as it did. -/
def deltaPartsUptoRow : OpenClaim := { program := "ytdhgobflbacgbaa", sum := "38d537dbaa66c1c04868994c17888f953006345113b98820ee8c9d3a0c8c9f33", func := "recension/recensionlaw05.DeltaParts", spec := "deltaParts", unfollowed := true, recurses := true, apart := false, narrowed := true }
def DeltaPartsUptoSaid : Prop := deltaPartsUptoRow.holds Try.pinned (OpenSpec.upto deltaPartsSpec)

end Rows
end Go.Proofs.Ytdhgobflbacgbaa
