/-
  No cell of these rows narrows 'for every input' (looked for: loops, veiled, ifaces, maps, wideKeys, modest, calm, conditions, laid).
  DERIVED. THE GIVEN ROWS OF THIS SEAT. 8 by the template 'for every input the law returns true; each argument reads behind the call as it read before'; 0 by the template 'total and deterministic' (their statements: YtnncipcldbopgaaTotals.lean).
  GIVEN WITH THE SEED: the statements are not yours to turn. If you find one false, say at which input.
  Laid BY PROGRAM, IN A SANDBOX (cutbox-rows.mjs): the forced cells as the released guide's own fill.sh prints them over the translation 5778129e5662a5b2… (all of the seat's roots in one cut). By AI agents, Wed Nov 11 2026. No macro, syntax, notation, axiom, sorry.
-/
import Derived.Test.YtnncipcldbopgaaChecked
import GoSem.Claim
import GoSem.ClaimJoined
import GoSem.ClaimMapViews
import Derived.JoinedTies
import Derived.KernelRfl
namespace Go.Proofs.Ytnncipcldbopgaa
/- THE CELL 'sum', in the pinned program and in every row, IS THE sha256 OF THE DUMP (.gsa) THAT YtnncipcldbopgaaProg.lean LOADS. Nothing in Lean hashes anything: it is a label: what it is worth is what the hold of that sum in a sandbox is worth. -/
noncomputable def Try.pinned : Pinned := { name := "ytnncipcldbopgaa", sum := "5778129e5662a5b2642ddbb89cfec0dd6e2e43a1aea081d1b7a7a2ae8a91907b", checked := Try.checked }
namespace Rows
def none {H : Type} : Left H := { results := [], args := [] }

/-- 'laws.FnFringesOfSets': WHATEVER THE INPUT: true; the input reads as it did. -/
def fnFringesOfSetsSpec : ChangeSpec := { name := "fnFringesOfSets", fn := fun _ => fun
  | [d1, d2] => { results := [.lit (.bool true)], args := [d1, d2] }
  | _ => none }
def fnFringesOfSetsRow : OpenClaim := { program := "ytnncipcldbopgaa", sum := "5778129e5662a5b2642ddbb89cfec0dd6e2e43a1aea081d1b7a7a2ae8a91907b", func := "loop.example/g01137/laws.FnFringesOfSets", spec := "fnFringesOfSets", plainKeys := false, apart := false }
def FnFringesOfSetsSaid : Prop := fnFringesOfSetsRow.holds Try.pinned (OpenSpec.ofChange fnFringesOfSetsSpec)

/-- ITS FALSE NEIGHBOUR: 'it returns false'. Refute it at one input. -/
def fnFringesOfSetsWrong : ChangeSpec := { name := "fnFringesOfSets", fn := fun _ => fun
  | [d1, d2] => { results := [.lit (.bool false)], args := [d1, d2] }
  | _ => none }
def FnFringesOfSetsWrongFalsely : Prop := fnFringesOfSetsRow.holds Try.pinned (OpenSpec.ofChange fnFringesOfSetsWrong)

/-- 'laws.FnAllSpacesCounted': WHATEVER THE INPUT: true; the input reads as it did. -/
def fnAllSpacesCountedSpec : ChangeSpec := { name := "fnAllSpacesCounted", fn := fun _ => fun
  | [d1, d2] => { results := [.lit (.bool true)], args := [d1, d2] }
  | _ => none }
def fnAllSpacesCountedRow : OpenClaim := { program := "ytnncipcldbopgaa", sum := "5778129e5662a5b2642ddbb89cfec0dd6e2e43a1aea081d1b7a7a2ae8a91907b", func := "loop.example/g01137/laws.FnAllSpacesCounted", spec := "fnAllSpacesCounted", unfollowed := true, recurses := true, plainKeys := false, apart := false }
def FnAllSpacesCountedSaid : Prop := fnAllSpacesCountedRow.holds Try.pinned (OpenSpec.ofChange fnAllSpacesCountedSpec)

/-- ITS FALSE NEIGHBOUR: 'it returns false'. Refute it at one input. -/
def fnAllSpacesCountedWrong : ChangeSpec := { name := "fnAllSpacesCounted", fn := fun _ => fun
  | [d1, d2] => { results := [.lit (.bool false)], args := [d1, d2] }
  | _ => none }
def FnAllSpacesCountedWrongFalsely : Prop := fnAllSpacesCountedRow.holds Try.pinned (OpenSpec.ofChange fnAllSpacesCountedWrong)

/-- 'laws.FnBestQuestions': WHATEVER THE INPUT: true; the input reads as it did. -/
def fnBestQuestionsSpec : ChangeSpec := { name := "fnBestQuestions", fn := fun _ => fun
  | [d1, d2] => { results := [.lit (.bool true)], args := [d1, d2] }
  | _ => none }
def fnBestQuestionsRow : OpenClaim := { program := "ytnncipcldbopgaa", sum := "5778129e5662a5b2642ddbb89cfec0dd6e2e43a1aea081d1b7a7a2ae8a91907b", func := "loop.example/g01137/laws.FnBestQuestions", spec := "fnBestQuestions", unfollowed := true, recurses := true, plainKeys := false, apart := false }
def FnBestQuestionsSaid : Prop := fnBestQuestionsRow.holds Try.pinned (OpenSpec.ofChange fnBestQuestionsSpec)

/-- ITS FALSE NEIGHBOUR: 'it returns false'. Refute it at one input. -/
def fnBestQuestionsWrong : ChangeSpec := { name := "fnBestQuestions", fn := fun _ => fun
  | [d1, d2] => { results := [.lit (.bool false)], args := [d1, d2] }
  | _ => none }
def FnBestQuestionsWrongFalsely : Prop := fnBestQuestionsRow.holds Try.pinned (OpenSpec.ofChange fnBestQuestionsWrong)

/-- 'laws.FnAnswersLeave': WHATEVER THE INPUT: true; the input reads as it did. -/
def fnAnswersLeaveSpec : ChangeSpec := { name := "fnAnswersLeave", fn := fun _ => fun
  | [d1, d2] => { results := [.lit (.bool true)], args := [d1, d2] }
  | _ => none }
def fnAnswersLeaveRow : OpenClaim := { program := "ytnncipcldbopgaa", sum := "5778129e5662a5b2642ddbb89cfec0dd6e2e43a1aea081d1b7a7a2ae8a91907b", func := "loop.example/g01137/laws.FnAnswersLeave", spec := "fnAnswersLeave", plainKeys := false, apart := false }
def FnAnswersLeaveSaid : Prop := fnAnswersLeaveRow.holds Try.pinned (OpenSpec.ofChange fnAnswersLeaveSpec)

/-- ITS FALSE NEIGHBOUR: 'it returns false'. Refute it at one input. -/
def fnAnswersLeaveWrong : ChangeSpec := { name := "fnAnswersLeave", fn := fun _ => fun
  | [d1, d2] => { results := [.lit (.bool false)], args := [d1, d2] }
  | _ => none }
def FnAnswersLeaveWrongFalsely : Prop := fnAnswersLeaveRow.holds Try.pinned (OpenSpec.ofChange fnAnswersLeaveWrong)

/-- 'laws.FnWorstAndTotal': WHATEVER THE INPUT: true; the input reads as it did. -/
def fnWorstAndTotalSpec : ChangeSpec := { name := "fnWorstAndTotal", fn := fun _ => fun
  | [d1, d2] => { results := [.lit (.bool true)], args := [d1, d2] }
  | _ => none }
def fnWorstAndTotalRow : OpenClaim := { program := "ytnncipcldbopgaa", sum := "5778129e5662a5b2642ddbb89cfec0dd6e2e43a1aea081d1b7a7a2ae8a91907b", func := "loop.example/g01137/laws.FnWorstAndTotal", spec := "fnWorstAndTotal", unfollowed := true, recurses := true, plainKeys := false, apart := false }
def FnWorstAndTotalSaid : Prop := fnWorstAndTotalRow.holds Try.pinned (OpenSpec.ofChange fnWorstAndTotalSpec)

/-- ITS FALSE NEIGHBOUR: 'it returns false'. Refute it at one input. -/
def fnWorstAndTotalWrong : ChangeSpec := { name := "fnWorstAndTotal", fn := fun _ => fun
  | [d1, d2] => { results := [.lit (.bool false)], args := [d1, d2] }
  | _ => none }
def FnWorstAndTotalWrongFalsely : Prop := fnWorstAndTotalRow.holds Try.pinned (OpenSpec.ofChange fnWorstAndTotalWrong)

/-- 'laws.FnKeptBelow': WHATEVER THE INPUT: true; the input reads as it did. -/
def fnKeptBelowSpec : ChangeSpec := { name := "fnKeptBelow", fn := fun _ => fun
  | [d1, d2] => { results := [.lit (.bool true)], args := [d1, d2] }
  | _ => none }
def fnKeptBelowRow : OpenClaim := { program := "ytnncipcldbopgaa", sum := "5778129e5662a5b2642ddbb89cfec0dd6e2e43a1aea081d1b7a7a2ae8a91907b", func := "loop.example/g01137/laws.FnKeptBelow", spec := "fnKeptBelow", unfollowed := true, recurses := true, plainKeys := false, apart := false }
def FnKeptBelowSaid : Prop := fnKeptBelowRow.holds Try.pinned (OpenSpec.ofChange fnKeptBelowSpec)

/-- ITS FALSE NEIGHBOUR: 'it returns false'. Refute it at one input. -/
def fnKeptBelowWrong : ChangeSpec := { name := "fnKeptBelow", fn := fun _ => fun
  | [d1, d2] => { results := [.lit (.bool false)], args := [d1, d2] }
  | _ => none }
def FnKeptBelowWrongFalsely : Prop := fnKeptBelowRow.holds Try.pinned (OpenSpec.ofChange fnKeptBelowWrong)

/-- 'laws.FnGreedyIsBest': WHATEVER THE INPUT: true; the input reads as it did. -/
def fnGreedyIsBestSpec : ChangeSpec := { name := "fnGreedyIsBest", fn := fun _ => fun
  | [d1, d2] => { results := [.lit (.bool true)], args := [d1, d2] }
  | _ => none }
def fnGreedyIsBestRow : OpenClaim := { program := "ytnncipcldbopgaa", sum := "5778129e5662a5b2642ddbb89cfec0dd6e2e43a1aea081d1b7a7a2ae8a91907b", func := "loop.example/g01137/laws.FnGreedyIsBest", spec := "fnGreedyIsBest", unfollowed := true, recurses := true, plainKeys := false, apart := false }
def FnGreedyIsBestSaid : Prop := fnGreedyIsBestRow.holds Try.pinned (OpenSpec.ofChange fnGreedyIsBestSpec)

/-- ITS FALSE NEIGHBOUR: 'it returns false'. Refute it at one input. -/
def fnGreedyIsBestWrong : ChangeSpec := { name := "fnGreedyIsBest", fn := fun _ => fun
  | [d1, d2] => { results := [.lit (.bool false)], args := [d1, d2] }
  | _ => none }
def FnGreedyIsBestWrongFalsely : Prop := fnGreedyIsBestRow.holds Try.pinned (OpenSpec.ofChange fnGreedyIsBestWrong)

/-- 'laws.FnLateJobs': WHATEVER THE INPUT: true; the input reads as it did. -/
def fnLateJobsSpec : ChangeSpec := { name := "fnLateJobs", fn := fun _ => fun
  | [d1, d2] => { results := [.lit (.bool true)], args := [d1, d2] }
  | _ => none }
def fnLateJobsRow : OpenClaim := { program := "ytnncipcldbopgaa", sum := "5778129e5662a5b2642ddbb89cfec0dd6e2e43a1aea081d1b7a7a2ae8a91907b", func := "loop.example/g01137/laws.FnLateJobs", spec := "fnLateJobs", unfollowed := true, recurses := true, plainKeys := false, apart := false }
def FnLateJobsSaid : Prop := fnLateJobsRow.holds Try.pinned (OpenSpec.ofChange fnLateJobsSpec)

/-- ITS FALSE NEIGHBOUR: 'it returns false'. Refute it at one input. -/
def fnLateJobsWrong : ChangeSpec := { name := "fnLateJobs", fn := fun _ => fun
  | [d1, d2] => { results := [.lit (.bool false)], args := [d1, d2] }
  | _ => none }
def FnLateJobsWrongFalsely : Prop := fnLateJobsRow.holds Try.pinned (OpenSpec.ofChange fnLateJobsWrong)

/- THE SECOND FORM. 'bulk': how many values and letters a reading holds, each counted each time it is reached (what is shared counts as often as it is met; a slice's spare places count too). A statement '..UptoSaid' is the law's where the arguments, and the package variables that the reading takes, are together of bulk at most 1048576: NARROWER than '..Said'. Prove '..Said' where nothing that the law and all that it calls make is longer than what came in: it says more and counts as full. Else prove '..UptoSaid'. A law counts once. -/
mutual
def uptoBulk {H : Type} : DataW H → Nat
  | .lit (.string bytes) => bytes.length + 1
  | .lit _ => 1
  | .nil => 1
  | .ptr d => uptoBulk d + 1
  | .slice elems spare => uptoBulkAll elems + uptoBulkAll spare + 1
  | .agg parts => uptoBulkAll parts + 1
  | .iface _ d => uptoBulk d + 1
  | .map entries => uptoBulkEntries entries + 1
  | .held _ => 1
def uptoBulkAll {H : Type} : List (DataW H) → Nat
  | [] => 0
  | d :: r => uptoBulk d + uptoBulkAll r
def uptoBulkEntries {H : Type} : List (Lit × DataW H) → Nat
  | [] => 0
  | x :: r => uptoBulkEntry x + uptoBulkEntries r
def uptoBulkEntry {H : Type} : Lit × DataW H → Nat
  | (.string bytes, d) => bytes.length + uptoBulk d + 1
  | (_, d) => uptoBulk d + 1
 end
def uptoSmall : (H : Type) → List (DataW H) → Bool := fun _ ds => decide (uptoBulkAll ds ≤ 1048576)
def OpenSpec.upto (s : _root_.Go.ChangeSpec) : _root_.Go.OpenSpec := { _root_.Go.OpenSpec.ofChange s with cond := some uptoSmall }

/-- 'laws.FnFringesOfSets', WHERE WHAT IT READS IS OF BULK AT MOST 1048576: true; the input reads as it did. -/
def fnFringesOfSetsUptoRow : OpenClaim := { program := "ytnncipcldbopgaa", sum := "5778129e5662a5b2642ddbb89cfec0dd6e2e43a1aea081d1b7a7a2ae8a91907b", func := "loop.example/g01137/laws.FnFringesOfSets", spec := "fnFringesOfSets", plainKeys := false, apart := false, narrowed := true }
def FnFringesOfSetsUptoSaid : Prop := fnFringesOfSetsUptoRow.holds Try.pinned (OpenSpec.upto fnFringesOfSetsSpec)

/-- 'laws.FnAllSpacesCounted', WHERE WHAT IT READS IS OF BULK AT MOST 1048576: true; the input reads as it did. -/
def fnAllSpacesCountedUptoRow : OpenClaim := { program := "ytnncipcldbopgaa", sum := "5778129e5662a5b2642ddbb89cfec0dd6e2e43a1aea081d1b7a7a2ae8a91907b", func := "loop.example/g01137/laws.FnAllSpacesCounted", spec := "fnAllSpacesCounted", unfollowed := true, recurses := true, plainKeys := false, apart := false, narrowed := true }
def FnAllSpacesCountedUptoSaid : Prop := fnAllSpacesCountedUptoRow.holds Try.pinned (OpenSpec.upto fnAllSpacesCountedSpec)

/-- 'laws.FnBestQuestions', WHERE WHAT IT READS IS OF BULK AT MOST 1048576: true; the input reads as it did. -/
def fnBestQuestionsUptoRow : OpenClaim := { program := "ytnncipcldbopgaa", sum := "5778129e5662a5b2642ddbb89cfec0dd6e2e43a1aea081d1b7a7a2ae8a91907b", func := "loop.example/g01137/laws.FnBestQuestions", spec := "fnBestQuestions", unfollowed := true, recurses := true, plainKeys := false, apart := false, narrowed := true }
def FnBestQuestionsUptoSaid : Prop := fnBestQuestionsUptoRow.holds Try.pinned (OpenSpec.upto fnBestQuestionsSpec)

/-- 'laws.FnAnswersLeave', WHERE WHAT IT READS IS OF BULK AT MOST 1048576: true; the input reads as it did. -/
def fnAnswersLeaveUptoRow : OpenClaim := { program := "ytnncipcldbopgaa", sum := "5778129e5662a5b2642ddbb89cfec0dd6e2e43a1aea081d1b7a7a2ae8a91907b", func := "loop.example/g01137/laws.FnAnswersLeave", spec := "fnAnswersLeave", plainKeys := false, apart := false, narrowed := true }
def FnAnswersLeaveUptoSaid : Prop := fnAnswersLeaveUptoRow.holds Try.pinned (OpenSpec.upto fnAnswersLeaveSpec)

/-- 'laws.FnWorstAndTotal', WHERE WHAT IT READS IS OF BULK AT MOST 1048576: true; the input reads as it did. -/
def fnWorstAndTotalUptoRow : OpenClaim := { program := "ytnncipcldbopgaa", sum := "5778129e5662a5b2642ddbb89cfec0dd6e2e43a1aea081d1b7a7a2ae8a91907b", func := "loop.example/g01137/laws.FnWorstAndTotal", spec := "fnWorstAndTotal", unfollowed := true, recurses := true, plainKeys := false, apart := false, narrowed := true }
def FnWorstAndTotalUptoSaid : Prop := fnWorstAndTotalUptoRow.holds Try.pinned (OpenSpec.upto fnWorstAndTotalSpec)

/-- 'laws.FnKeptBelow', WHERE WHAT IT READS IS OF BULK AT MOST 1048576: true; the input reads as it did. -/
def fnKeptBelowUptoRow : OpenClaim := { program := "ytnncipcldbopgaa", sum := "5778129e5662a5b2642ddbb89cfec0dd6e2e43a1aea081d1b7a7a2ae8a91907b", func := "loop.example/g01137/laws.FnKeptBelow", spec := "fnKeptBelow", unfollowed := true, recurses := true, plainKeys := false, apart := false, narrowed := true }
def FnKeptBelowUptoSaid : Prop := fnKeptBelowUptoRow.holds Try.pinned (OpenSpec.upto fnKeptBelowSpec)

/-- 'laws.FnGreedyIsBest', WHERE WHAT IT READS IS OF BULK AT MOST 1048576: true; the input reads as it did. -/
def fnGreedyIsBestUptoRow : OpenClaim := { program := "ytnncipcldbopgaa", sum := "5778129e5662a5b2642ddbb89cfec0dd6e2e43a1aea081d1b7a7a2ae8a91907b", func := "loop.example/g01137/laws.FnGreedyIsBest", spec := "fnGreedyIsBest", unfollowed := true, recurses := true, plainKeys := false, apart := false, narrowed := true }
def FnGreedyIsBestUptoSaid : Prop := fnGreedyIsBestUptoRow.holds Try.pinned (OpenSpec.upto fnGreedyIsBestSpec)

/-- 'laws.FnLateJobs', WHERE WHAT IT READS IS OF BULK AT MOST 1048576: true; the input reads as it did. -/
def fnLateJobsUptoRow : OpenClaim := { program := "ytnncipcldbopgaa", sum := "5778129e5662a5b2642ddbb89cfec0dd6e2e43a1aea081d1b7a7a2ae8a91907b", func := "loop.example/g01137/laws.FnLateJobs", spec := "fnLateJobs", unfollowed := true, recurses := true, plainKeys := false, apart := false, narrowed := true }
def FnLateJobsUptoSaid : Prop := fnLateJobsUptoRow.holds Try.pinned (OpenSpec.upto fnLateJobsSpec)

end Rows
end Go.Proofs.Ytnncipcldbopgaa
