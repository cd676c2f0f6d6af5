/-
  No cell of these rows narrows 'for every input' (looked for: loops, veiled, ifaces, maps, wideKeys, modest, calm, conditions, laid).
  DERIVED. THE GIVEN ROWS OF THIS SEAT. 12 by the template 'for every input the law returns true; each argument reads behind the call as it read before'; 0 by the template 'total and deterministic' (their statements: YtdadnaliiegceaaTotals.lean).
  GIVEN WITH THE SEED: the statements are not yours to turn. If you find one false, say at which input.
  Laid BY PROGRAM, IN A SANDBOX (cutbox-rows.mjs): the forced cells as the released guide's own fill.sh prints them over the translation 5b23ea5f02ffe24d… (all of the seat's roots in one cut). By AI agents, Wed Nov 11 2026. No macro, syntax, notation, axiom, sorry.
-/
import Derived.Test.YtdadnaliiegceaaChecked
import GoSem.Claim
import GoSem.ClaimJoined
import GoSem.ClaimMapViews
import Derived.JoinedTies
import Derived.KernelRfl
namespace Go.Proofs.Ytdadnaliiegceaa
/- THE CELL 'sum', in the pinned program and in every row, IS THE sha256 OF THE DUMP (.gsa) THAT YtdadnaliiegceaaProg.lean LOADS. Nothing in Lean hashes anything: it is a label: what it is worth is what the hold of that sum in a sandbox is worth. -/
noncomputable def Try.pinned : Pinned := { name := "ytdadnaliiegceaa", sum := "5b23ea5f02ffe24dfd617ac924432533c843bf367d7d8853616b18fd61ba2236", checked := Try.checked }
namespace Rows
def none {H : Type} : Left H := { results := [], args := [] }

/-- 'laws.FnExactAreChips': WHATEVER THE INPUT: true; the input reads as it did. -/
def fnExactAreChipsSpec : ChangeSpec := { name := "fnExactAreChips", fn := fun _ => fun
  | [d] => { results := [.lit (.bool true)], args := [d] }
  | _ => none }
def fnExactAreChipsRow : OpenClaim := { program := "ytdadnaliiegceaa", sum := "5b23ea5f02ffe24dfd617ac924432533c843bf367d7d8853616b18fd61ba2236", func := "loop.example/g01137/laws.FnExactAreChips", spec := "fnExactAreChips", apart := false }
def FnExactAreChipsSaid : Prop := fnExactAreChipsRow.holds Try.pinned (OpenSpec.ofChange fnExactAreChipsSpec)

/-- ITS FALSE NEIGHBOUR: 'it returns false'. Refute it at one input. -/
def fnExactAreChipsWrong : ChangeSpec := { name := "fnExactAreChips", fn := fun _ => fun
  | [d] => { results := [.lit (.bool false)], args := [d] }
  | _ => none }
def FnExactAreChipsWrongFalsely : Prop := fnExactAreChipsRow.holds Try.pinned (OpenSpec.ofChange fnExactAreChipsWrong)

/-- 'laws.FnExactDegreesOf': WHATEVER THE INPUT: true; the input reads as it did. -/
def fnExactDegreesOfSpec : ChangeSpec := { name := "fnExactDegreesOf", fn := fun _ => fun
  | [d] => { results := [.lit (.bool true)], args := [d] }
  | _ => none }
def fnExactDegreesOfRow : OpenClaim := { program := "ytdadnaliiegceaa", sum := "5b23ea5f02ffe24dfd617ac924432533c843bf367d7d8853616b18fd61ba2236", func := "loop.example/g01137/laws.FnExactDegreesOf", spec := "fnExactDegreesOf", apart := false }
def FnExactDegreesOfSaid : Prop := fnExactDegreesOfRow.holds Try.pinned (OpenSpec.ofChange fnExactDegreesOfSpec)

/-- ITS FALSE NEIGHBOUR: 'it returns false'. Refute it at one input. -/
def fnExactDegreesOfWrong : ChangeSpec := { name := "fnExactDegreesOf", fn := fun _ => fun
  | [d] => { results := [.lit (.bool false)], args := [d] }
  | _ => none }
def FnExactDegreesOfWrongFalsely : Prop := fnExactDegreesOfRow.holds Try.pinned (OpenSpec.ofChange fnExactDegreesOfWrong)

/-- 'laws.FnExactCanMove': WHATEVER THE INPUT: true; the input reads as it did. -/
def fnExactCanMoveSpec : ChangeSpec := { name := "fnExactCanMove", fn := fun _ => fun
  | [d] => { results := [.lit (.bool true)], args := [d] }
  | _ => none }
def fnExactCanMoveRow : OpenClaim := { program := "ytdadnaliiegceaa", sum := "5b23ea5f02ffe24dfd617ac924432533c843bf367d7d8853616b18fd61ba2236", func := "loop.example/g01137/laws.FnExactCanMove", spec := "fnExactCanMove", apart := false }
def FnExactCanMoveSaid : Prop := fnExactCanMoveRow.holds Try.pinned (OpenSpec.ofChange fnExactCanMoveSpec)

/-- ITS FALSE NEIGHBOUR: 'it returns false'. Refute it at one input. -/
def fnExactCanMoveWrong : ChangeSpec := { name := "fnExactCanMove", fn := fun _ => fun
  | [d] => { results := [.lit (.bool false)], args := [d] }
  | _ => none }
def FnExactCanMoveWrongFalsely : Prop := fnExactCanMoveRow.holds Try.pinned (OpenSpec.ofChange fnExactCanMoveWrong)

/-- 'laws.FnExactIsRun': WHATEVER THE INPUT: true; the input reads as it did. -/
def fnExactIsRunSpec : ChangeSpec := { name := "fnExactIsRun", fn := fun _ => fun
  | [d1, d2] => { results := [.lit (.bool true)], args := [d1, d2] }
  | _ => none }
def fnExactIsRunRow : OpenClaim := { program := "ytdadnaliiegceaa", sum := "5b23ea5f02ffe24dfd617ac924432533c843bf367d7d8853616b18fd61ba2236", func := "loop.example/g01137/laws.FnExactIsRun", spec := "fnExactIsRun", apart := false }
def FnExactIsRunSaid : Prop := fnExactIsRunRow.holds Try.pinned (OpenSpec.ofChange fnExactIsRunSpec)

/-- ITS FALSE NEIGHBOUR: 'it returns false'. Refute it at one input. -/
def fnExactIsRunWrong : ChangeSpec := { name := "fnExactIsRun", fn := fun _ => fun
  | [d1, d2] => { results := [.lit (.bool false)], args := [d1, d2] }
  | _ => none }
def FnExactIsRunWrongFalsely : Prop := fnExactIsRunRow.holds Try.pinned (OpenSpec.ofChange fnExactIsRunWrong)

/-- 'laws.FnExactNeverEnds': WHATEVER THE INPUT: true; the input reads as it did. -/
def fnExactNeverEndsSpec : ChangeSpec := { name := "fnExactNeverEnds", fn := fun _ => fun
  | [d] => { results := [.lit (.bool true)], args := [d] }
  | _ => none }
def fnExactNeverEndsRow : OpenClaim := { program := "ytdadnaliiegceaa", sum := "5b23ea5f02ffe24dfd617ac924432533c843bf367d7d8853616b18fd61ba2236", func := "loop.example/g01137/laws.FnExactNeverEnds", spec := "fnExactNeverEnds", apart := false }
def FnExactNeverEndsSaid : Prop := fnExactNeverEndsRow.holds Try.pinned (OpenSpec.ofChange fnExactNeverEndsSpec)

/-- ITS FALSE NEIGHBOUR: 'it returns false'. Refute it at one input. -/
def fnExactNeverEndsWrong : ChangeSpec := { name := "fnExactNeverEnds", fn := fun _ => fun
  | [d] => { results := [.lit (.bool false)], args := [d] }
  | _ => none }
def FnExactNeverEndsWrongFalsely : Prop := fnExactNeverEndsRow.holds Try.pinned (OpenSpec.ofChange fnExactNeverEndsWrong)

/-- 'laws.FnExactMoveChips': WHATEVER THE INPUT: true; the input reads as it did. -/
def fnExactMoveChipsSpec : ChangeSpec := { name := "fnExactMoveChips", fn := fun _ => fun
  | [d1, d2] => { results := [.lit (.bool true)], args := [d1, d2] }
  | _ => none }
def fnExactMoveChipsRow : OpenClaim := { program := "ytdadnaliiegceaa", sum := "5b23ea5f02ffe24dfd617ac924432533c843bf367d7d8853616b18fd61ba2236", func := "loop.example/g01137/laws.FnExactMoveChips", spec := "fnExactMoveChips", apart := false }
def FnExactMoveChipsSaid : Prop := fnExactMoveChipsRow.holds Try.pinned (OpenSpec.ofChange fnExactMoveChipsSpec)

/-- ITS FALSE NEIGHBOUR: 'it returns false'. Refute it at one input. -/
def fnExactMoveChipsWrong : ChangeSpec := { name := "fnExactMoveChips", fn := fun _ => fun
  | [d1, d2] => { results := [.lit (.bool false)], args := [d1, d2] }
  | _ => none }
def FnExactMoveChipsWrongFalsely : Prop := fnExactMoveChipsRow.holds Try.pinned (OpenSpec.ofChange fnExactMoveChipsWrong)

/-- 'laws.FnExactRunChips': WHATEVER THE INPUT: true; the input reads as it did. -/
def fnExactRunChipsSpec : ChangeSpec := { name := "fnExactRunChips", fn := fun _ => fun
  | [d1, d2] => { results := [.lit (.bool true)], args := [d1, d2] }
  | _ => none }
def fnExactRunChipsRow : OpenClaim := { program := "ytdadnaliiegceaa", sum := "5b23ea5f02ffe24dfd617ac924432533c843bf367d7d8853616b18fd61ba2236", func := "loop.example/g01137/laws.FnExactRunChips", spec := "fnExactRunChips", apart := false }
def FnExactRunChipsSaid : Prop := fnExactRunChipsRow.holds Try.pinned (OpenSpec.ofChange fnExactRunChipsSpec)

/-- ITS FALSE NEIGHBOUR: 'it returns false'. Refute it at one input. -/
def fnExactRunChipsWrong : ChangeSpec := { name := "fnExactRunChips", fn := fun _ => fun
  | [d1, d2] => { results := [.lit (.bool false)], args := [d1, d2] }
  | _ => none }
def FnExactRunChipsWrongFalsely : Prop := fnExactRunChipsRow.holds Try.pinned (OpenSpec.ofChange fnExactRunChipsWrong)

/-- 'laws.FnExactMoveCounts': WHATEVER THE INPUT: true; the input reads as it did. -/
def fnExactMoveCountsSpec : ChangeSpec := { name := "fnExactMoveCounts", fn := fun _ => fun
  | [d] => { results := [.lit (.bool true)], args := [d] }
  | _ => none }
def fnExactMoveCountsRow : OpenClaim := { program := "ytdadnaliiegceaa", sum := "5b23ea5f02ffe24dfd617ac924432533c843bf367d7d8853616b18fd61ba2236", func := "loop.example/g01137/laws.FnExactMoveCounts", spec := "fnExactMoveCounts", apart := false }
def FnExactMoveCountsSaid : Prop := fnExactMoveCountsRow.holds Try.pinned (OpenSpec.ofChange fnExactMoveCountsSpec)

/-- ITS FALSE NEIGHBOUR: 'it returns false'. Refute it at one input. -/
def fnExactMoveCountsWrong : ChangeSpec := { name := "fnExactMoveCounts", fn := fun _ => fun
  | [d] => { results := [.lit (.bool false)], args := [d] }
  | _ => none }
def FnExactMoveCountsWrongFalsely : Prop := fnExactMoveCountsRow.holds Try.pinned (OpenSpec.ofChange fnExactMoveCountsWrong)

/-- 'laws.FnExactFirstRun': WHATEVER THE INPUT: true; the input reads as it did. -/
def fnExactFirstRunSpec : ChangeSpec := { name := "fnExactFirstRun", fn := fun _ => fun
  | [d] => { results := [.lit (.bool true)], args := [d] }
  | _ => none }
def fnExactFirstRunRow : OpenClaim := { program := "ytdadnaliiegceaa", sum := "5b23ea5f02ffe24dfd617ac924432533c843bf367d7d8853616b18fd61ba2236", func := "loop.example/g01137/laws.FnExactFirstRun", spec := "fnExactFirstRun", unfollowed := true, recurses := true, apart := false }
def FnExactFirstRunSaid : Prop := fnExactFirstRunRow.holds Try.pinned (OpenSpec.ofChange fnExactFirstRunSpec)

/-- ITS FALSE NEIGHBOUR: 'it returns false'. Refute it at one input. -/
def fnExactFirstRunWrong : ChangeSpec := { name := "fnExactFirstRun", fn := fun _ => fun
  | [d] => { results := [.lit (.bool false)], args := [d] }
  | _ => none }
def FnExactFirstRunWrongFalsely : Prop := fnExactFirstRunRow.holds Try.pinned (OpenSpec.ofChange fnExactFirstRunWrong)

/-- 'laws.FnExactReachedBy': WHATEVER THE INPUT: true; the input reads as it did. -/
def fnExactReachedBySpec : ChangeSpec := { name := "fnExactReachedBy", fn := fun _ => fun
  | [d1, d2] => { results := [.lit (.bool true)], args := [d1, d2] }
  | _ => none }
def fnExactReachedByRow : OpenClaim := { program := "ytdadnaliiegceaa", sum := "5b23ea5f02ffe24dfd617ac924432533c843bf367d7d8853616b18fd61ba2236", func := "loop.example/g01137/laws.FnExactReachedBy", spec := "fnExactReachedBy", unfollowed := true, recurses := true, apart := false }
def FnExactReachedBySaid : Prop := fnExactReachedByRow.holds Try.pinned (OpenSpec.ofChange fnExactReachedBySpec)

/-- ITS FALSE NEIGHBOUR: 'it returns false'. Refute it at one input. -/
def fnExactReachedByWrong : ChangeSpec := { name := "fnExactReachedBy", fn := fun _ => fun
  | [d1, d2] => { results := [.lit (.bool false)], args := [d1, d2] }
  | _ => none }
def FnExactReachedByWrongFalsely : Prop := fnExactReachedByRow.holds Try.pinned (OpenSpec.ofChange fnExactReachedByWrong)

/-- 'laws.FnExactRunBy': WHATEVER THE INPUT: true; the input reads as it did. -/
def fnExactRunBySpec : ChangeSpec := { name := "fnExactRunBy", fn := fun _ => fun
  | [d1, d2] => { results := [.lit (.bool true)], args := [d1, d2] }
  | _ => none }
def fnExactRunByRow : OpenClaim := { program := "ytdadnaliiegceaa", sum := "5b23ea5f02ffe24dfd617ac924432533c843bf367d7d8853616b18fd61ba2236", func := "loop.example/g01137/laws.FnExactRunBy", spec := "fnExactRunBy", unfollowed := true, recurses := true, apart := false }
def FnExactRunBySaid : Prop := fnExactRunByRow.holds Try.pinned (OpenSpec.ofChange fnExactRunBySpec)

/-- ITS FALSE NEIGHBOUR: 'it returns false'. Refute it at one input. -/
def fnExactRunByWrong : ChangeSpec := { name := "fnExactRunBy", fn := fun _ => fun
  | [d1, d2] => { results := [.lit (.bool false)], args := [d1, d2] }
  | _ => none }
def FnExactRunByWrongFalsely : Prop := fnExactRunByRow.holds Try.pinned (OpenSpec.ofChange fnExactRunByWrong)

/-- 'laws.FnExactFinalChips': WHATEVER THE INPUT: true; the input reads as it did. -/
def fnExactFinalChipsSpec : ChangeSpec := { name := "fnExactFinalChips", fn := fun _ => fun
  | [d] => { results := [.lit (.bool true)], args := [d] }
  | _ => none }
def fnExactFinalChipsRow : OpenClaim := { program := "ytdadnaliiegceaa", sum := "5b23ea5f02ffe24dfd617ac924432533c843bf367d7d8853616b18fd61ba2236", func := "loop.example/g01137/laws.FnExactFinalChips", spec := "fnExactFinalChips", apart := false }
def FnExactFinalChipsSaid : Prop := fnExactFinalChipsRow.holds Try.pinned (OpenSpec.ofChange fnExactFinalChipsSpec)

/-- ITS FALSE NEIGHBOUR: 'it returns false'. Refute it at one input. -/
def fnExactFinalChipsWrong : ChangeSpec := { name := "fnExactFinalChips", fn := fun _ => fun
  | [d] => { results := [.lit (.bool false)], args := [d] }
  | _ => none }
def FnExactFinalChipsWrongFalsely : Prop := fnExactFinalChipsRow.holds Try.pinned (OpenSpec.ofChange fnExactFinalChipsWrong)

/- THE SECOND FORM. 'bulk': how many values and letters a reading holds, each counted each time it is reached (what is shared counts as often as it is met; a slice's spare places count too). A statement '..UptoSaid' is the law's where the arguments, and the package variables that the reading takes, are together of bulk at most 1048576: NARROWER than '..Said'. Prove '..Said' where nothing that the law and all that it calls make is longer than what came in: it says more and counts as full. Else prove '..UptoSaid'. A law counts once. -/
mutual
def uptoBulk {H : Type} : DataW H → Nat
  | .lit (.string bytes) => bytes.length + 1
  | .lit _ => 1
  | .nil => 1
  | .ptr d => uptoBulk d + 1
  | .slice elems spare => uptoBulkAll elems + uptoBulkAll spare + 1
  | .agg parts => uptoBulkAll parts + 1
  | .iface _ d => uptoBulk d + 1
  | .map entries => uptoBulkEntries entries + 1
  | .held _ => 1
def uptoBulkAll {H : Type} : List (DataW H) → Nat
  | [] => 0
  | d :: r => uptoBulk d + uptoBulkAll r
def uptoBulkEntries {H : Type} : List (Lit × DataW H) → Nat
  | [] => 0
  | x :: r => uptoBulkEntry x + uptoBulkEntries r
def uptoBulkEntry {H : Type} : Lit × DataW H → Nat
  | (.string bytes, d) => bytes.length + uptoBulk d + 1
  | (_, d) => uptoBulk d + 1
 end
def uptoSmall : (H : Type) → List (DataW H) → Bool := fun _ ds => decide (uptoBulkAll ds ≤ 1048576)
def OpenSpec.upto (s : _root_.Go.ChangeSpec) : _root_.Go.OpenSpec := { _root_.Go.OpenSpec.ofChange s with cond := some uptoSmall }

/-- 'laws.FnExactAreChips', WHERE WHAT IT READS IS OF BULK AT MOST 1048576: true; the input reads as it did. -/
def fnExactAreChipsUptoRow : OpenClaim := { program := "ytdadnaliiegceaa", sum := "5b23ea5f02ffe24dfd617ac924432533c843bf367d7d8853616b18fd61ba2236", func := "loop.example/g01137/laws.FnExactAreChips", spec := "fnExactAreChips", apart := false, narrowed := true }
def FnExactAreChipsUptoSaid : Prop := fnExactAreChipsUptoRow.holds Try.pinned (OpenSpec.upto fnExactAreChipsSpec)

/-- 'laws.FnExactDegreesOf', WHERE WHAT IT READS IS OF BULK AT MOST 1048576: true; the input reads as it did. -/
def fnExactDegreesOfUptoRow : OpenClaim := { program := "ytdadnaliiegceaa", sum := "5b23ea5f02ffe24dfd617ac924432533c843bf367d7d8853616b18fd61ba2236", func := "loop.example/g01137/laws.FnExactDegreesOf", spec := "fnExactDegreesOf", apart := false, narrowed := true }
def FnExactDegreesOfUptoSaid : Prop := fnExactDegreesOfUptoRow.holds Try.pinned (OpenSpec.upto fnExactDegreesOfSpec)

/-- 'laws.FnExactCanMove', WHERE WHAT IT READS IS OF BULK AT MOST 1048576: true; the input reads as it did. -/
def fnExactCanMoveUptoRow : OpenClaim := { program := "ytdadnaliiegceaa", sum := "5b23ea5f02ffe24dfd617ac924432533c843bf367d7d8853616b18fd61ba2236", func := "loop.example/g01137/laws.FnExactCanMove", spec := "fnExactCanMove", apart := false, narrowed := true }
def FnExactCanMoveUptoSaid : Prop := fnExactCanMoveUptoRow.holds Try.pinned (OpenSpec.upto fnExactCanMoveSpec)

/-- 'laws.FnExactIsRun', WHERE WHAT IT READS IS OF BULK AT MOST 1048576: true; the input reads as it did. -/
def fnExactIsRunUptoRow : OpenClaim := { program := "ytdadnaliiegceaa", sum := "5b23ea5f02ffe24dfd617ac924432533c843bf367d7d8853616b18fd61ba2236", func := "loop.example/g01137/laws.FnExactIsRun", spec := "fnExactIsRun", apart := false, narrowed := true }
def FnExactIsRunUptoSaid : Prop := fnExactIsRunUptoRow.holds Try.pinned (OpenSpec.upto fnExactIsRunSpec)

/-- 'laws.FnExactNeverEnds', WHERE WHAT IT READS IS OF BULK AT MOST 1048576: true; the input reads as it did. -/
def fnExactNeverEndsUptoRow : OpenClaim := { program := "ytdadnaliiegceaa", sum := "5b23ea5f02ffe24dfd617ac924432533c843bf367d7d8853616b18fd61ba2236", func := "loop.example/g01137/laws.FnExactNeverEnds", spec := "fnExactNeverEnds", apart := false, narrowed := true }
def FnExactNeverEndsUptoSaid : Prop := fnExactNeverEndsUptoRow.holds Try.pinned (OpenSpec.upto fnExactNeverEndsSpec)

/-- 'laws.FnExactMoveChips', WHERE WHAT IT READS IS OF BULK AT MOST 1048576: true; the input reads as it did. -/
def fnExactMoveChipsUptoRow : OpenClaim := { program := "ytdadnaliiegceaa", sum := "5b23ea5f02ffe24dfd617ac924432533c843bf367d7d8853616b18fd61ba2236", func := "loop.example/g01137/laws.FnExactMoveChips", spec := "fnExactMoveChips", apart := false, narrowed := true }
def FnExactMoveChipsUptoSaid : Prop := fnExactMoveChipsUptoRow.holds Try.pinned (OpenSpec.upto fnExactMoveChipsSpec)

/-- 'laws.FnExactRunChips', WHERE WHAT IT READS IS OF BULK AT MOST 1048576: true; the input reads as it did. -/
def fnExactRunChipsUptoRow : OpenClaim := { program := "ytdadnaliiegceaa", sum := "5b23ea5f02ffe24dfd617ac924432533c843bf367d7d8853616b18fd61ba2236", func := "loop.example/g01137/laws.FnExactRunChips", spec := "fnExactRunChips", apart := false, narrowed := true }
def FnExactRunChipsUptoSaid : Prop := fnExactRunChipsUptoRow.holds Try.pinned (OpenSpec.upto fnExactRunChipsSpec)

/-- 'laws.FnExactMoveCounts', WHERE WHAT IT READS IS OF BULK AT MOST 1048576: true; the input reads as it did. -/
def fnExactMoveCountsUptoRow : OpenClaim := { program := "ytdadnaliiegceaa", sum := "5b23ea5f02ffe24dfd617ac924432533c843bf367d7d8853616b18fd61ba2236", func := "loop.example/g01137/laws.FnExactMoveCounts", spec := "fnExactMoveCounts", apart := false, narrowed := true }
def FnExactMoveCountsUptoSaid : Prop := fnExactMoveCountsUptoRow.holds Try.pinned (OpenSpec.upto fnExactMoveCountsSpec)

/-- 'laws.FnExactFirstRun', WHERE WHAT IT READS IS OF BULK AT MOST 1048576: true; the input reads as it did. -/
def fnExactFirstRunUptoRow : OpenClaim := { program := "ytdadnaliiegceaa", sum := "5b23ea5f02ffe24dfd617ac924432533c843bf367d7d8853616b18fd61ba2236", func := "loop.example/g01137/laws.FnExactFirstRun", spec := "fnExactFirstRun", unfollowed := true, recurses := true, apart := false, narrowed := true }
def FnExactFirstRunUptoSaid : Prop := fnExactFirstRunUptoRow.holds Try.pinned (OpenSpec.upto fnExactFirstRunSpec)

/-- 'laws.FnExactReachedBy', WHERE WHAT IT READS IS OF BULK AT MOST 1048576: true; the input reads as it did. -/
def fnExactReachedByUptoRow : OpenClaim := { program := "ytdadnaliiegceaa", sum := "5b23ea5f02ffe24dfd617ac924432533c843bf367d7d8853616b18fd61ba2236", func := "loop.example/g01137/laws.FnExactReachedBy", spec := "fnExactReachedBy", unfollowed := true, recurses := true, apart := false, narrowed := true }
def FnExactReachedByUptoSaid : Prop := fnExactReachedByUptoRow.holds Try.pinned (OpenSpec.upto fnExactReachedBySpec)

/-- 'laws.FnExactRunBy', WHERE WHAT IT READS IS OF BULK AT MOST 1048576: true; the input reads as it did. -/
def fnExactRunByUptoRow : OpenClaim := { program := "ytdadnaliiegceaa", sum := "5b23ea5f02ffe24dfd617ac924432533c843bf367d7d8853616b18fd61ba2236", func := "loop.example/g01137/laws.FnExactRunBy", spec := "fnExactRunBy", unfollowed := true, recurses := true, apart := false, narrowed := true }
def FnExactRunByUptoSaid : Prop := fnExactRunByUptoRow.holds Try.pinned (OpenSpec.upto fnExactRunBySpec)

/-- 'laws.FnExactFinalChips', WHERE WHAT IT READS IS OF BULK AT MOST 1048576: true; the input reads as it did. -/
def fnExactFinalChipsUptoRow : OpenClaim := { program := "ytdadnaliiegceaa", sum := "5b23ea5f02ffe24dfd617ac924432533c843bf367d7d8853616b18fd61ba2236", func := "loop.example/g01137/laws.FnExactFinalChips", spec := "fnExactFinalChips", apart := false, narrowed := true }
def FnExactFinalChipsUptoSaid : Prop := fnExactFinalChipsUptoRow.holds Try.pinned (OpenSpec.upto fnExactFinalChipsSpec)

end Rows
end Go.Proofs.Ytdadnaliiegceaa
