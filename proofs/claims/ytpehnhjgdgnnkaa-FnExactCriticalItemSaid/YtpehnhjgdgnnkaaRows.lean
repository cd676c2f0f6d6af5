/-
  No cell of these rows narrows 'for every input' (looked for: loops, veiled, ifaces, maps, wideKeys, modest, calm, conditions, laid).
  DERIVED. THE GIVEN ROWS OF THIS SEAT. 12 by the template 'for every input the law returns true; each argument reads behind the call as it read before'; 0 by the template 'total and deterministic' (their statements: YtpehnhjgdgnnkaaTotals.lean).
  GIVEN WITH THE SEED: the statements are not yours to turn. If you find one false, say at which input.
  Laid BY PROGRAM, IN A SANDBOX (cutbox-rows.mjs): the forced cells as the released guide's own fill.sh prints them over the translation b133dcb4089a6ac7… (all of the seat's roots in one cut). By AI agents, Wed Nov 11 2026. No macro, syntax, notation, axiom, sorry.
-/
import Derived.Test.YtpehnhjgdgnnkaaChecked
import GoSem.Claim
import GoSem.ClaimJoined
import GoSem.ClaimMapViews
import Derived.JoinedTies
import Derived.KernelRfl
namespace Go.Proofs.Ytpehnhjgdgnnkaa
/- THE CELL 'sum', in the pinned program and in every row, IS THE sha256 OF THE DUMP (.gsa) THAT YtpehnhjgdgnnkaaProg.lean LOADS. Nothing in Lean hashes anything: it is a label: what it is worth is what the hold of that sum in a sandbox is worth. -/
noncomputable def Try.pinned : Pinned := { name := "ytpehnhjgdgnnkaa", sum := "b133dcb4089a6ac7f92bee0c178b4cf3819910bfa8682b6c728a2ff5fb4504d0", checked := Try.checked }
namespace Rows
def none {H : Type} : Left H := { results := [], args := [] }

/-- 'laws.FnExactFirstDesk': WHATEVER THE INPUT: true; the input reads as it did. -/
def fnExactFirstDeskSpec : ChangeSpec := { name := "fnExactFirstDesk", fn := fun _ => fun
  | [] => { results := [.lit (.bool true)], args := [] }
  | _ => none }
def fnExactFirstDeskRow : OpenClaim := { program := "ytpehnhjgdgnnkaa", sum := "b133dcb4089a6ac7f92bee0c178b4cf3819910bfa8682b6c728a2ff5fb4504d0", func := "loop.example/g01137/laws.FnExactFirstDesk", spec := "fnExactFirstDesk", plainKeys := false, apart := false }
def FnExactFirstDeskSaid : Prop := fnExactFirstDeskRow.holds Try.pinned (OpenSpec.ofChange fnExactFirstDeskSpec)

/-- ITS FALSE NEIGHBOUR: 'it returns false'. Refute it at one input. -/
def fnExactFirstDeskWrong : ChangeSpec := { name := "fnExactFirstDesk", fn := fun _ => fun
  | [] => { results := [.lit (.bool false)], args := [] }
  | _ => none }
def FnExactFirstDeskWrongFalsely : Prop := fnExactFirstDeskRow.holds Try.pinned (OpenSpec.ofChange fnExactFirstDeskWrong)

/-- 'laws.FnExactIsFreeSpace': WHATEVER THE INPUT: true; the input reads as it did. -/
def fnExactIsFreeSpaceSpec : ChangeSpec := { name := "fnExactIsFreeSpace", fn := fun _ => fun
  | [d] => { results := [.lit (.bool true)], args := [d] }
  | _ => none }
def fnExactIsFreeSpaceRow : OpenClaim := { program := "ytpehnhjgdgnnkaa", sum := "b133dcb4089a6ac7f92bee0c178b4cf3819910bfa8682b6c728a2ff5fb4504d0", func := "loop.example/g01137/laws.FnExactIsFreeSpace", spec := "fnExactIsFreeSpace", plainKeys := false, apart := false }
def FnExactIsFreeSpaceSaid : Prop := fnExactIsFreeSpaceRow.holds Try.pinned (OpenSpec.ofChange fnExactIsFreeSpaceSpec)

/-- ITS FALSE NEIGHBOUR: 'it returns false'. Refute it at one input. -/
def fnExactIsFreeSpaceWrong : ChangeSpec := { name := "fnExactIsFreeSpace", fn := fun _ => fun
  | [d] => { results := [.lit (.bool false)], args := [d] }
  | _ => none }
def FnExactIsFreeSpaceWrongFalsely : Prop := fnExactIsFreeSpaceRow.holds Try.pinned (OpenSpec.ofChange fnExactIsFreeSpaceWrong)

/-- 'laws.FnExactIsDesk': WHATEVER THE INPUT: true; the input reads as it did. -/
def fnExactIsDeskSpec : ChangeSpec := { name := "fnExactIsDesk", fn := fun _ => fun
  | [d] => { results := [.lit (.bool true)], args := [d] }
  | _ => none }
def fnExactIsDeskRow : OpenClaim := { program := "ytpehnhjgdgnnkaa", sum := "b133dcb4089a6ac7f92bee0c178b4cf3819910bfa8682b6c728a2ff5fb4504d0", func := "loop.example/g01137/laws.FnExactIsDesk", spec := "fnExactIsDesk", plainKeys := false, apart := false }
def FnExactIsDeskSaid : Prop := fnExactIsDeskRow.holds Try.pinned (OpenSpec.ofChange fnExactIsDeskSpec)

/-- ITS FALSE NEIGHBOUR: 'it returns false'. Refute it at one input. -/
def fnExactIsDeskWrong : ChangeSpec := { name := "fnExactIsDesk", fn := fun _ => fun
  | [d] => { results := [.lit (.bool false)], args := [d] }
  | _ => none }
def FnExactIsDeskWrongFalsely : Prop := fnExactIsDeskRow.holds Try.pinned (OpenSpec.ofChange fnExactIsDeskWrong)

/-- 'laws.FnExactSizesOf': WHATEVER THE INPUT: true; the input reads as it did. -/
def fnExactSizesOfSpec : ChangeSpec := { name := "fnExactSizesOf", fn := fun _ => fun
  | [d] => { results := [.lit (.bool true)], args := [d] }
  | _ => none }
def fnExactSizesOfRow : OpenClaim := { program := "ytpehnhjgdgnnkaa", sum := "b133dcb4089a6ac7f92bee0c178b4cf3819910bfa8682b6c728a2ff5fb4504d0", func := "loop.example/g01137/laws.FnExactSizesOf", spec := "fnExactSizesOf", plainKeys := false, apart := false }
def FnExactSizesOfSaid : Prop := fnExactSizesOfRow.holds Try.pinned (OpenSpec.ofChange fnExactSizesOfSpec)

/-- ITS FALSE NEIGHBOUR: 'it returns false'. Refute it at one input. -/
def fnExactSizesOfWrong : ChangeSpec := { name := "fnExactSizesOf", fn := fun _ => fun
  | [d] => { results := [.lit (.bool false)], args := [d] }
  | _ => none }
def FnExactSizesOfWrongFalsely : Prop := fnExactSizesOfRow.holds Try.pinned (OpenSpec.ofChange fnExactSizesOfWrong)

/-- 'laws.FnExactRandomWalk': WHATEVER THE INPUT: true; the input reads as it did. -/
def fnExactRandomWalkSpec : ChangeSpec := { name := "fnExactRandomWalk", fn := fun _ => fun
  | [d1, d2] => { results := [.lit (.bool true)], args := [d1, d2] }
  | _ => none }
def fnExactRandomWalkRow : OpenClaim := { program := "ytpehnhjgdgnnkaa", sum := "b133dcb4089a6ac7f92bee0c178b4cf3819910bfa8682b6c728a2ff5fb4504d0", func := "loop.example/g01137/laws.FnExactRandomWalk", spec := "fnExactRandomWalk", unfollowed := true, recurses := true, plainKeys := false, apart := false }
def FnExactRandomWalkSaid : Prop := fnExactRandomWalkRow.holds Try.pinned (OpenSpec.ofChange fnExactRandomWalkSpec)

/-- ITS FALSE NEIGHBOUR: 'it returns false'. Refute it at one input. -/
def fnExactRandomWalkWrong : ChangeSpec := { name := "fnExactRandomWalk", fn := fun _ => fun
  | [d1, d2] => { results := [.lit (.bool false)], args := [d1, d2] }
  | _ => none }
def FnExactRandomWalkWrongFalsely : Prop := fnExactRandomWalkRow.holds Try.pinned (OpenSpec.ofChange fnExactRandomWalkWrong)

/-- 'laws.FnExactFreeSets': WHATEVER THE INPUT: true; the input reads as it did. -/
def fnExactFreeSetsSpec : ChangeSpec := { name := "fnExactFreeSets", fn := fun _ => fun
  | [d] => { results := [.lit (.bool true)], args := [d] }
  | _ => none }
def fnExactFreeSetsRow : OpenClaim := { program := "ytpehnhjgdgnnkaa", sum := "b133dcb4089a6ac7f92bee0c178b4cf3819910bfa8682b6c728a2ff5fb4504d0", func := "loop.example/g01137/laws.FnExactFreeSets", spec := "fnExactFreeSets", recurses := true, plainKeys := false, apart := false }
def FnExactFreeSetsSaid : Prop := fnExactFreeSetsRow.holds Try.pinned (OpenSpec.ofChange fnExactFreeSetsSpec)

/-- ITS FALSE NEIGHBOUR: 'it returns false'. Refute it at one input. -/
def fnExactFreeSetsWrong : ChangeSpec := { name := "fnExactFreeSets", fn := fun _ => fun
  | [d] => { results := [.lit (.bool false)], args := [d] }
  | _ => none }
def FnExactFreeSetsWrongFalsely : Prop := fnExactFreeSetsRow.holds Try.pinned (OpenSpec.ofChange fnExactFreeSetsWrong)

/-- 'laws.FnExactFreeBySize': WHATEVER THE INPUT: true; the input reads as it did. -/
def fnExactFreeBySizeSpec : ChangeSpec := { name := "fnExactFreeBySize", fn := fun _ => fun
  | [d] => { results := [.lit (.bool true)], args := [d] }
  | _ => none }
def fnExactFreeBySizeRow : OpenClaim := { program := "ytpehnhjgdgnnkaa", sum := "b133dcb4089a6ac7f92bee0c178b4cf3819910bfa8682b6c728a2ff5fb4504d0", func := "loop.example/g01137/laws.FnExactFreeBySize", spec := "fnExactFreeBySize", recurses := true, plainKeys := false, apart := false }
def FnExactFreeBySizeSaid : Prop := fnExactFreeBySizeRow.holds Try.pinned (OpenSpec.ofChange fnExactFreeBySizeSpec)

/-- ITS FALSE NEIGHBOUR: 'it returns false'. Refute it at one input. -/
def fnExactFreeBySizeWrong : ChangeSpec := { name := "fnExactFreeBySize", fn := fun _ => fun
  | [d] => { results := [.lit (.bool false)], args := [d] }
  | _ => none }
def FnExactFreeBySizeWrongFalsely : Prop := fnExactFreeBySizeRow.holds Try.pinned (OpenSpec.ofChange fnExactFreeBySizeWrong)

/-- 'laws.FnExactAlternatingSum': WHATEVER THE INPUT: true; the input reads as it did. -/
def fnExactAlternatingSumSpec : ChangeSpec := { name := "fnExactAlternatingSum", fn := fun _ => fun
  | [d] => { results := [.lit (.bool true)], args := [d] }
  | _ => none }
def fnExactAlternatingSumRow : OpenClaim := { program := "ytpehnhjgdgnnkaa", sum := "b133dcb4089a6ac7f92bee0c178b4cf3819910bfa8682b6c728a2ff5fb4504d0", func := "loop.example/g01137/laws.FnExactAlternatingSum", spec := "fnExactAlternatingSum", recurses := true, plainKeys := false, apart := false }
def FnExactAlternatingSumSaid : Prop := fnExactAlternatingSumRow.holds Try.pinned (OpenSpec.ofChange fnExactAlternatingSumSpec)

/-- ITS FALSE NEIGHBOUR: 'it returns false'. Refute it at one input. -/
def fnExactAlternatingSumWrong : ChangeSpec := { name := "fnExactAlternatingSum", fn := fun _ => fun
  | [d] => { results := [.lit (.bool false)], args := [d] }
  | _ => none }
def FnExactAlternatingSumWrongFalsely : Prop := fnExactAlternatingSumRow.holds Try.pinned (OpenSpec.ofChange fnExactAlternatingSumWrong)

/-- 'laws.FnExactHalfRun': WHATEVER THE INPUT: true; the input reads as it did. -/
def fnExactHalfRunSpec : ChangeSpec := { name := "fnExactHalfRun", fn := fun _ => fun
  | [d1, d2] => { results := [.lit (.bool true)], args := [d1, d2] }
  | _ => none }
def fnExactHalfRunRow : OpenClaim := { program := "ytpehnhjgdgnnkaa", sum := "b133dcb4089a6ac7f92bee0c178b4cf3819910bfa8682b6c728a2ff5fb4504d0", func := "loop.example/g01137/laws.FnExactHalfRun", spec := "fnExactHalfRun", unfollowed := true, recurses := true, plainKeys := false, apart := false }
def FnExactHalfRunSaid : Prop := fnExactHalfRunRow.holds Try.pinned (OpenSpec.ofChange fnExactHalfRunSpec)

/-- ITS FALSE NEIGHBOUR: 'it returns false'. Refute it at one input. -/
def fnExactHalfRunWrong : ChangeSpec := { name := "fnExactHalfRun", fn := fun _ => fun
  | [d1, d2] => { results := [.lit (.bool false)], args := [d1, d2] }
  | _ => none }
def FnExactHalfRunWrongFalsely : Prop := fnExactHalfRunRow.holds Try.pinned (OpenSpec.ofChange fnExactHalfRunWrong)

/-- 'laws.FnExactWorstSet': WHATEVER THE INPUT: true; the input reads as it did. -/
def fnExactWorstSetSpec : ChangeSpec := { name := "fnExactWorstSet", fn := fun _ => fun
  | [d] => { results := [.lit (.bool true)], args := [d] }
  | _ => none }
def fnExactWorstSetRow : OpenClaim := { program := "ytpehnhjgdgnnkaa", sum := "b133dcb4089a6ac7f92bee0c178b4cf3819910bfa8682b6c728a2ff5fb4504d0", func := "loop.example/g01137/laws.FnExactWorstSet", spec := "fnExactWorstSet", unfollowed := true, recurses := true, plainKeys := false, apart := false }
def FnExactWorstSetSaid : Prop := fnExactWorstSetRow.holds Try.pinned (OpenSpec.ofChange fnExactWorstSetSpec)

/-- ITS FALSE NEIGHBOUR: 'it returns false'. Refute it at one input. -/
def fnExactWorstSetWrong : ChangeSpec := { name := "fnExactWorstSet", fn := fun _ => fun
  | [d] => { results := [.lit (.bool false)], args := [d] }
  | _ => none }
def FnExactWorstSetWrongFalsely : Prop := fnExactWorstSetRow.holds Try.pinned (OpenSpec.ofChange fnExactWorstSetWrong)

/-- 'laws.FnExactAskRun': WHATEVER THE INPUT: true; the input reads as it did. -/
def fnExactAskRunSpec : ChangeSpec := { name := "fnExactAskRun", fn := fun _ => fun
  | [d1, d2] => { results := [.lit (.bool true)], args := [d1, d2] }
  | _ => none }
def fnExactAskRunRow : OpenClaim := { program := "ytpehnhjgdgnnkaa", sum := "b133dcb4089a6ac7f92bee0c178b4cf3819910bfa8682b6c728a2ff5fb4504d0", func := "loop.example/g01137/laws.FnExactAskRun", spec := "fnExactAskRun", unfollowed := true, recurses := true, plainKeys := false, apart := false }
def FnExactAskRunSaid : Prop := fnExactAskRunRow.holds Try.pinned (OpenSpec.ofChange fnExactAskRunSpec)

/-- ITS FALSE NEIGHBOUR: 'it returns false'. Refute it at one input. -/
def fnExactAskRunWrong : ChangeSpec := { name := "fnExactAskRun", fn := fun _ => fun
  | [d1, d2] => { results := [.lit (.bool false)], args := [d1, d2] }
  | _ => none }
def FnExactAskRunWrongFalsely : Prop := fnExactAskRunRow.holds Try.pinned (OpenSpec.ofChange fnExactAskRunWrong)

/-- 'laws.FnExactCriticalItem': WHATEVER THE INPUT: true; the input reads as it did. -/
def fnExactCriticalItemSpec : ChangeSpec := { name := "fnExactCriticalItem", fn := fun _ => fun
  | [d1, d2] => { results := [.lit (.bool true)], args := [d1, d2] }
  | _ => none }
def fnExactCriticalItemRow : OpenClaim := { program := "ytpehnhjgdgnnkaa", sum := "b133dcb4089a6ac7f92bee0c178b4cf3819910bfa8682b6c728a2ff5fb4504d0", func := "loop.example/g01137/laws.FnExactCriticalItem", spec := "fnExactCriticalItem", unfollowed := true, recurses := true, plainKeys := false, apart := false }
def FnExactCriticalItemSaid : Prop := fnExactCriticalItemRow.holds Try.pinned (OpenSpec.ofChange fnExactCriticalItemSpec)

/-- ITS FALSE NEIGHBOUR: 'it returns false'. Refute it at one input. -/
def fnExactCriticalItemWrong : ChangeSpec := { name := "fnExactCriticalItem", fn := fun _ => fun
  | [d1, d2] => { results := [.lit (.bool false)], args := [d1, d2] }
  | _ => none }
def FnExactCriticalItemWrongFalsely : Prop := fnExactCriticalItemRow.holds Try.pinned (OpenSpec.ofChange fnExactCriticalItemWrong)

/- THE SECOND FORM. 'bulk': how many values and letters a reading holds, each counted each time it is reached (what is shared counts as often as it is met; a slice's spare places count too). A statement '..UptoSaid' is the law's where the arguments, and the package variables that the reading takes, are together of bulk at most 1048576: NARROWER than '..Said'. Prove '..Said' where nothing that the law and all that it calls make is longer than what came in: it says more and counts as full. Else prove '..UptoSaid'. A law counts once. -/
mutual
def uptoBulk {H : Type} : DataW H → Nat
  | .lit (.string bytes) => bytes.length + 1
  | .lit _ => 1
  | .nil => 1
  | .ptr d => uptoBulk d + 1
  | .slice elems spare => uptoBulkAll elems + uptoBulkAll spare + 1
  | .agg parts => uptoBulkAll parts + 1
  | .iface _ d => uptoBulk d + 1
  | .map entries => uptoBulkEntries entries + 1
  | .held _ => 1
def uptoBulkAll {H : Type} : List (DataW H) → Nat
  | [] => 0
  | d :: r => uptoBulk d + uptoBulkAll r
def uptoBulkEntries {H : Type} : List (Lit × DataW H) → Nat
  | [] => 0
  | x :: r => uptoBulkEntry x + uptoBulkEntries r
def uptoBulkEntry {H : Type} : Lit × DataW H → Nat
  | (.string bytes, d) => bytes.length + uptoBulk d + 1
  | (_, d) => uptoBulk d + 1
 end
def uptoSmall : (H : Type) → List (DataW H) → Bool := fun _ ds => decide (uptoBulkAll ds ≤ 1048576)
def OpenSpec.upto (s : _root_.Go.ChangeSpec) : _root_.Go.OpenSpec := { _root_.Go.OpenSpec.ofChange s with cond := some uptoSmall }

/-- 'laws.FnExactFirstDesk', WHERE WHAT IT READS IS OF BULK AT MOST 1048576: true; the input reads as it did. -/
def fnExactFirstDeskUptoRow : OpenClaim := { program := "ytpehnhjgdgnnkaa", sum := "b133dcb4089a6ac7f92bee0c178b4cf3819910bfa8682b6c728a2ff5fb4504d0", func := "loop.example/g01137/laws.FnExactFirstDesk", spec := "fnExactFirstDesk", plainKeys := false, apart := false, narrowed := true }
def FnExactFirstDeskUptoSaid : Prop := fnExactFirstDeskUptoRow.holds Try.pinned (OpenSpec.upto fnExactFirstDeskSpec)

/-- 'laws.FnExactIsFreeSpace', WHERE WHAT IT READS IS OF BULK AT MOST 1048576: true; the input reads as it did. -/
def fnExactIsFreeSpaceUptoRow : OpenClaim := { program := "ytpehnhjgdgnnkaa", sum := "b133dcb4089a6ac7f92bee0c178b4cf3819910bfa8682b6c728a2ff5fb4504d0", func := "loop.example/g01137/laws.FnExactIsFreeSpace", spec := "fnExactIsFreeSpace", plainKeys := false, apart := false, narrowed := true }
def FnExactIsFreeSpaceUptoSaid : Prop := fnExactIsFreeSpaceUptoRow.holds Try.pinned (OpenSpec.upto fnExactIsFreeSpaceSpec)

/-- 'laws.FnExactIsDesk', WHERE WHAT IT READS IS OF BULK AT MOST 1048576: true; the input reads as it did. -/
def fnExactIsDeskUptoRow : OpenClaim := { program := "ytpehnhjgdgnnkaa", sum := "b133dcb4089a6ac7f92bee0c178b4cf3819910bfa8682b6c728a2ff5fb4504d0", func := "loop.example/g01137/laws.FnExactIsDesk", spec := "fnExactIsDesk", plainKeys := false, apart := false, narrowed := true }
def FnExactIsDeskUptoSaid : Prop := fnExactIsDeskUptoRow.holds Try.pinned (OpenSpec.upto fnExactIsDeskSpec)

/-- 'laws.FnExactSizesOf', WHERE WHAT IT READS IS OF BULK AT MOST 1048576: true; the input reads as it did. -/
def fnExactSizesOfUptoRow : OpenClaim := { program := "ytpehnhjgdgnnkaa", sum := "b133dcb4089a6ac7f92bee0c178b4cf3819910bfa8682b6c728a2ff5fb4504d0", func := "loop.example/g01137/laws.FnExactSizesOf", spec := "fnExactSizesOf", plainKeys := false, apart := false, narrowed := true }
def FnExactSizesOfUptoSaid : Prop := fnExactSizesOfUptoRow.holds Try.pinned (OpenSpec.upto fnExactSizesOfSpec)

/-- 'laws.FnExactRandomWalk', WHERE WHAT IT READS IS OF BULK AT MOST 1048576: true; the input reads as it did. -/
def fnExactRandomWalkUptoRow : OpenClaim := { program := "ytpehnhjgdgnnkaa", sum := "b133dcb4089a6ac7f92bee0c178b4cf3819910bfa8682b6c728a2ff5fb4504d0", func := "loop.example/g01137/laws.FnExactRandomWalk", spec := "fnExactRandomWalk", unfollowed := true, recurses := true, plainKeys := false, apart := false, narrowed := true }
def FnExactRandomWalkUptoSaid : Prop := fnExactRandomWalkUptoRow.holds Try.pinned (OpenSpec.upto fnExactRandomWalkSpec)

/-- 'laws.FnExactFreeSets', WHERE WHAT IT READS IS OF BULK AT MOST 1048576: true; the input reads as it did. -/
def fnExactFreeSetsUptoRow : OpenClaim := { program := "ytpehnhjgdgnnkaa", sum := "b133dcb4089a6ac7f92bee0c178b4cf3819910bfa8682b6c728a2ff5fb4504d0", func := "loop.example/g01137/laws.FnExactFreeSets", spec := "fnExactFreeSets", recurses := true, plainKeys := false, apart := false, narrowed := true }
def FnExactFreeSetsUptoSaid : Prop := fnExactFreeSetsUptoRow.holds Try.pinned (OpenSpec.upto fnExactFreeSetsSpec)

/-- 'laws.FnExactFreeBySize', WHERE WHAT IT READS IS OF BULK AT MOST 1048576: true; the input reads as it did. -/
def fnExactFreeBySizeUptoRow : OpenClaim := { program := "ytpehnhjgdgnnkaa", sum := "b133dcb4089a6ac7f92bee0c178b4cf3819910bfa8682b6c728a2ff5fb4504d0", func := "loop.example/g01137/laws.FnExactFreeBySize", spec := "fnExactFreeBySize", recurses := true, plainKeys := false, apart := false, narrowed := true }
def FnExactFreeBySizeUptoSaid : Prop := fnExactFreeBySizeUptoRow.holds Try.pinned (OpenSpec.upto fnExactFreeBySizeSpec)

/-- 'laws.FnExactAlternatingSum', WHERE WHAT IT READS IS OF BULK AT MOST 1048576: true; the input reads as it did. -/
def fnExactAlternatingSumUptoRow : OpenClaim := { program := "ytpehnhjgdgnnkaa", sum := "b133dcb4089a6ac7f92bee0c178b4cf3819910bfa8682b6c728a2ff5fb4504d0", func := "loop.example/g01137/laws.FnExactAlternatingSum", spec := "fnExactAlternatingSum", recurses := true, plainKeys := false, apart := false, narrowed := true }
def FnExactAlternatingSumUptoSaid : Prop := fnExactAlternatingSumUptoRow.holds Try.pinned (OpenSpec.upto fnExactAlternatingSumSpec)

/-- 'laws.FnExactHalfRun', WHERE WHAT IT READS IS OF BULK AT MOST 1048576: true; the input reads as it did. -/
def fnExactHalfRunUptoRow : OpenClaim := { program := "ytpehnhjgdgnnkaa", sum := "b133dcb4089a6ac7f92bee0c178b4cf3819910bfa8682b6c728a2ff5fb4504d0", func := "loop.example/g01137/laws.FnExactHalfRun", spec := "fnExactHalfRun", unfollowed := true, recurses := true, plainKeys := false, apart := false, narrowed := true }
def FnExactHalfRunUptoSaid : Prop := fnExactHalfRunUptoRow.holds Try.pinned (OpenSpec.upto fnExactHalfRunSpec)

/-- 'laws.FnExactWorstSet', WHERE WHAT IT READS IS OF BULK AT MOST 1048576: true; the input reads as it did. -/
def fnExactWorstSetUptoRow : OpenClaim := { program := "ytpehnhjgdgnnkaa", sum := "b133dcb4089a6ac7f92bee0c178b4cf3819910bfa8682b6c728a2ff5fb4504d0", func := "loop.example/g01137/laws.FnExactWorstSet", spec := "fnExactWorstSet", unfollowed := true, recurses := true, plainKeys := false, apart := false, narrowed := true }
def FnExactWorstSetUptoSaid : Prop := fnExactWorstSetUptoRow.holds Try.pinned (OpenSpec.upto fnExactWorstSetSpec)

/-- 'laws.FnExactAskRun', WHERE WHAT IT READS IS OF BULK AT MOST 1048576: true; the input reads as it did. -/
def fnExactAskRunUptoRow : OpenClaim := { program := "ytpehnhjgdgnnkaa", sum := "b133dcb4089a6ac7f92bee0c178b4cf3819910bfa8682b6c728a2ff5fb4504d0", func := "loop.example/g01137/laws.FnExactAskRun", spec := "fnExactAskRun", unfollowed := true, recurses := true, plainKeys := false, apart := false, narrowed := true }
def FnExactAskRunUptoSaid : Prop := fnExactAskRunUptoRow.holds Try.pinned (OpenSpec.upto fnExactAskRunSpec)

/-- 'laws.FnExactCriticalItem', WHERE WHAT IT READS IS OF BULK AT MOST 1048576: true; the input reads as it did. -/
def fnExactCriticalItemUptoRow : OpenClaim := { program := "ytpehnhjgdgnnkaa", sum := "b133dcb4089a6ac7f92bee0c178b4cf3819910bfa8682b6c728a2ff5fb4504d0", func := "loop.example/g01137/laws.FnExactCriticalItem", spec := "fnExactCriticalItem", unfollowed := true, recurses := true, plainKeys := false, apart := false, narrowed := true }
def FnExactCriticalItemUptoSaid : Prop := fnExactCriticalItemUptoRow.holds Try.pinned (OpenSpec.upto fnExactCriticalItemSpec)

end Rows
end Go.Proofs.Ytpehnhjgdgnnkaa
