/-
  No cell of these rows narrows 'for every input' (looked for: loops, veiled, ifaces, maps, wideKeys, modest, calm, conditions, laid).
  DERIVED. THE GIVEN ROWS OF THIS SEAT. 12 by the template 'for every input the law returns true; each argument reads behind the call as it read before'; 0 by the template 'total and deterministic' (their statements: YtnjabaeajjhliaaTotals.lean).
  GIVEN WITH THE SEED: the statements are not yours to turn. If you find one false, say at which input.
  Laid BY PROGRAM, IN A SANDBOX (cutbox-rows.mjs): the forced cells as the released guide's own fill.sh prints them over the translation 6e7c72fe0a73288c… (all of the seat's roots in one cut). By AI agents, Wed Nov 11 2026. No macro, syntax, notation, axiom, sorry.
-/
import Derived.Test.YtnjabaeajjhliaaChecked
import GoSem.Claim
import GoSem.ClaimJoined
import GoSem.ClaimMapViews
import Derived.JoinedTies
import Derived.KernelRfl
namespace Go.Proofs.Ytnjabaeajjhliaa
/- THE CELL 'sum', in the pinned program and in every row, IS THE sha256 OF THE DUMP (.gsa) THAT YtnjabaeajjhliaaProg.lean LOADS. Nothing in Lean hashes anything: it is a label: what it is worth is what the hold of that sum in a sandbox is worth. -/
noncomputable def Try.pinned : Pinned := { name := "ytnjabaeajjhliaa", sum := "6e7c72fe0a73288ce44c78650e8046ffd5263af645145ba14cf1ee32c7e9057c", checked := Try.checked }
namespace Rows
def none {H : Type} : Left H := { results := [], args := [] }

/-- 'laws.FnExactCountSpaces': WHATEVER THE INPUT: true; the input reads as it did. -/
def fnExactCountSpacesSpec : ChangeSpec := { name := "fnExactCountSpaces", fn := fun _ => fun
  | [d] => { results := [.lit (.bool true)], args := [d] }
  | _ => none }
def fnExactCountSpacesRow : OpenClaim := { program := "ytnjabaeajjhliaa", sum := "6e7c72fe0a73288ce44c78650e8046ffd5263af645145ba14cf1ee32c7e9057c", func := "loop.example/g01137/laws.FnExactCountSpaces", spec := "fnExactCountSpaces", unfollowed := true, recurses := true, plainKeys := false, apart := false }
def FnExactCountSpacesSaid : Prop := fnExactCountSpacesRow.holds Try.pinned (OpenSpec.ofChange fnExactCountSpacesSpec)

/-- ITS FALSE NEIGHBOUR: 'it returns false'. Refute it at one input. -/
def fnExactCountSpacesWrong : ChangeSpec := { name := "fnExactCountSpaces", fn := fun _ => fun
  | [d] => { results := [.lit (.bool false)], args := [d] }
  | _ => none }
def FnExactCountSpacesWrongFalsely : Prop := fnExactCountSpacesRow.holds Try.pinned (OpenSpec.ofChange fnExactCountSpacesWrong)

/-- 'laws.FnExactAllSpaces': WHATEVER THE INPUT: true; the input reads as it did. -/
def fnExactAllSpacesSpec : ChangeSpec := { name := "fnExactAllSpaces", fn := fun _ => fun
  | [d] => { results := [.lit (.bool true)], args := [d] }
  | _ => none }
def fnExactAllSpacesRow : OpenClaim := { program := "ytnjabaeajjhliaa", sum := "6e7c72fe0a73288ce44c78650e8046ffd5263af645145ba14cf1ee32c7e9057c", func := "loop.example/g01137/laws.FnExactAllSpaces", spec := "fnExactAllSpaces", unfollowed := true, recurses := true, plainKeys := false, apart := false }
def FnExactAllSpacesSaid : Prop := fnExactAllSpacesRow.holds Try.pinned (OpenSpec.ofChange fnExactAllSpacesSpec)

/-- ITS FALSE NEIGHBOUR: 'it returns false'. Refute it at one input. -/
def fnExactAllSpacesWrong : ChangeSpec := { name := "fnExactAllSpaces", fn := fun _ => fun
  | [d] => { results := [.lit (.bool false)], args := [d] }
  | _ => none }
def FnExactAllSpacesWrongFalsely : Prop := fnExactAllSpacesRow.holds Try.pinned (OpenSpec.ofChange fnExactAllSpacesWrong)

/-- 'laws.FnExactSpaceAt': WHATEVER THE INPUT: true; the input reads as it did. -/
def fnExactSpaceAtSpec : ChangeSpec := { name := "fnExactSpaceAt", fn := fun _ => fun
  | [d1, d2] => { results := [.lit (.bool true)], args := [d1, d2] }
  | _ => none }
def fnExactSpaceAtRow : OpenClaim := { program := "ytnjabaeajjhliaa", sum := "6e7c72fe0a73288ce44c78650e8046ffd5263af645145ba14cf1ee32c7e9057c", func := "loop.example/g01137/laws.FnExactSpaceAt", spec := "fnExactSpaceAt", unfollowed := true, recurses := true, plainKeys := false, apart := false }
def FnExactSpaceAtSaid : Prop := fnExactSpaceAtRow.holds Try.pinned (OpenSpec.ofChange fnExactSpaceAtSpec)

/-- ITS FALSE NEIGHBOUR: 'it returns false'. Refute it at one input. -/
def fnExactSpaceAtWrong : ChangeSpec := { name := "fnExactSpaceAt", fn := fun _ => fun
  | [d1, d2] => { results := [.lit (.bool false)], args := [d1, d2] }
  | _ => none }
def FnExactSpaceAtWrongFalsely : Prop := fnExactSpaceAtRow.holds Try.pinned (OpenSpec.ofChange fnExactSpaceAtWrong)

/-- 'laws.FnExactRankSpace': WHATEVER THE INPUT: true; the input reads as it did. -/
def fnExactRankSpaceSpec : ChangeSpec := { name := "fnExactRankSpace", fn := fun _ => fun
  | [d] => { results := [.lit (.bool true)], args := [d] }
  | _ => none }
def fnExactRankSpaceRow : OpenClaim := { program := "ytnjabaeajjhliaa", sum := "6e7c72fe0a73288ce44c78650e8046ffd5263af645145ba14cf1ee32c7e9057c", func := "loop.example/g01137/laws.FnExactRankSpace", spec := "fnExactRankSpace", unfollowed := true, recurses := true, plainKeys := false, apart := false }
def FnExactRankSpaceSaid : Prop := fnExactRankSpaceRow.holds Try.pinned (OpenSpec.ofChange fnExactRankSpaceSpec)

/-- ITS FALSE NEIGHBOUR: 'it returns false'. Refute it at one input. -/
def fnExactRankSpaceWrong : ChangeSpec := { name := "fnExactRankSpace", fn := fun _ => fun
  | [d] => { results := [.lit (.bool false)], args := [d] }
  | _ => none }
def FnExactRankSpaceWrongFalsely : Prop := fnExactRankSpaceRow.holds Try.pinned (OpenSpec.ofChange fnExactRankSpaceWrong)

/-- 'laws.FnExactCountUpToNames': WHATEVER THE INPUT: true; the input reads as it did. -/
def fnExactCountUpToNamesSpec : ChangeSpec := { name := "fnExactCountUpToNames", fn := fun _ => fun
  | [d] => { results := [.lit (.bool true)], args := [d] }
  | _ => none }
def fnExactCountUpToNamesRow : OpenClaim := { program := "ytnjabaeajjhliaa", sum := "6e7c72fe0a73288ce44c78650e8046ffd5263af645145ba14cf1ee32c7e9057c", func := "loop.example/g01137/laws.FnExactCountUpToNames", spec := "fnExactCountUpToNames", unfollowed := true, recurses := true, plainKeys := false, apart := false }
def FnExactCountUpToNamesSaid : Prop := fnExactCountUpToNamesRow.holds Try.pinned (OpenSpec.ofChange fnExactCountUpToNamesSpec)

/-- ITS FALSE NEIGHBOUR: 'it returns false'. Refute it at one input. -/
def fnExactCountUpToNamesWrong : ChangeSpec := { name := "fnExactCountUpToNames", fn := fun _ => fun
  | [d] => { results := [.lit (.bool false)], args := [d] }
  | _ => none }
def FnExactCountUpToNamesWrongFalsely : Prop := fnExactCountUpToNamesRow.holds Try.pinned (OpenSpec.ofChange fnExactCountUpToNamesWrong)

/-- 'laws.FnExactNamesKept': WHATEVER THE INPUT: true; the input reads as it did. -/
def fnExactNamesKeptSpec : ChangeSpec := { name := "fnExactNamesKept", fn := fun _ => fun
  | [d] => { results := [.lit (.bool true)], args := [d] }
  | _ => none }
def fnExactNamesKeptRow : OpenClaim := { program := "ytnjabaeajjhliaa", sum := "6e7c72fe0a73288ce44c78650e8046ffd5263af645145ba14cf1ee32c7e9057c", func := "loop.example/g01137/laws.FnExactNamesKept", spec := "fnExactNamesKept", unfollowed := true, recurses := true, plainKeys := false, apart := false }
def FnExactNamesKeptSaid : Prop := fnExactNamesKeptRow.holds Try.pinned (OpenSpec.ofChange fnExactNamesKeptSpec)

/-- ITS FALSE NEIGHBOUR: 'it returns false'. Refute it at one input. -/
def fnExactNamesKeptWrong : ChangeSpec := { name := "fnExactNamesKept", fn := fun _ => fun
  | [d] => { results := [.lit (.bool false)], args := [d] }
  | _ => none }
def FnExactNamesKeptWrongFalsely : Prop := fnExactNamesKeptRow.holds Try.pinned (OpenSpec.ofChange fnExactNamesKeptWrong)

/-- 'laws.FnExactLeastNamed': WHATEVER THE INPUT: true; the input reads as it did. -/
def fnExactLeastNamedSpec : ChangeSpec := { name := "fnExactLeastNamed", fn := fun _ => fun
  | [d] => { results := [.lit (.bool true)], args := [d] }
  | _ => none }
def fnExactLeastNamedRow : OpenClaim := { program := "ytnjabaeajjhliaa", sum := "6e7c72fe0a73288ce44c78650e8046ffd5263af645145ba14cf1ee32c7e9057c", func := "loop.example/g01137/laws.FnExactLeastNamed", spec := "fnExactLeastNamed", unfollowed := true, recurses := true, plainKeys := false, apart := false }
def FnExactLeastNamedSaid : Prop := fnExactLeastNamedRow.holds Try.pinned (OpenSpec.ofChange fnExactLeastNamedSpec)

/-- ITS FALSE NEIGHBOUR: 'it returns false'. Refute it at one input. -/
def fnExactLeastNamedWrong : ChangeSpec := { name := "fnExactLeastNamed", fn := fun _ => fun
  | [d] => { results := [.lit (.bool false)], args := [d] }
  | _ => none }
def FnExactLeastNamedWrongFalsely : Prop := fnExactLeastNamedRow.holds Try.pinned (OpenSpec.ofChange fnExactLeastNamedWrong)

/-- 'laws.FnExactAreAlike': WHATEVER THE INPUT: true; the input reads as it did. -/
def fnExactAreAlikeSpec : ChangeSpec := { name := "fnExactAreAlike", fn := fun _ => fun
  | [d1, d2] => { results := [.lit (.bool true)], args := [d1, d2] }
  | _ => none }
def fnExactAreAlikeRow : OpenClaim := { program := "ytnjabaeajjhliaa", sum := "6e7c72fe0a73288ce44c78650e8046ffd5263af645145ba14cf1ee32c7e9057c", func := "loop.example/g01137/laws.FnExactAreAlike", spec := "fnExactAreAlike", unfollowed := true, recurses := true, plainKeys := false, apart := false }
def FnExactAreAlikeSaid : Prop := fnExactAreAlikeRow.holds Try.pinned (OpenSpec.ofChange fnExactAreAlikeSpec)

/-- ITS FALSE NEIGHBOUR: 'it returns false'. Refute it at one input. -/
def fnExactAreAlikeWrong : ChangeSpec := { name := "fnExactAreAlike", fn := fun _ => fun
  | [d1, d2] => { results := [.lit (.bool false)], args := [d1, d2] }
  | _ => none }
def FnExactAreAlikeWrongFalsely : Prop := fnExactAreAlikeRow.holds Try.pinned (OpenSpec.ofChange fnExactAreAlikeWrong)

/-- 'laws.FnExactCountBest': WHATEVER THE INPUT: true; the input reads as it did. -/
def fnExactCountBestSpec : ChangeSpec := { name := "fnExactCountBest", fn := fun _ => fun
  | [d1, d2] => { results := [.lit (.bool true)], args := [d1, d2] }
  | _ => none }
def fnExactCountBestRow : OpenClaim := { program := "ytnjabaeajjhliaa", sum := "6e7c72fe0a73288ce44c78650e8046ffd5263af645145ba14cf1ee32c7e9057c", func := "loop.example/g01137/laws.FnExactCountBest", spec := "fnExactCountBest", unfollowed := true, recurses := true, plainKeys := false, apart := false }
def FnExactCountBestSaid : Prop := fnExactCountBestRow.holds Try.pinned (OpenSpec.ofChange fnExactCountBestSpec)

/-- ITS FALSE NEIGHBOUR: 'it returns false'. Refute it at one input. -/
def fnExactCountBestWrong : ChangeSpec := { name := "fnExactCountBest", fn := fun _ => fun
  | [d1, d2] => { results := [.lit (.bool false)], args := [d1, d2] }
  | _ => none }
def FnExactCountBestWrongFalsely : Prop := fnExactCountBestRow.holds Try.pinned (OpenSpec.ofChange fnExactCountBestWrong)

/-- 'laws.FnExactLateWord': WHATEVER THE INPUT: true; the input reads as it did. -/
def fnExactLateWordSpec : ChangeSpec := { name := "fnExactLateWord", fn := fun _ => fun
  | [d1, d2, d3, d4] => { results := [.lit (.bool true)], args := [d1, d2, d3, d4] }
  | _ => none }
def fnExactLateWordRow : OpenClaim := { program := "ytnjabaeajjhliaa", sum := "6e7c72fe0a73288ce44c78650e8046ffd5263af645145ba14cf1ee32c7e9057c", func := "loop.example/g01137/laws.FnExactLateWord", spec := "fnExactLateWord", unfollowed := true, recurses := true, plainKeys := false, apart := false }
def FnExactLateWordSaid : Prop := fnExactLateWordRow.holds Try.pinned (OpenSpec.ofChange fnExactLateWordSpec)

/-- ITS FALSE NEIGHBOUR: 'it returns false'. Refute it at one input. -/
def fnExactLateWordWrong : ChangeSpec := { name := "fnExactLateWord", fn := fun _ => fun
  | [d1, d2, d3, d4] => { results := [.lit (.bool false)], args := [d1, d2, d3, d4] }
  | _ => none }
def FnExactLateWordWrongFalsely : Prop := fnExactLateWordRow.holds Try.pinned (OpenSpec.ofChange fnExactLateWordWrong)

/-- 'laws.FnExactCountRuns': WHATEVER THE INPUT: true; the input reads as it did. -/
def fnExactCountRunsSpec : ChangeSpec := { name := "fnExactCountRuns", fn := fun _ => fun
  | [d] => { results := [.lit (.bool true)], args := [d] }
  | _ => none }
def fnExactCountRunsRow : OpenClaim := { program := "ytnjabaeajjhliaa", sum := "6e7c72fe0a73288ce44c78650e8046ffd5263af645145ba14cf1ee32c7e9057c", func := "loop.example/g01137/laws.FnExactCountRuns", spec := "fnExactCountRuns", unfollowed := true, recurses := true, plainKeys := false, apart := false }
def FnExactCountRunsSaid : Prop := fnExactCountRunsRow.holds Try.pinned (OpenSpec.ofChange fnExactCountRunsSpec)

/-- ITS FALSE NEIGHBOUR: 'it returns false'. Refute it at one input. -/
def fnExactCountRunsWrong : ChangeSpec := { name := "fnExactCountRuns", fn := fun _ => fun
  | [d] => { results := [.lit (.bool false)], args := [d] }
  | _ => none }
def FnExactCountRunsWrongFalsely : Prop := fnExactCountRunsRow.holds Try.pinned (OpenSpec.ofChange fnExactCountRunsWrong)

/-- 'laws.FnExactSpaceOfRuns': WHATEVER THE INPUT: true; the input reads as it did. -/
def fnExactSpaceOfRunsSpec : ChangeSpec := { name := "fnExactSpaceOfRuns", fn := fun _ => fun
  | [d] => { results := [.lit (.bool true)], args := [d] }
  | _ => none }
def fnExactSpaceOfRunsRow : OpenClaim := { program := "ytnjabaeajjhliaa", sum := "6e7c72fe0a73288ce44c78650e8046ffd5263af645145ba14cf1ee32c7e9057c", func := "loop.example/g01137/laws.FnExactSpaceOfRuns", spec := "fnExactSpaceOfRuns", unfollowed := true, recurses := true, plainKeys := false, apart := false }
def FnExactSpaceOfRunsSaid : Prop := fnExactSpaceOfRunsRow.holds Try.pinned (OpenSpec.ofChange fnExactSpaceOfRunsSpec)

/-- ITS FALSE NEIGHBOUR: 'it returns false'. Refute it at one input. -/
def fnExactSpaceOfRunsWrong : ChangeSpec := { name := "fnExactSpaceOfRuns", fn := fun _ => fun
  | [d] => { results := [.lit (.bool false)], args := [d] }
  | _ => none }
def FnExactSpaceOfRunsWrongFalsely : Prop := fnExactSpaceOfRunsRow.holds Try.pinned (OpenSpec.ofChange fnExactSpaceOfRunsWrong)

/- THE SECOND FORM. 'bulk': how many values and letters a reading holds, each counted each time it is reached (what is shared counts as often as it is met; a slice's spare places count too). A statement '..UptoSaid' is the law's where the arguments, and the package variables that the reading takes, are together of bulk at most 1048576: NARROWER than '..Said'. Prove '..Said' where nothing that the law and all that it calls make is longer than what came in: it says more and counts as full. Else prove '..UptoSaid'. A law counts once. -/
mutual
def uptoBulk {H : Type} : DataW H → Nat
  | .lit (.string bytes) => bytes.length + 1
  | .lit _ => 1
  | .nil => 1
  | .ptr d => uptoBulk d + 1
  | .slice elems spare => uptoBulkAll elems + uptoBulkAll spare + 1
  | .agg parts => uptoBulkAll parts + 1
  | .iface _ d => uptoBulk d + 1
  | .map entries => uptoBulkEntries entries + 1
  | .held _ => 1
def uptoBulkAll {H : Type} : List (DataW H) → Nat
  | [] => 0
  | d :: r => uptoBulk d + uptoBulkAll r
def uptoBulkEntries {H : Type} : List (Lit × DataW H) → Nat
  | [] => 0
  | x :: r => uptoBulkEntry x + uptoBulkEntries r
def uptoBulkEntry {H : Type} : Lit × DataW H → Nat
  | (.string bytes, d) => bytes.length + uptoBulk d + 1
  | (_, d) => uptoBulk d + 1
 end
def uptoSmall : (H : Type) → List (DataW H) → Bool := fun _ ds => decide (uptoBulkAll ds ≤ 1048576)
def OpenSpec.upto (s : _root_.Go.ChangeSpec) : _root_.Go.OpenSpec := { _root_.Go.OpenSpec.ofChange s with cond := some uptoSmall }

/-- 'laws.FnExactCountSpaces', WHERE WHAT IT READS IS OF BULK AT MOST 1048576: true; the input reads as it did. -/
def fnExactCountSpacesUptoRow : OpenClaim := { program := "ytnjabaeajjhliaa", sum := "6e7c72fe0a73288ce44c78650e8046ffd5263af645145ba14cf1ee32c7e9057c", func := "loop.example/g01137/laws.FnExactCountSpaces", spec := "fnExactCountSpaces", unfollowed := true, recurses := true, plainKeys := false, apart := false, narrowed := true }
def FnExactCountSpacesUptoSaid : Prop := fnExactCountSpacesUptoRow.holds Try.pinned (OpenSpec.upto fnExactCountSpacesSpec)

/-- 'laws.FnExactAllSpaces', WHERE WHAT IT READS IS OF BULK AT MOST 1048576: true; the input reads as it did. -/
def fnExactAllSpacesUptoRow : OpenClaim := { program := "ytnjabaeajjhliaa", sum := "6e7c72fe0a73288ce44c78650e8046ffd5263af645145ba14cf1ee32c7e9057c", func := "loop.example/g01137/laws.FnExactAllSpaces", spec := "fnExactAllSpaces", unfollowed := true, recurses := true, plainKeys := false, apart := false, narrowed := true }
def FnExactAllSpacesUptoSaid : Prop := fnExactAllSpacesUptoRow.holds Try.pinned (OpenSpec.upto fnExactAllSpacesSpec)

/-- 'laws.FnExactSpaceAt', WHERE WHAT IT READS IS OF BULK AT MOST 1048576: true; the input reads as it did. -/
def fnExactSpaceAtUptoRow : OpenClaim := { program := "ytnjabaeajjhliaa", sum := "6e7c72fe0a73288ce44c78650e8046ffd5263af645145ba14cf1ee32c7e9057c", func := "loop.example/g01137/laws.FnExactSpaceAt", spec := "fnExactSpaceAt", unfollowed := true, recurses := true, plainKeys := false, apart := false, narrowed := true }
def FnExactSpaceAtUptoSaid : Prop := fnExactSpaceAtUptoRow.holds Try.pinned (OpenSpec.upto fnExactSpaceAtSpec)

/-- 'laws.FnExactRankSpace', WHERE WHAT IT READS IS OF BULK AT MOST 1048576: true; the input reads as it did. -/
def fnExactRankSpaceUptoRow : OpenClaim := { program := "ytnjabaeajjhliaa", sum := "6e7c72fe0a73288ce44c78650e8046ffd5263af645145ba14cf1ee32c7e9057c", func := "loop.example/g01137/laws.FnExactRankSpace", spec := "fnExactRankSpace", unfollowed := true, recurses := true, plainKeys := false, apart := false, narrowed := true }
def FnExactRankSpaceUptoSaid : Prop := fnExactRankSpaceUptoRow.holds Try.pinned (OpenSpec.upto fnExactRankSpaceSpec)

/-- 'laws.FnExactCountUpToNames', WHERE WHAT IT READS IS OF BULK AT MOST 1048576: true; the input reads as it did. -/
def fnExactCountUpToNamesUptoRow : OpenClaim := { program := "ytnjabaeajjhliaa", sum := "6e7c72fe0a73288ce44c78650e8046ffd5263af645145ba14cf1ee32c7e9057c", func := "loop.example/g01137/laws.FnExactCountUpToNames", spec := "fnExactCountUpToNames", unfollowed := true, recurses := true, plainKeys := false, apart := false, narrowed := true }
def FnExactCountUpToNamesUptoSaid : Prop := fnExactCountUpToNamesUptoRow.holds Try.pinned (OpenSpec.upto fnExactCountUpToNamesSpec)

/-- 'laws.FnExactNamesKept', WHERE WHAT IT READS IS OF BULK AT MOST 1048576: true; the input reads as it did. -/
def fnExactNamesKeptUptoRow : OpenClaim := { program := "ytnjabaeajjhliaa", sum := "6e7c72fe0a73288ce44c78650e8046ffd5263af645145ba14cf1ee32c7e9057c", func := "loop.example/g01137/laws.FnExactNamesKept", spec := "fnExactNamesKept", unfollowed := true, recurses := true, plainKeys := false, apart := false, narrowed := true }
def FnExactNamesKeptUptoSaid : Prop := fnExactNamesKeptUptoRow.holds Try.pinned (OpenSpec.upto fnExactNamesKeptSpec)

/-- 'laws.FnExactLeastNamed', WHERE WHAT IT READS IS OF BULK AT MOST 1048576: true; the input reads as it did. -/
def fnExactLeastNamedUptoRow : OpenClaim := { program := "ytnjabaeajjhliaa", sum := "6e7c72fe0a73288ce44c78650e8046ffd5263af645145ba14cf1ee32c7e9057c", func := "loop.example/g01137/laws.FnExactLeastNamed", spec := "fnExactLeastNamed", unfollowed := true, recurses := true, plainKeys := false, apart := false, narrowed := true }
def FnExactLeastNamedUptoSaid : Prop := fnExactLeastNamedUptoRow.holds Try.pinned (OpenSpec.upto fnExactLeastNamedSpec)

/-- 'laws.FnExactAreAlike', WHERE WHAT IT READS IS OF BULK AT MOST 1048576: true; the input reads as it did. -/
def fnExactAreAlikeUptoRow : OpenClaim := { program := "ytnjabaeajjhliaa", sum := "6e7c72fe0a73288ce44c78650e8046ffd5263af645145ba14cf1ee32c7e9057c", func := "loop.example/g01137/laws.FnExactAreAlike", spec := "fnExactAreAlike", unfollowed := true, recurses := true, plainKeys := false, apart := false, narrowed := true }
def FnExactAreAlikeUptoSaid : Prop := fnExactAreAlikeUptoRow.holds Try.pinned (OpenSpec.upto fnExactAreAlikeSpec)

/-- 'laws.FnExactCountBest', WHERE WHAT IT READS IS OF BULK AT MOST 1048576: true; the input reads as it did. -/
def fnExactCountBestUptoRow : OpenClaim := { program := "ytnjabaeajjhliaa", sum := "6e7c72fe0a73288ce44c78650e8046ffd5263af645145ba14cf1ee32c7e9057c", func := "loop.example/g01137/laws.FnExactCountBest", spec := "fnExactCountBest", unfollowed := true, recurses := true, plainKeys := false, apart := false, narrowed := true }
def FnExactCountBestUptoSaid : Prop := fnExactCountBestUptoRow.holds Try.pinned (OpenSpec.upto fnExactCountBestSpec)

/-- 'laws.FnExactLateWord', WHERE WHAT IT READS IS OF BULK AT MOST 1048576: true; the input reads as it did. -/
def fnExactLateWordUptoRow : OpenClaim := { program := "ytnjabaeajjhliaa", sum := "6e7c72fe0a73288ce44c78650e8046ffd5263af645145ba14cf1ee32c7e9057c", func := "loop.example/g01137/laws.FnExactLateWord", spec := "fnExactLateWord", unfollowed := true, recurses := true, plainKeys := false, apart := false, narrowed := true }
def FnExactLateWordUptoSaid : Prop := fnExactLateWordUptoRow.holds Try.pinned (OpenSpec.upto fnExactLateWordSpec)

/-- 'laws.FnExactCountRuns', WHERE WHAT IT READS IS OF BULK AT MOST 1048576: true; the input reads as it did. -/
def fnExactCountRunsUptoRow : OpenClaim := { program := "ytnjabaeajjhliaa", sum := "6e7c72fe0a73288ce44c78650e8046ffd5263af645145ba14cf1ee32c7e9057c", func := "loop.example/g01137/laws.FnExactCountRuns", spec := "fnExactCountRuns", unfollowed := true, recurses := true, plainKeys := false, apart := false, narrowed := true }
def FnExactCountRunsUptoSaid : Prop := fnExactCountRunsUptoRow.holds Try.pinned (OpenSpec.upto fnExactCountRunsSpec)

/-- 'laws.FnExactSpaceOfRuns', WHERE WHAT IT READS IS OF BULK AT MOST 1048576: true; the input reads as it did. -/
def fnExactSpaceOfRunsUptoRow : OpenClaim := { program := "ytnjabaeajjhliaa", sum := "6e7c72fe0a73288ce44c78650e8046ffd5263af645145ba14cf1ee32c7e9057c", func := "loop.example/g01137/laws.FnExactSpaceOfRuns", spec := "fnExactSpaceOfRuns", unfollowed := true, recurses := true, plainKeys := false, apart := false, narrowed := true }
def FnExactSpaceOfRunsUptoSaid : Prop := fnExactSpaceOfRunsUptoRow.holds Try.pinned (OpenSpec.upto fnExactSpaceOfRunsSpec)

end Rows
end Go.Proofs.Ytnjabaeajjhliaa
