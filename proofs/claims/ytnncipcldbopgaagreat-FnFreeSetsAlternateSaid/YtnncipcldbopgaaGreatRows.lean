/-
  No cell of these rows narrows 'for every input' (looked for: loops, veiled, ifaces, maps, wideKeys, modest, calm, conditions, laid).
  DERIVED. THE GIVEN ROWS OF THIS SEAT. 3 by the template 'for every input the law returns true; each argument reads behind the call as it read before'; 0 by the template 'total and deterministic' (their statements: YtnncipcldbopgaaGreatTotals.lean).
  GIVEN WITH THE SEED: the statements are not yours to turn. If you find one false, say at which input.
  Laid BY PROGRAM, IN A SANDBOX (cutbox-rows.mjs): the forced cells as the released guide's own fill.sh prints them over the translation 0ab6b1dcdeaa8149… (all of the seat's roots in one cut). By AI agents, Wed Nov 11 2026. No macro, syntax, notation, axiom, sorry.
-/
import Derived.Test.YtnncipcldbopgaaGreatChecked
import GoSem.Claim
import GoSem.ClaimJoined
import GoSem.ClaimMapViews
import Derived.JoinedTies
import Derived.KernelRfl
namespace Go.Proofs.YtnncipcldbopgaaGreat
/- THE CELL 'sum', in the pinned program and in every row, IS THE sha256 OF THE DUMP (.gsa) THAT YtnncipcldbopgaaGreatProg.lean LOADS. Nothing in Lean hashes anything: it is a label: what it is worth is what the hold of that sum in a sandbox is worth. -/
noncomputable def Tryz.pinned : Pinned := { name := "ytnncipcldbopgaagreat", sum := "0ab6b1dcdeaa814970ccd286de9dafe6aa04dc38bb4ea3373f816535377b9a73", checked := Tryz.checked }
namespace Rows
def none {H : Type} : Left H := { results := [], args := [] }

/-- 'laws.FnFreeSetsAlternate': WHATEVER THE INPUT: true; the input reads as it did. -/
def fnFreeSetsAlternateSpec : ChangeSpec := { name := "fnFreeSetsAlternate", fn := fun _ => fun
  | [d1, d2] => { results := [.lit (.bool true)], args := [d1, d2] }
  | _ => none }
def fnFreeSetsAlternateRow : OpenClaim := { program := "ytnncipcldbopgaagreat", sum := "0ab6b1dcdeaa814970ccd286de9dafe6aa04dc38bb4ea3373f816535377b9a73", func := "loop.example/g01137/laws.FnFreeSetsAlternate", spec := "fnFreeSetsAlternate", unfollowed := true, recurses := true, apart := false }
def FnFreeSetsAlternateSaid : Prop := fnFreeSetsAlternateRow.holds Tryz.pinned (OpenSpec.ofChange fnFreeSetsAlternateSpec)

/-- ITS FALSE NEIGHBOUR: 'it returns false'. Refute it at one input. -/
def fnFreeSetsAlternateWrong : ChangeSpec := { name := "fnFreeSetsAlternate", fn := fun _ => fun
  | [d1, d2] => { results := [.lit (.bool false)], args := [d1, d2] }
  | _ => none }
def FnFreeSetsAlternateWrongFalsely : Prop := fnFreeSetsAlternateRow.holds Tryz.pinned (OpenSpec.ofChange fnFreeSetsAlternateWrong)

/-- 'laws.FnAlikeSpaces': WHATEVER THE INPUT: true; the input reads as it did. -/
def fnAlikeSpacesSpec : ChangeSpec := { name := "fnAlikeSpaces", fn := fun _ => fun
  | [d1, d2] => { results := [.lit (.bool true)], args := [d1, d2] }
  | _ => none }
def fnAlikeSpacesRow : OpenClaim := { program := "ytnncipcldbopgaagreat", sum := "0ab6b1dcdeaa814970ccd286de9dafe6aa04dc38bb4ea3373f816535377b9a73", func := "loop.example/g01137/laws.FnAlikeSpaces", spec := "fnAlikeSpaces", unfollowed := true, recurses := true, apart := false }
def FnAlikeSpacesSaid : Prop := fnAlikeSpacesRow.holds Tryz.pinned (OpenSpec.ofChange fnAlikeSpacesSpec)

/-- ITS FALSE NEIGHBOUR: 'it returns false'. Refute it at one input. -/
def fnAlikeSpacesWrong : ChangeSpec := { name := "fnAlikeSpaces", fn := fun _ => fun
  | [d1, d2] => { results := [.lit (.bool false)], args := [d1, d2] }
  | _ => none }
def FnAlikeSpacesWrongFalsely : Prop := fnAlikeSpacesRow.holds Tryz.pinned (OpenSpec.ofChange fnAlikeSpacesWrong)

/-- 'laws.FnPointsFromOutside': WHATEVER THE INPUT: true; the input reads as it did. -/
def fnPointsFromOutsideSpec : ChangeSpec := { name := "fnPointsFromOutside", fn := fun _ => fun
  | [d1, d2] => { results := [.lit (.bool true)], args := [d1, d2] }
  | _ => none }
def fnPointsFromOutsideRow : OpenClaim := { program := "ytnncipcldbopgaagreat", sum := "0ab6b1dcdeaa814970ccd286de9dafe6aa04dc38bb4ea3373f816535377b9a73", func := "loop.example/g01137/laws.FnPointsFromOutside", spec := "fnPointsFromOutside", unfollowed := true, recurses := true, apart := false }
def FnPointsFromOutsideSaid : Prop := fnPointsFromOutsideRow.holds Tryz.pinned (OpenSpec.ofChange fnPointsFromOutsideSpec)

/-- ITS FALSE NEIGHBOUR: 'it returns false'. Refute it at one input. -/
def fnPointsFromOutsideWrong : ChangeSpec := { name := "fnPointsFromOutside", fn := fun _ => fun
  | [d1, d2] => { results := [.lit (.bool false)], args := [d1, d2] }
  | _ => none }
def FnPointsFromOutsideWrongFalsely : Prop := fnPointsFromOutsideRow.holds Tryz.pinned (OpenSpec.ofChange fnPointsFromOutsideWrong)

/- THE SECOND FORM. 'bulk': how many values and letters a reading holds, each counted each time it is reached (what is shared counts as often as it is met; a slice's spare places count too). A statement '..UptoSaid' is the law's where the arguments, and the package variables that the reading takes, are together of bulk at most 1048576: NARROWER than '..Said'. Prove '..Said' where nothing that the law and all that it calls make is longer than what came in: it says more and counts as full. Else prove '..UptoSaid'. A law counts once. -/
mutual
def uptoBulk {H : Type} : DataW H → Nat
  | .lit (.string bytes) => bytes.length + 1
  | .lit _ => 1
  | .nil => 1
  | .ptr d => uptoBulk d + 1
  | .slice elems spare => uptoBulkAll elems + uptoBulkAll spare + 1
  | .agg parts => uptoBulkAll parts + 1
  | .iface _ d => uptoBulk d + 1
  | .map entries => uptoBulkEntries entries + 1
  | .held _ => 1
def uptoBulkAll {H : Type} : List (DataW H) → Nat
  | [] => 0
  | d :: r => uptoBulk d + uptoBulkAll r
def uptoBulkEntries {H : Type} : List (Lit × DataW H) → Nat
  | [] => 0
  | x :: r => uptoBulkEntry x + uptoBulkEntries r
def uptoBulkEntry {H : Type} : Lit × DataW H → Nat
  | (.string bytes, d) => bytes.length + uptoBulk d + 1
  | (_, d) => uptoBulk d + 1
 end
def uptoSmall : (H : Type) → List (DataW H) → Bool := fun _ ds => decide (uptoBulkAll ds ≤ 1048576)
def OpenSpec.upto (s : _root_.Go.ChangeSpec) : _root_.Go.OpenSpec := { _root_.Go.OpenSpec.ofChange s with cond := some uptoSmall }

/-- 'laws.FnFreeSetsAlternate', WHERE WHAT IT READS IS OF BULK AT MOST 1048576: true; the input reads as it did. -/
def fnFreeSetsAlternateUptoRow : OpenClaim := { program := "ytnncipcldbopgaagreat", sum := "0ab6b1dcdeaa814970ccd286de9dafe6aa04dc38bb4ea3373f816535377b9a73", func := "loop.example/g01137/laws.FnFreeSetsAlternate", spec := "fnFreeSetsAlternate", unfollowed := true, recurses := true, apart := false, narrowed := true }
def FnFreeSetsAlternateUptoSaid : Prop := fnFreeSetsAlternateUptoRow.holds Tryz.pinned (OpenSpec.upto fnFreeSetsAlternateSpec)

/-- 'laws.FnAlikeSpaces', WHERE WHAT IT READS IS OF BULK AT MOST 1048576: true; the input reads as it did. -/
def fnAlikeSpacesUptoRow : OpenClaim := { program := "ytnncipcldbopgaagreat", sum := "0ab6b1dcdeaa814970ccd286de9dafe6aa04dc38bb4ea3373f816535377b9a73", func := "loop.example/g01137/laws.FnAlikeSpaces", spec := "fnAlikeSpaces", unfollowed := true, recurses := true, apart := false, narrowed := true }
def FnAlikeSpacesUptoSaid : Prop := fnAlikeSpacesUptoRow.holds Tryz.pinned (OpenSpec.upto fnAlikeSpacesSpec)

/-- 'laws.FnPointsFromOutside', WHERE WHAT IT READS IS OF BULK AT MOST 1048576: true; the input reads as it did. -/
def fnPointsFromOutsideUptoRow : OpenClaim := { program := "ytnncipcldbopgaagreat", sum := "0ab6b1dcdeaa814970ccd286de9dafe6aa04dc38bb4ea3373f816535377b9a73", func := "loop.example/g01137/laws.FnPointsFromOutside", spec := "fnPointsFromOutside", unfollowed := true, recurses := true, apart := false, narrowed := true }
def FnPointsFromOutsideUptoSaid : Prop := fnPointsFromOutsideUptoRow.holds Tryz.pinned (OpenSpec.upto fnPointsFromOutsideSpec)

end Rows
end Go.Proofs.YtnncipcldbopgaaGreat
