/- Copies, comparisons and marks of lists and rows of whole numbers. -/
import Derived.Test.YtnnjehonbolliaaA1
namespace Go.Proofs.Ytnnjehonbolliaa
set_option linter.unusedSimpArgs false
set_option linter.unusedVariables false
open Go Go.Eng
attribute [local irreducible] WD RunD PreD Runs CallOK

/-- Numbers in a row, from k on. -/
def mkL (k : Int) (n : Nat) : List Int := (List.range n).map fun (i : Nat) => k + (i : Int)
@[simp] theorem mkL_length (k : Int) (n : Nat) : (mkL k n).length = n := by simp [mkL]
theorem mkL_get (k : Int) (n i : Nat) (h : i < (mkL k n).length) : (mkL k n)[i] = k + i := by simp [mkL]

end Go.Proofs.Ytnnjehonbolliaa
