/- IsRun and MoveChips: reference and program. -/
import Derived.Test.YtnjabaeajjhliaaB2
namespace Go.Proofs.Ytnjabaeajjhliaa
set_option linter.unusedSimpArgs false
set_option linter.unusedVariables false
set_option maxHeartbeats 4000000
open Go Go.Eng
attribute [local irreducible] WD RunD PreD Runs CallOK

/-- Whether a list is a run, and whether that can be told. -/
noncomputable def isR (L : List (List Int)) (A ms : List Int) : Bool := (runR L A ms).isSome
noncomputable def isG (L : List (List Int)) (A ms : List Int) : Bool := goodB L A && decide (ms.length ≤ 120)

/-- What a function on chips and a number with chips and a truth as results is to do. -/
def FnCNC (f : FuncId) (R : List (List Int) → List Int → Int → Option (List Int)) : Prop :=
  ∀ (h : Hp) (v : Value) (L : List (List Int)) (A : List Int) (i : Int), Chips h v L A →
    ∃ v' h', CallOK Try.prog f #[v, .int .i64 i] h v' h' ∧ Adds h h' ∧ ∃ u, v' = .tuple #[u, .bool (R L A i).isSome] ∧ ChipsO (Btw h.next h'.next) h' u (chL L (R L A i)) (chA (R L A i))
noncomputable def moveR (L : List (List Int)) (A : List Int) (i : Int) : Option (List Int) := runR L A [i]

theorem moveR_eq (L : List (List Int)) (A : List Int) (i : Int) : moveR L A i = if goodB L A = true then stepA L A i else none := by
  unfold moveR runR
  simp [runA]
  split
  · cases stepA L A i <;> rfl
  · rfl

end Go.Proofs.Ytnjabaeajjhliaa
