/- Degrees and places that can be moved: reference, program, laws. -/
import Derived.Test.YtnjabaeajjhliaaA6
namespace Go.Proofs.Ytnjabaeajjhliaa
set_option linter.unusedSimpArgs false
set_option linter.unusedVariables false
set_option maxHeartbeats 4000000
open Go Go.Eng
attribute [local irreducible] WD RunD PreD Runs CallOK

/-- What a function on chips with a list and a truth as results is to do. -/
def FnCL (f : FuncId) (R : List (List Int) → List Int → List Int) (B : List (List Int) → List Int → Bool) : Prop :=
  ∀ (h : Hp) (v : Value) (L : List (List Int)) (A : List Int), Chips h v L A →
    ∃ u h', CallOK Try.prog f #[v] h (.tuple #[u, .bool (B L A)]) h' ∧ Adds h h' ∧ IntsO (Btw h.next h'.next) h' u (R L A)

noncomputable def degR (L : List (List Int)) (A : List Int) : List Int := if goodB L A then (List.range A.length).map (deg L) else []
noncomputable def canR (L : List (List Int)) (A : List Int) : List Int := if goodB L A then movesL L A else []
theorem good_of {L : List (List Int)} {A : List Int} (h : goodB L A = true) : Good L A := by
  unfold goodB at h; exact @of_decide_eq_true _ (Classical.propDecidable _) h

theorem degT_succ (L : List (List Int)) (j : Nat) : (List.range (j + 1)).map (deg L) = (List.range j).map (deg L) ++ [deg L j] := by
  rw [List.range_succ, List.map_append]; rfl

end Go.Proofs.Ytnjabaeajjhliaa
