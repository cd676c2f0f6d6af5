/- How much a run's results hold. -/
import Derived.Test.YtnnjehonbolliaaB3
namespace Go.Proofs.Ytnnjehonbolliaa
set_option linter.unusedSimpArgs false
set_option linter.unusedVariables false
set_option maxHeartbeats 4000000
open Go Go.Eng
attribute [local irreducible] WD RunD PreD Runs CallOK

theorem chL_le (L : List (List Int)) (r : Option (List Int)) : (chL L r).length ≤ L.length ∧ tot (chL L r) ≤ tot L := by cases r <;> simp [chL, tot]
theorem runA_length {L : List (List Int)} : ∀ {ms A B : List Int}, runA L A ms = some B → B.length = A.length
  | [], A, B, h => by simp only [runA, Option.some.injEq] at h; rw [h]
  | m :: ms, A, B, h => by
    simp only [runA] at h
    cases hs : stepA L A m with
    | none => rw [hs] at h; cases h
    | some C =>
      rw [hs] at h
      rw [runA_length h]
      unfold stepA at hs
      split at hs
      · simp only [Option.some.injEq] at hs; rw [← hs]; simp
      · cases hs
theorem runR_len (L : List (List Int)) (A ms : List Int) : (chA (runR L A ms)).length ≤ A.length ∧ (chL L (runR L A ms)).length ≤ L.length ∧ tot (chL L (runR L A ms)) ≤ tot L := by
  refine ⟨?_, chL_le _ _⟩
  unfold runR
  split
  · cases h : runA L A ms with
    | none => simp [chA]
    | some B => simp [chA, runA_length h]
  · simp [chA]

end Go.Proofs.Ytnnjehonbolliaa
