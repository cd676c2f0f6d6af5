/- How much the results of full runs hold. -/
import Derived.Test.YtnnjehonbolliaaB8
namespace Go.Proofs.Ytnnjehonbolliaa
set_option linter.unusedSimpArgs false
set_option linter.unusedVariables false
set_option maxHeartbeats 4000000
open Go Go.Eng

theorem fullR_len {L : List (List Int)} {A cs : List Int} (hcs : ∀ x ∈ cs, 0 ≤ x) {q : List Int × List Int} (h : fullR L A cs = some q) : q.1.length ≤ 60 ∧ q.2.length = A.length := by
  unfold fullR at h
  split at h
  · have := fullA_run (r := q.1) (B := q.2) hcs h (by simp) (by simp)
    exact ⟨this.1, this.2.2⟩
  · cases h
theorem firstR_len (L : List (List Int)) (A : List Int) : ((firstR L A).getD []).length ≤ 60 := by
  unfold firstR
  cases h : fullR L A [] with
  | none => simp [fst?]
  | some q => have := fullR_len (by simp) h; simpa [fst?] using this.1
theorem byR_len (L : List (List Int)) (A cs : List Int) : (fRun (byR L A cs)).length ≤ 60 := by
  unfold byR
  split
  · rename_i hc
    cases h : fullR L A cs with
    | none => simp [fRun]
    | some q => exact (fullR_len (chW_spec hc).2 h).1
  · simp [fRun]
theorem finalR_len (L : List (List Int)) (A : List Int) : (chA (finalR L A)).length ≤ A.length ∧ (chL L (finalR L A)).length ≤ L.length ∧ tot (chL L (finalR L A)) ≤ tot L := by
  refine ⟨?_, chL_le _ _⟩
  unfold finalR
  cases h : fullR L A [] with
  | none => simp [snd?, chA]
  | some q => have := fullR_len (by simp) h; simp [snd?, chA, this.2]
theorem countsR_len (L : List (List Int)) (A : List Int) : ((countsR L A).getD []).length ≤ A.length := by
  unfold countsR
  cases h : fullR L A [] with
  | none => simp [fst?]
  | some q => simp [fst?]
end Go.Proofs.Ytnnjehonbolliaa
