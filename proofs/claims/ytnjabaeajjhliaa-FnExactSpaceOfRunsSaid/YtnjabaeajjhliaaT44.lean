/- The space of runs: items are moves, and sets are what runs have moved. -/
import Derived.Test.YtnjabaeajjhliaaT42
import Derived.Test.YtnjabaeajjhliaaT43
namespace Go.Proofs.Ytnjabaeajjhliaa
set_option linter.unusedSimpArgs false
set_option linter.unusedVariables false
set_option maxHeartbeats 4000000
open Go Go.Eng

/-- The places of the items, and the first item of each place. -/
def placesN (F : List Int) (k : Nat) : List Int := (List.range k).flatMap fun (i : Nat) => List.replicate (F.getD i 0).toNat (i : Int)
def startN (F : List Int) (k : Nat) : Nat := (placesN F k).length
def startsL (F : List Int) (k : Nat) : List Int := toN ((List.range k).map (startN F))
theorem placesN_succ (F : List Int) (k : Nat) : placesN F (k + 1) = placesN F k ++ List.replicate (F.getD k 0).toNat (k : Int) := by simp [placesN, List.range_succ]
theorem startN_succ (F : List Int) (k : Nat) : startN F (k + 1) = startN F k + (F.getD k 0).toNat := by simp [startN, placesN_succ]
theorem startsL_succ (F : List Int) (k : Nat) : startsL F (k + 1) = startsL F k ++ [((startN F k : Nat) : Int)] := by simp [startsL, List.range_succ, toN]
@[simp] theorem startsL_len (F : List Int) (k : Nat) : (startsL F k).length = k := by simp [startsL]
theorem startsL_get (F : List Int) (k i : Nat) (h : i < (startsL F k).length) : (startsL F k)[i] = ((startN F i : Nat) : Int) := by simp [startsL, toN]
theorem startN_mono (F : List Int) {i k : Nat} (h : i ≤ k) : startN F i ≤ startN F k := by
  induction k with
  | zero => have : i = 0 := by omega
            subst this; exact Nat.le_refl _
  | succ k ih =>
    rcases Nat.lt_or_ge i (k + 1) with h1 | h1
    · have := ih (by omega); rw [startN_succ]; omega
    · have : i = k + 1 := by omega
      subst this; exact Nat.le_refl _
theorem startN_sum {F : List Int} (hF : ∀ y ∈ F, 0 ≤ y) : ∀ k, k ≤ F.length → ((startN F k : Nat) : Int) = (F.take k).sum
  | 0, _ => by simp [startN, placesN]
  | k + 1, h => by
    have h1 := startN_sum hF k (by omega)
    have h2 := hF _ (List.getElem_mem (show k < F.length by omega))
    rw [startN_succ, List.take_succ_eq_append_getElem (show k < F.length by omega), List.sum_append, getD_at (show k < F.length by omega)]
    simp; omega
/-- So many items, from one on. -/
def shN (a s : Nat) : Nat := (bit a - 1) <<< s
/-- The set of so many moves at each place. -/
def setN (F x : List Int) : Nat → Nat
  | 0 => 0
  | k + 1 => nOr (setN F x k) (shN (x.getD k 0).toNat (startN F k))
theorem shl_lt (a s : Nat) : shN a s < bit (s + a) := by
  unfold shN bit
  rw [Nat.shiftLeft_eq, Nat.pow_add, Nat.mul_comm (2 ^ s)]
  exact Nat.mul_lt_mul_of_pos_right (by have := Nat.two_pow_pos a; omega) (Nat.two_pow_pos s)
theorem setN_lt {F x : List Int} (hx : ∀ i, x.getD i 0 ≤ F.getD i 0) : ∀ k, setN F x k < bit (startN F k)
  | 0 => by simp [setN]; exact bit_pos _
  | k + 1 => by
    have h1 := setN_lt hx k
    have h2 := shl_lt (x.getD k 0).toNat (startN F k)
    have h3 := hx k
    rw [startN_succ]
    refine nOr_lt (Nat.lt_of_lt_of_le h1 (bit_mono (by omega))) (Nat.lt_of_lt_of_le h2 (bit_mono (by omega)))
theorem setN_zero (F : List Int) (n k : Nat) : setN F (List.replicate n 0) k = 0 := by
  induction k with
  | zero => rfl
  | succ k ih =>
    have : (List.replicate n (0 : Int)).getD k 0 = 0 := by simp [List.getD_eq_getElem?_getD, List.getElem?_replicate]; split <;> simp
    rw [setN, ih, this]
    simp [bit, nOr, shN]
noncomputable def isRunSet (L : List (List Int)) (A F : List Int) (a : Nat) : Bool := @decide (∃ x B, Rn L A x B ∧ setN F x A.length = a) (Classical.propDecidable _)
theorem isRunSet_iff {L : List (List Int)} {A F : List Int} {a : Nat} : isRunSet L A F a = true ↔ ∃ x B, Rn L A x B ∧ setN F x A.length = a := by
  unfold isRunSet; exact @decide_eq_true_iff _ (Classical.propDecidable _)
noncomputable def runSets (L : List (List Int)) (A F : List Int) : List Nat := famK (isRunSet L A F) 128
theorem runSets_eq {L : List (List Int)} {A F : List Int} {l : List Nat} (hs : l.Pairwise (· < ·)) (h1 : ∀ a ∈ l, a < 128 ∧ ∃ x B, Rn L A x B ∧ setN F x A.length = a) (h2 : ∀ x B, Rn L A x B → setN F x A.length ∈ l) : l = runSets L A F := by
  refine srt_ext hs ?_ fun a => ?_
  · exact List.Pairwise.filter _ List.pairwise_lt_range
  · unfold runSets famK
    rw [List.mem_filter, List.mem_range, isRunSet_iff]
    constructor
    · intro h; exact h1 a h
    · rintro ⟨_, x, B, hr, rfl⟩; exact h2 x B hr
noncomputable def rsF (L : List (List Int)) (A : List Int) : List Int := (countsR L A).getD []
noncomputable def rsB (L : List (List Int)) (A : List Int) : Bool := (countsR L A).isSome && sizeB ((placesN (rsF L A) A.length).length : Int)
noncomputable def rsN (L : List (List Int)) (A : List Int) : Int := if rsB L A = true then ((placesN (rsF L A) A.length).length : Int) else 0
noncomputable def rsX (L : List (List Int)) (A : List Int) : List Int := if rsB L A = true then toN (runSets L A (rsF L A)) else []
noncomputable def rsP (L : List (List Int)) (A : List Int) : List Int := if rsB L A = true then placesN (rsF L A) A.length else []
/-- What full runs say of it. -/
theorem rs_full {L : List (List Int)} {A run E : List Int} (hf : fullR L A [] = some (run, E)) (hs : Shape L A.length) : rsF L A = cntL A.length run ∧ startN (rsF L A) A.length = run.length ∧ (rsF L A).length = A.length ∧ (∀ y ∈ rsF L A, 0 ≤ y ∧ y ≤ 60) ∧ (∀ i, startN (rsF L A) i ≤ run.length ∨ A.length < i) ∧
    (∀ x B, Rn L A x B → ∀ i, x.getD i 0 ≤ (rsF L A).getD i 0) ∧ rsB L A = sizeB (run.length : Int) := by
  have f := fullR_fin (by simp) hf
  have hR : run.length ≤ 60 := (fullR_len (by simp) hf).1
  have e : rsF L A = cntL A.length run := by simp [rsF, countsR, hf, fst?]
  have hl := f.rn.len.2
  have hb := f.rn.small (by rw [f.sum]; omega)
  have hst : startN (cntL A.length run) A.length = run.length := by
    have := startN_sum (fun y hy => (hb y hy).1) A.length (by omega)
    rw [List.take_of_length_le (by omega), f.sum] at this
    omega
  rw [e]
  refine ⟨rfl, hst, hl, hb, fun i => ?_, fun x B hr i => f.rn.le f.last hr hs i, ?_⟩
  · by_cases hi : i ≤ A.length
    · left; rw [← hst]; exact startN_mono _ hi
    · right; omega
  · have : (countsR L A).isSome = true := by simp [countsR, hf, fst?]
    rw [rsB, this, e, Bool.true_and]
    show sizeB ((startN (cntL A.length run) A.length : Nat) : Int) = _
    rw [hst]
end Go.Proofs.Ytnjabaeajjhliaa
