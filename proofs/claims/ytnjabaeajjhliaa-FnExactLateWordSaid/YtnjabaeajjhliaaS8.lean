/- SizesOf, IsFreeSpace, RandomWalk: what both sides hand back. -/
import Derived.Test.YtnjabaeajjhliaaS7
namespace Go.Proofs.Ytnjabaeajjhliaa
set_option linter.unusedSimpArgs false
set_option linter.unusedVariables false
set_option maxHeartbeats 4000000
open Go Go.Eng
attribute [local irreducible] WD RunD PreD Runs CallOK

def natsOf (X : List Int) : List Nat := X.map Int.toNat
@[simp] theorem natsOf_toN (xs : List Nat) : natsOf (toN xs) = xs := by
  unfold natsOf toN
  rw [List.map_map]
  conv => rhs; rw [← List.map_id xs]
  apply List.map_congr_left
  intro x _
  simp

noncomputable def freeB (N : Int) (X : List Int) : Bool := spB N X && ((X.length : Int) == ((bit N.toNat : Nat) : Int))
theorem toN_set (l : List Nat) (i x : Nat) : (toN l).set i ((x : Int)) = toN (l.set i x) := by simp [toN, List.map_set]
theorem toN_map (l : List Nat) : (toN l).map (Value.int .i64) = l.map fun (n : Nat) => Value.int .i64 (n : Int) := by simp [toN]
theorem sizes_zero (n : Nat) : List.replicate (n + 1) (Value.int .i64 0) = (toN (sizesN n [])).map (Value.int .i64) := by
  rw [toN_map]
  apply List.ext_getElem (by simp)
  intro i h1 h2
  simp [sizesN_get]
theorem sizes_step {n : Nat} {xs : List Nat} {j : Nat} (hj : j < xs.length) (hp : pcN xs[j] ≤ n) (y : Nat) (hy : (sizesN n (xs.take j))[pcN xs[j]]'(by simp; omega) = y) :
    (toN (sizesN n (xs.take j))).set (pcN xs[j]) ((y : Int) + 1) = toN (sizesN n (xs.take (j + 1))) := by
  rw [List.take_succ_eq_append_getElem hj, sizesN_snoc _ _ _ hp, ← toN_set, hy]
  push_cast; rfl

noncomputable def sizesR (N : Int) (X : List Int) : List Int := if spB N X = true then toN (sizesN N.toNat (natsOf X)) else []
theorem sizesR_len (N : Int) (X : List Int) : (sizesR N X).length ≤ 8 := by
  unfold sizesR
  split
  · rename_i h
    obtain ⟨n, xs, rfl, rfl, g⟩ := spB_true h
    have := g.n7
    simp; omega
  · simp

/-- The cells of sizes: one of them, and one more. -/
def sizesC (n : Nat) (xs : List Nat) : List Value := (toN (sizesN n xs)).map (.int .i64)
@[simp] theorem sizesC_length (n : Nat) (xs : List Nat) : (sizesC n xs).length = n + 1 := by simp [sizesC]
theorem sizesC_zero (n : Nat) : List.replicate (n + 1) (Value.int .i64 0) = sizesC n [] := sizes_zero n
theorem sizesC_step {n : Nat} {xs : List Nat} {j : Nat} (hj : j < xs.length) (hp : pcN xs[j] ≤ n) : ∃ y : Nat, y ≤ xs.length ∧ (sizesC n (xs.take j))[pcN xs[j]]?.getD undef = .int .i64 (y : Int) ∧ (∀ (hh : pcN xs[j] < (sizesC n (xs.take j)).length), (sizesC n (xs.take j))[pcN xs[j]] = .int .i64 (y : Int)) ∧
    (sizesC n (xs.take j)).set (pcN xs[j]) (.int .i64 ((y : Int) + 1)) = sizesC n (xs.take (j + 1)) := by
  have hk : pcN xs[j] < (sizesN n (xs.take j)).length := by simp; omega
  have h1 : ∀ (hh : pcN xs[j] < (sizesC n (xs.take j)).length), (sizesC n (xs.take j))[pcN xs[j]] = .int .i64 (((sizesN n (xs.take j))[pcN xs[j]] : Nat) : Int) := fun hh => by
    simp only [sizesC, List.getElem_map, toN_get]
  refine ⟨(sizesN n (xs.take j))[pcN xs[j]], ?_, ?_, h1, ?_⟩
  · have := sizesN_le n (xs.take j) _ hk
    have h2 : (xs.take j).length ≤ xs.length := by simp; omega
    omega
  · rw [List.getElem?_eq_getElem (by simpa using hk), h1]; rfl
  · rw [sizesC, sizesC, ← sizes_step hj hp _ rfl, List.map_set]

end Go.Proofs.Ytnjabaeajjhliaa
