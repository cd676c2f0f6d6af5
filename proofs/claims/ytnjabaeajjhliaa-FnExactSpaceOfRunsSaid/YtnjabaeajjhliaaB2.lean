/- Runs of moves: what they are, by the reference and by the program. -/
import Derived.Test.YtnjabaeajjhliaaB1
import Derived.Test.YtnjabaeajjhliaaA8
namespace Go.Proofs.Ytnjabaeajjhliaa
set_option linter.unusedSimpArgs false
set_option linter.unusedVariables false
set_option maxHeartbeats 4000000
open Go Go.Eng
attribute [local irreducible] WD RunD PreD Runs CallOK

/-- Chips that may be moved on. -/
structure Ok (L : List (List Int)) (A : List Int) : Prop where
  sh : Shape L A.length
  nn : ∀ x ∈ A, 0 ≤ x
  sm : A.sum ≤ 30
theorem Good.ok {L : List (List Int)} {A : List Int} (h : Good L A) : Ok L A := ⟨h.shape, fun x hx => (h.2.2.1 x hx).1, h.2.2.2.2.2.2⟩
theorem sum_nn : ∀ {A : List Int}, (∀ x ∈ A, 0 ≤ x) → 0 ≤ A.sum
  | [], _ => by simp
  | x :: A, h => by
    have := sum_nn (A := A) fun y hy => h y (List.mem_cons_of_mem _ hy)
    have := h x (List.mem_cons_self)
    simp; omega
theorem le_sum : ∀ {A : List Int}, (∀ x ∈ A, 0 ≤ x) → ∀ {x : Int}, x ∈ A → x ≤ A.sum
  | [], _, x, hx => by cases hx
  | y :: A, h, x, hx => by
    have h1 := sum_nn (A := A) fun y hy => h y (List.mem_cons_of_mem _ hy)
    have h2 := h y (List.mem_cons_self)
    rcases List.mem_cons.1 hx with rfl | hx
    · simp; omega
    · have := le_sum (A := A) (fun y hy => h y (List.mem_cons_of_mem _ hy)) hx
      simp; omega
theorem Ok.small {L : List (List Int)} {A : List Int} (h : Ok L A) : Small A := fun x hx => by
  have := le_sum h.nn hx; have := h.nn x hx; have := h.sm; omega
theorem Ok.le {L : List (List Int)} {A : List Int} (h : Ok L A) : A.length ≤ 5 := h.sh.le

theorem sum_moveA {L : List (List Int)} {A : List Int} (hs : Shape L A.length) {i : Nat} (hi : i < A.length) : (moveA L A i).sum = A.sum := by
  have hi' : i < L.length := by have := hs.len; omega
  have h1 := hs.at hi'
  have key : ∀ k, k ≤ A.length → ((List.range k).map fun (j : Nat) => A.getD j 0 + (L.getD i []).getD j 0 - if j = i then deg L i else 0).sum = (A.take k).sum + (L[i].take k).sum - if i < k then deg L i else 0 := by
    intro k
    induction k with
    | zero => intro _; simp
    | succ k ih =>
      intro hk
      rw [List.range_succ, List.map_append, List.sum_append, ih (by omega), sum_step (A := A) (by omega), sum_step (A := L[i]) (by omega)]
      have e1 : A.getD k 0 = A[k] := by simp [show k < A.length by omega]
      have e2 : (L.getD i []).getD k 0 = L[i][k] := by simp [hi', show k < L[i].length by omega]
      simp only [List.map_cons, List.map_nil, List.sum_cons, List.sum_nil, e1, e2]
      by_cases h1 : k = i
      · subst h1; simp; omega
      · by_cases h2 : i < k
        · simp [h1, h2, show i < k + 1 by omega]; omega
        · simp [h1, h2, show ¬ i < k + 1 by omega]; omega
  have := key A.length (Nat.le_refl _)
  unfold moveA
  rw [this, List.take_length, List.take_of_length_le (by omega), deg_eq hi', if_pos hi]
  omega
theorem Ok.move {L : List (List Int)} {A : List Int} (h : Ok L A) {i : Nat} (hi : i < A.length) (hc : canB L A i = true) : Ok L (moveA L A i) := by
  refine ⟨by simpa using h.sh, fun x hx => ?_, by rw [sum_moveA h.sh hi]; exact h.sm⟩
  obtain ⟨k, hk, rfl⟩ := List.getElem_of_mem hx
  have hk' : k < A.length := by simpa using hk
  have hi' : i < L.length := by have := h.sh.len; omega
  have h1 := h.sh.at hi'
  rw [moveA_get L A i k hk' hk hi' (by omega)]
  have h2 := h.nn _ (List.getElem_mem hk')
  have h3 := h1.2 _ (List.getElem_mem (show k < L[i].length by omega))
  by_cases e : k = i
  · subst e
    simp [canB, hk'] at hc
    rw [if_pos rfl]; omega
  · rw [if_neg e]; omega

/-- One move of a run. -/
def stepA (L : List (List Int)) (A : List Int) (m : Int) : Option (List Int) := if 0 ≤ m ∧ m < A.length ∧ canB L A m.toNat = true then some (moveA L A m.toNat) else none
def runA (L : List (List Int)) : List Int → List Int → Option (List Int)
  | A, [] => some A
  | A, m :: l => match stepA L A m with
    | some B => runA L B l
    | none => none
theorem runA_append (L : List (List Int)) : ∀ (xs ys A : List Int), runA L A (xs ++ ys) = match runA L A xs with
    | some B => runA L B ys
    | none => none
  | [], ys, A => rfl
  | m :: xs, ys, A => by
    simp only [List.cons_append, runA]
    cases stepA L A m with
    | none => rfl
    | some B => exact runA_append L xs ys B
theorem runA_step {L : List (List Int)} {A B ms : List Int} {j : Nat} (hj : j < ms.length) (h : runA L A (ms.take j) = some B) : runA L A (ms.take (j + 1)) = stepA L B ms[j] := by
  rw [List.take_succ_eq_append_getElem hj, runA_append, h]
  simp only [runA]
  cases stepA L B ms[j] <;> rfl
theorem runA_stop {L : List (List Int)} {A ms : List Int} {j : Nat} (h : runA L A (ms.take j) = none) : runA L A ms = none := by
  have := runA_append L (ms.take j) (ms.drop j) A
  rw [List.take_append_drop, h] at this
  exact this

theorem stepA_some {L : List (List Int)} {A : List Int} {i : Nat} (hi : i < A.length) (hc : canB L A i = true) : stepA L A (i : Int) = some (moveA L A i) := by
  unfold stepA; rw [if_pos ⟨by omega, by omega, by simpa using hc⟩]; rfl
theorem stepA_cannot {L : List (List Int)} {A : List Int} {i : Nat} (hc : canB L A i = false) : stepA L A (i : Int) = none := by
  unfold stepA; rw [if_neg (fun q => by simp [hc] at q)]
theorem stepA_out {L : List (List Int)} {A : List Int} {m : Int} (h : ¬ (0 ≤ m ∧ m ≤ (A.length : Int) - 1)) : stepA L A m = none := by
  unfold stepA; rw [if_neg (fun q => h ⟨q.1, by omega⟩)]

/-- What runs of chips are. -/
noncomputable def runR (L : List (List Int)) (A ms : List Int) : Option (List Int) := if goodB L A = true ∧ ms.length ≤ 120 then runA L A ms else none
/-- The chips behind a call that may fail. -/
def chL (L : List (List Int)) : Option (List Int) → List (List Int)
  | some _ => L
  | none => []
def chA : Option (List Int) → List Int
  | some B => B
  | none => []
/-- What a function on chips and a list with chips and a truth as results is to do. -/
def FnCIC (f : FuncId) (R : List (List Int) → List Int → List Int → Option (List Int)) : Prop :=
  ∀ (h : Hp) (v w : Value) (L : List (List Int)) (A ms : List Int), Chips h v L A → Ints h w ms →
    ∃ v' h', CallOK Try.prog f #[v, w] h v' h' ∧ Adds h h' ∧ ∃ u, v' = .tuple #[u, .bool (R L A ms).isSome] ∧ ChipsO (Btw h.next h'.next) h' u (chL L (R L A ms)) (chA (R L A ms))
theorem runR_bad {L : List (List Int)} {A ms : List Int} (h : ¬ (goodB L A = true ∧ ms.length ≤ 120)) : runR L A ms = none := if_neg h
theorem runR_good {L : List (List Int)} {A ms : List Int} (h : goodB L A = true ∧ ms.length ≤ 120) : runR L A ms = runA L A ms := if_pos h
theorem row_le {L : List (List Int)} {n : Nat} (h : Shape L n) : L.length < 2 ^ 39 ∧ ∀ x ∈ L, x.length < 2 ^ 39 := by
  have := h.len; have := h.le
  exact ⟨by omega, fun x hx => by have := (h.row x hx).1; omega⟩

end Go.Proofs.Ytnjabaeajjhliaa
