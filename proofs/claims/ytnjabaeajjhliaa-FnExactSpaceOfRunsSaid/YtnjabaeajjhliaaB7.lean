/- Choices; the functions that tell full runs. -/
import Derived.Test.YtnjabaeajjhliaaB6
import Derived.Test.YtnjabaeajjhliaaB4
namespace Go.Proofs.Ytnjabaeajjhliaa
set_option linter.unusedSimpArgs false
set_option linter.unusedVariables false
set_option maxHeartbeats 4000000
open Go Go.Eng
attribute [local irreducible] WD RunD PreD Runs CallOK

/-- The first index for which something holds, or -1. -/
def idxF (p : Int → Bool) : List Int → Int
  | [] => -1
  | x :: l => if p x then 0 else if idxF p l < 0 then -1 else idxF p l + 1
theorem idxF_range (p : Int → Bool) : ∀ (l : List Int), -1 ≤ idxF p l ∧ idxF p l < l.length
  | [] => by simp [idxF]
  | x :: l => by
    have := idxF_range p l
    unfold idxF
    split
    · simp <;> omega
    · split <;> simp <;> omega
theorem idxF_at (p : Int → Bool) : ∀ (l : List Int) (j : Nat) (hj : j < l.length), (∀ i (hi : i < l.length), i < j → p l[i] = false) → p l[j] = true → idxF p l = j
  | [], _, hj, _, _ => absurd hj (by simp)
  | x :: l, 0, hj, h1, h2 => by simp at h2; simp [idxF, h2]
  | x :: l, j + 1, hj, h1, h2 => by
    have h0 := h1 0 (by simp) (by omega)
    simp at h0
    have := idxF_at p l j (by simpa using hj) (fun i hi hij => by have := h1 (i + 1) (by simpa using hi) (by omega); simpa using this) (by simpa using h2)
    simp [idxF, h0, this]; omega
theorem idxF_none (p : Int → Bool) : ∀ (l : List Int), (∀ x ∈ l, p x = false) → idxF p l = -1
  | [], _ => rfl
  | x :: l, h => by
    have := idxF_none p l fun y hy => h y (List.mem_cons_of_mem _ hy)
    simp [idxF, h x (List.mem_cons_self), this]
theorem idxF_neg (p : Int → Bool) : ∀ (l : List Int), idxF p l < 0 → ∀ x ∈ l, p x = false
  | [], _, x, hx => by cases hx
  | y :: l, h, x, hx => by
    unfold idxF at h
    split at h
    · omega
    · rename_i hy
      split at h
      · rename_i hl
        rcases List.mem_cons.1 hx with rfl | hx
        · simpa using hy
        · exact idxF_neg p l hl x hx
      · omega

/-- Whether numbers are choices. -/
def chB (cs : List Int) (most : Int) : Bool := decide ((cs.length : Int) ≤ most ∧ ∀ x ∈ cs, 0 ≤ x)
noncomputable def byR (L : List (List Int)) (A cs : List Int) : Option (List Int × List Int) := if chB cs 60 = true then fullR L A cs else none
/-- What a function on chips and a list with a run and a truth as results is to do. -/
def FnCIL (f : FuncId) (R : List (List Int) → List Int → List Int → Option (List Int × List Int)) : Prop :=
  ∀ (h : Hp) (v w : Value) (L : List (List Int)) (A ms : List Int), Chips h v L A → Ints h w ms →
    ∃ v' h', CallOK Try.prog f #[v, w] h v' h' ∧ Adds h h' ∧ ∃ u, v' = .tuple #[u, .bool (R L A ms).isSome] ∧ IntsO (Btw h.next h'.next) h' u (fRun (R L A ms))
theorem chB_spec {cs : List Int} {m : Int} (h : chB cs m = true) : (cs.length : Int) ≤ m ∧ ∀ x ∈ cs, 0 ≤ x := by unfold chB at h; exact of_decide_eq_true h

/-- What a function on chips with a run and a truth as results is to do. -/
def FnCL' (f : FuncId) (R : List (List Int) → List Int → Option (List Int)) : Prop :=
  ∀ (h : Hp) (v : Value) (L : List (List Int)) (A : List Int), Chips h v L A →
    ∃ v' h', CallOK Try.prog f #[v] h v' h' ∧ Adds h h' ∧ ∃ u, v' = .tuple #[u, .bool (R L A).isSome] ∧ IntsO (Btw h.next h'.next) h' u ((R L A).getD [])
def fst? : Option (List Int × List Int) → Option (List Int)
  | some q => some q.1
  | none => none
theorem fst_getD (r : Option (List Int × List Int)) : (fst? r).getD [] = fRun r := by cases r <;> rfl
theorem fst_isSome (r : Option (List Int × List Int)) : (fst? r).isSome = r.isSome := by cases r <;> rfl
theorem Ints.nil (h : Hp) : Ints h (.slice none 0 0) [] := (IntsO.nil (fun _ => False) h).ints
noncomputable def firstR (L : List (List Int)) (A : List Int) : Option (List Int) := fst? (fullR L A [])
theorem chB_nil : chB [] 60 = true := by simp [chB]

noncomputable def endR (L : List (List Int)) (A : List Int) : Bool := goodB L A && !(fullR L A []).isSome
/-- What a function on chips with chips and a truth as results is to do. -/
def FnCC (f : FuncId) (R : List (List Int) → List Int → Option (List Int)) : Prop :=
  ∀ (h : Hp) (v : Value) (L : List (List Int)) (A : List Int), Chips h v L A →
    ∃ v' h', CallOK Try.prog f #[v] h v' h' ∧ Adds h h' ∧ ∃ u, v' = .tuple #[u, .bool (R L A).isSome] ∧ ChipsO (Btw h.next h'.next) h' u (chL L (R L A)) (chA (R L A))
noncomputable def finalR (L : List (List Int)) (A : List Int) : Option (List Int) := snd? (fullR L A [])
theorem snd_isSome (r : Option (List Int × List Int)) : (snd? r).isSome = r.isSome := by cases r <;> rfl

end Go.Proofs.Ytnjabaeajjhliaa
