/- Runs of chips: what has been moved tells what lies there, and all full runs have the same moves; how many full runs there are. -/
import Derived.Test.YtnnjehonbolliaaB10
namespace Go.Proofs.Ytnnjehonbolliaa
set_option linter.unusedSimpArgs false
set_option linter.unusedVariables false
set_option maxHeartbeats 4000000
open Go Go.Eng

/-- How often each place has been moved by some run, and what lies there. -/
inductive Rn (L : List (List Int)) (A : List Int) : List Int → List Int → Prop
  | zero : Rn L A (List.replicate A.length 0) A
  | step {x B : List Int} {i : Nat} : Rn L A x B → i < B.length → canB L B i = true → (hx : i < x.length) → Rn L A (x.set i (x[i] + 1)) (moveA L B i)
variable {L : List (List Int)} {A x B y C : List Int}
theorem Rn.len (h : Rn L A x B) : B.length = A.length ∧ x.length = A.length := by
  induction h with
  | zero => simp
  | step _ _ _ _ ih => simpa using ih
theorem Rn.nn (h : Rn L A x B) : ∀ i, 0 ≤ x.getD i 0 := by
  induction h with
  | zero => intro i; simp [List.getD_eq_getElem?_getD, List.getElem?_replicate]; split <;> simp
  | @step x B i _ _ _ hx ih =>
    intro j
    have h1 := ih j
    have h2 := ih i
    rw [List.getD_eq_getElem?_getD, List.getElem?_set]
    by_cases e : i = j
    · subst e
      rw [if_pos rfl, if_pos hx]
      rw [List.getD_eq_getElem?_getD, List.getElem?_eq_getElem hx] at h2
      simp at h2 ⊢; omega
    · rw [if_neg e]; simpa [List.getD_eq_getElem?_getD] using h1
theorem Rn.ok (h : Rn L A x B) (ho : Ok L A) : Ok L B := by
  induction h with
  | zero => exact ho
  | step _ hi hc _ ih => exact ih.move hi hc
theorem Rn.sum0 : (List.replicate A.length (0 : Int)).sum = 0 := by simp

def subL (l x : List Int) : List Int := List.zipWith (· - ·) l x
theorem subL_getD {l x : List Int} (hl : l.length = x.length) (i : Nat) : (subL l x).getD i 0 = l.getD i 0 - x.getD i 0 := by
  unfold subL
  simp only [List.getD_eq_getElem?_getD, List.getElem?_zipWith]
  by_cases h : i < x.length
  · rw [List.getElem?_eq_getElem h, List.getElem?_eq_getElem (show i < l.length by omega)]; rfl
  · rw [List.getElem?_eq_none (show x.length ≤ i by omega), List.getElem?_eq_none (show l.length ≤ i by omega)]; rfl
theorem subL_len {l x : List Int} (hl : l.length = x.length) : (subL l x).length = x.length := by simp [subL, hl]
theorem ext_getD {a b : List Int} (hl : a.length = b.length) (h : ∀ i, i < a.length → a.getD i 0 = b.getD i 0) : a = b := by
  refine List.ext_getElem hl fun i h1 h2 => ?_
  have := h i h1
  simpa [h1, h2] using this
theorem getD_set (x : List Int) (i j : Nat) (v : Int) (hi : i < x.length) : (x.set i v).getD j 0 = if i = j then v else x.getD j 0 := by
  simp only [List.getD_eq_getElem?_getD, List.getElem?_set]
  split
  · first | rfl | (rw [if_pos hi]; rfl)
  · rfl
theorem getD_at {x : List Int} {i : Nat} (hi : i < x.length) : x.getD i 0 = x[i] := by simp [hi]

theorem Rn.due (h : Rn L A x B) (l : List Int) (hl : l.length = A.length) (hle : ∀ i, x.getD i 0 ≤ l.getD i 0) : Due L A l B (subL l x) := by
  induction h with
  | zero =>
    have e : subL l (List.replicate A.length 0) = l := by
      refine ext_getD (by rw [subL_len (by simpa using hl)]; simpa using hl.symm) fun i hi => ?_
      rw [subL_getD (by simpa using hl)]
      have : (List.replicate A.length (0 : Int)).getD i 0 = 0 := by simp [List.getD_eq_getElem?_getD, List.getElem?_replicate]; split <;> simp
      omega
    rw [e]; exact .refl _ _
  | @step x B i hr hi hc hx ih =>
    have hlen := hr.len
    have hlx : l.length = x.length := by omega
    have h1 : ∀ j, x.getD j 0 ≤ l.getD j 0 := fun j => by
      have := hle j
      rw [getD_set _ _ _ _ hx] at this
      by_cases e : i = j
      · subst e; rw [if_pos rfl] at this; have := getD_at hx; omega
      · rw [if_neg e] at this; exact this
    have h2 := ih h1
    have h3 : i < (subL l x).length := by rw [subL_len hlx]; exact hx
    have h4 := subL_getD hlx i
    rw [getD_at h3] at h4
    have h5 := hle i
    rw [getD_set _ _ _ _ hx, if_pos rfl] at h5
    have h6 := getD_at hx
    have e : subL l (x.set i (x[i] + 1)) = (subL l x).set i ((subL l x)[i] - 1) := by
      refine ext_getD (by rw [subL_len (by simpa using hlx), List.length_set, List.length_set, subL_len hlx]) fun j hj => ?_
      rw [subL_getD (by simpa using hlx), getD_set _ _ _ _ hx, getD_set _ _ _ _ h3]
      by_cases e : i = j
      · subst e; rw [if_pos rfl, if_pos rfl]; omega
      · rw [if_neg e, if_neg e, subL_getD hlx]
    rw [e]
    exact .step h2 hi hc h3 (by omega)
theorem Rn.same (h : Rn L A x B) (h' : Rn L A x C) (hs : Shape L A.length) : B = C := by
  have hl := h.len
  have hl' := h'.len
  have d := h.due x hl.2 fun _ => Int.le_refl _
  have d' := h'.due x hl.2 fun _ => Int.le_refl _
  refine ext_getD (by omega) fun i hi => ?_
  rw [d.at hs hl.2 i (by omega), d'.at hs hl.2 i (by omega)]
theorem moves_nil (h : movesL L B = []) {i : Nat} (hi : i < B.length) : canB L B i = false := by
  unfold movesL at h
  rw [List.map_eq_nil_iff, List.filter_eq_nil_iff] at h
  have := h i (by simpa using hi)
  simpa using this
theorem Rn.le (h : Rn L A x B) (hm : movesL L B = []) (h' : Rn L A y C) (hs : Shape L A.length) : ∀ i, y.getD i 0 ≤ x.getD i 0 := by
  have hl := h.len
  have hl' := h'.len
  obtain ⟨l, hll⟩ : ∃ l, l = List.zipWith max x y := ⟨_, rfl⟩
  have e1 : l.length = A.length := by rw [hll]; simp; omega
  have e2 : ∀ i, l.getD i 0 = max (x.getD i 0) (y.getD i 0) := fun i => by
    rw [hll]
    simp only [List.getD_eq_getElem?_getD, List.getElem?_zipWith]
    by_cases hi : i < x.length
    · rw [List.getElem?_eq_getElem hi, List.getElem?_eq_getElem (show i < y.length by omega)]; rfl
    · rw [List.getElem?_eq_none (show x.length ≤ i by omega), List.getElem?_eq_none (show y.length ≤ i by omega)]; rfl
  have d := h.due l e1 fun i => by rw [e2]; omega
  have d' := h'.due l e1 fun i => by rw [e2]; omega
  have hst : Stuck L B (subL l x) := fun i hi hc => by rw [moves_nil hm hi] at hc; cases hc
  intro i
  by_cases hi : i < A.length
  · have := due_le d' d hs e1 hst i hi
    rw [subL_getD (by omega), subL_getD (by omega)] at this
    omega
  · rw [List.getD_eq_getElem?_getD, List.getElem?_eq_none (by omega), List.getD_eq_getElem?_getD, List.getElem?_eq_none (by omega)]; simp
theorem sum_le_of : ∀ {a b : List Int}, a.length = b.length → (∀ i, a.getD i 0 ≤ b.getD i 0) → a.sum ≤ b.sum
  | [], [], _, _ => Int.le_refl _
  | p :: a, q :: b, hl, h => by
    have h0 := h 0
    have := sum_le_of (a := a) (b := b) (by simpa using hl) fun i => by have := h (i + 1); simpa using this
    simp at h0 ⊢; omega
theorem eq_of_sum : ∀ {a b : List Int}, a.length = b.length → (∀ i, a.getD i 0 ≤ b.getD i 0) → b.sum ≤ a.sum → a = b
  | [], [], _, _, _ => rfl
  | p :: a, q :: b, hl, h, hs => by
    have h0 := h 0
    have h1 : ∀ i, a.getD i 0 ≤ b.getD i 0 := fun i => by have := h (i + 1); simpa using this
    have h2 := sum_le_of (by simpa using hl) h1
    simp at h0 hs
    have h3 := eq_of_sum (by simpa using hl) h1 (by omega)
    subst h3
    have : p = q := by omega
    rw [this]
theorem Rn.step_sum {x : List Int} {i : Nat} (hx : i < x.length) : (x.set i (x[i] + 1)).sum = x.sum + 1 := by rw [sum_set hx]; omega

/-- Full runs are R moves long. -/
structure FinR (L : List (List Int)) (A x B : List Int) (R : Nat) : Prop where
  rn : Rn L A x B
  last : movesL L B = []
  sum : x.sum = R
theorem moves_mem {m : Int} (h : m ∈ movesL L B) : ∃ i : Nat, m = (i : Int) ∧ i < B.length ∧ canB L B i = true := by
  obtain ⟨k, hk, rfl⟩ := List.getElem_of_mem h
  exact movesL_get hk
theorem FinR.le {X E : List Int} {R : Nat} (f : FinR L A X E R) (hs : Shape L A.length) (h : Rn L A x B) : x.sum ≤ R := by
  rw [← f.sum]
  exact sum_le_of (by rw [h.len.2, f.rn.len.2]) (f.rn.le f.last h hs)
theorem FinR.end {X E : List Int} {R : Nat} (f : FinR L A X E R) (hs : Shape L A.length) (h : Rn L A x B) (hx : x.sum = R) : x = X ∧ B = E := by
  have e : x = X := eq_of_sum (by rw [h.len.2, f.rn.len.2]) (f.rn.le f.last h hs) (by rw [hx, f.sum]; exact Int.le_refl _)
  subst e
  exact ⟨rfl, h.same f.rn hs⟩
theorem FinR.more {X E : List Int} {R : Nat} (f : FinR L A X E R) (hs : Shape L A.length) (h : Rn L A x B) (hx : x.sum < R) : movesL L B ≠ [] := by
  intro hm
  have := sum_le_of (by rw [h.len.2, f.rn.len.2]) (h.le hm f.rn hs)
  rw [f.sum] at this; omega
theorem FinR.next {X E : List Int} {R : Nat} (f : FinR L A X E R) (hs : Shape L A.length) (h : Rn L A x B) {m : Int} (hm : m ∈ movesL L B) :
    ∃ i : Nat, m = (i : Int) ∧ i < B.length ∧ canB L B i = true ∧ ∃ hx : i < x.length, Rn L A (x.set i (x[i] + 1)) (moveA L B i) ∧ (x.set i (x[i] + 1)).sum = x.sum + 1 ∧ x.sum + 1 ≤ R := by
  obtain ⟨i, e, hi, hc⟩ := moves_mem hm
  have hx : i < x.length := by have := h.len; omega
  have h1 := Rn.step h hi hc hx
  have h2 := Rn.step_sum hx
  have h3 := f.le hs h1
  exact ⟨i, e, hi, hc, hx, h1, h2, by omega⟩

/-- How many full runs there are. -/
def wN (L : List (List Int)) : Nat → List Int → Nat
  | 0, B => if movesL L B = [] then 1 else 0
  | n + 1, B => if movesL L B = [] then 1 else ((movesL L B).map fun m => wN L n (moveA L B m.toNat)).sum
theorem sum_pos_of {l : List Nat} {v : Nat} (h : v ∈ l) : v ≤ l.sum := by
  induction l with
  | nil => cases h
  | cons p l ih =>
    rcases List.mem_cons.1 h with rfl | h
    · simp
    · have := ih h; simp; omega
theorem FinR.pos {X E : List Int} {R : Nat} (f : FinR L A X E R) (hs : Shape L A.length) : ∀ (n : Nat) {x B : List Int}, Rn L A x B → x.sum + n = R → 1 ≤ wN L n B
  | 0, x, B, h, hx => by
    obtain ⟨rfl, rfl⟩ := f.end hs h (by omega)
    simp [wN, f.last]
  | n + 1, x, B, h, hx => by
    rw [wN]
    split
    · exact Nat.le_refl _
    · rename_i hm
      obtain ⟨m, hmm⟩ := List.exists_mem_of_ne_nil _ hm
      obtain ⟨i, rfl, hi, hc, hxi, h1, h2, h3⟩ := f.next hs h hmm
      have h4 := f.pos hs n h1 (by omega)
      exact Nat.le_trans h4 (sum_pos_of (List.mem_map.2 ⟨_, hmm, by simp⟩))

/-- The full run of the program ends. -/
theorem fullA_fin {cs : List Int} (hcs : ∀ v ∈ cs, 0 ≤ v) : ∀ {n : Nat} {run B r E : List Int}, fullA L cs n run B = some (r, E) → Rn L A (cntL A.length run) B → (cntL A.length run).sum = run.length → FinR L A (cntL A.length r) E r.length
  | 0, run, B, r, E, h, _, _ => by cases h
  | n + 1, run, B, r, E, h, hr, hs => by
    rw [fullA] at h
    split at h
    · rename_i hm
      cases h
      exact ⟨hr, hm, hs⟩
    · rename_i hm
      split at h
      · cases h
      · have hml : 0 < (movesL L B).length := List.length_pos_iff.2 hm
        have hpk := pickK_lt hml hcs run.length
        obtain ⟨i, hi, hiB, hic⟩ := movesL_get hpk
        have e : (movesL L B).getD (pickK (movesL L B) cs run.length) 0 = (i : Int) := by rw [getD_at hpk]; exact hi
        rw [e] at h
        have hlen := hr.len
        have hxi : i < (cntL A.length run).length := by omega
        have e2 := cntL_snoc A.length run i (by omega)
        refine fullA_fin hcs h ?_ ?_
        · rw [e2]; exact .step hr hiB hic hxi
        · rw [e2, Rn.step_sum hxi, hs]; simp
theorem fullR_fin {cs r E : List Int} (hcs : ∀ v ∈ cs, 0 ≤ v) (h : fullR L A cs = some (r, E)) : FinR L A (cntL A.length r) E r.length := by
  unfold fullR at h
  split at h
  · refine fullA_fin hcs h ?_ ?_
    · rw [cntL_nil]; exact .zero
    · rw [cntL_nil]; simp
  · cases h

/-- Not more than a bound. -/
def capN (w : Nat) : Nat := min w 1000000001
theorem capN_add (a b : Nat) : capN (capN a + capN b) = capN (a + b) := by unfold capN; omega
theorem capN_le (a : Nat) : capN a ≤ 1000000001 := by unfold capN; omega
noncomputable def runsB (L : List (List Int)) (A : List Int) : Bool := (fullR L A []).isSome && decide (wN L (((fst? (fullR L A [])).getD []).length) A ≤ 1000000000)
noncomputable def runsN (L : List (List Int)) (A : List Int) : Int := if runsB L A = true then ((wN L (((fst? (fullR L A [])).getD []).length) A : Nat) : Int) else 0
end Go.Proofs.Ytnnjehonbolliaa
