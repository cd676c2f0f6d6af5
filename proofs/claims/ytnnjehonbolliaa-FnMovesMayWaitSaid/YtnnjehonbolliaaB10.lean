/- Moves that are due, in whatever order: what is left behind them all is the same. -/
import Derived.Test.YtnnjehonbolliaaB9
namespace Go.Proofs.Ytnnjehonbolliaa
set_option linter.unusedSimpArgs false
set_option linter.unusedVariables false
set_option maxHeartbeats 4000000
open Go Go.Eng

/-- A sum over the first numbers. -/
def sumN (f : Nat → Int) : Nat → Int
  | 0 => 0
  | n + 1 => sumN f n + f n
theorem sumN_mono {f g : Nat → Int} : ∀ {n : Nat}, (∀ x, x < n → f x ≤ g x) → sumN f n ≤ sumN g n
  | 0, _ => Int.le_refl _
  | n + 1, h => by
    have := sumN_mono (n := n) fun x hx => h x (by omega)
    have := h n (by omega)
    simp only [sumN]; omega
theorem sumN_congr {f g : Nat → Int} {n : Nat} (h : ∀ x, x < n → f x = g x) : sumN f n = sumN g n :=
  Int.le_antisymm (sumN_mono fun x hx => Int.le_of_eq (h x hx)) (sumN_mono fun x hx => Int.le_of_eq (h x hx).symm)
theorem sumN_zero : ∀ (n : Nat), sumN (fun _ => 0) n = 0
  | 0 => rfl
  | n + 1 => by simp [sumN, sumN_zero n]
theorem sumN_upd {f g : Nat → Int} {i : Nat} {c : Int} (hg : ∀ x, x ≠ i → g x = f x) (hi : g i = f i + c) : ∀ {n : Nat}, i < n → sumN g n = sumN f n + c
  | 0, h => by omega
  | n + 1, h => by
    by_cases e : i = n
    · subst e
      simp only [sumN, hi]
      rw [sumN_congr (f := g) (g := f) fun x hx => hg x (by omega)]; omega
    · have := sumN_upd (f := f) (g := g) (c := c) hg hi (n := n) (by omega)
      simp only [sumN, this, hg n (fun q => e q.symm)]; omega

/-- Moves that are due are made, one after the other. -/
inductive Due (L : List (List Int)) : List Int → List Int → List Int → List Int → Prop
  | refl (A l : List Int) : Due L A l A l
  | step {A l B k : List Int} {i : Nat} : Due L A l B k → i < B.length → canB L B i = true → (hk : i < k.length) → 0 < k[i] → Due L A l (moveA L B i) (k.set i (k[i] - 1))
def Stuck (L : List (List Int)) (B k : List Int) : Prop := ∀ i, i < B.length → canB L B i = true → k.getD i 0 ≤ 0

theorem Due.len {L : List (List Int)} {A l B k : List Int} (h : Due L A l B k) : B.length = A.length ∧ k.length = l.length := by
  induction h with
  | refl => exact ⟨rfl, rfl⟩
  | step _ _ _ _ _ ih => simpa using ih
theorem Due.le {L : List (List Int)} {A l B k : List Int} (h : Due L A l B k) : ∀ i, k.getD i 0 ≤ l.getD i 0 := by
  induction h with
  | refl => exact fun _ => Int.le_refl _
  | @step B k i _ hi hc hk h0 ih =>
    intro x
    have := ih x
    by_cases e : i = x
    · subst e
      have e1 : k.getD i 0 = k[i] := by simp [hk]
      have : (k.set i (k[i] - 1)).getD i 0 = k[i] - 1 := by simp [hk]
      omega
    · have : (k.set i (k[i] - 1)).getD x 0 = k.getD x 0 := by simp [List.getElem?_set_ne e]
      omega
theorem Due.nn {L : List (List Int)} {A l B k : List Int} (h : Due L A l B k) (hl : ∀ x ∈ l, 0 ≤ x) : ∀ x ∈ k, 0 ≤ x := by
  induction h with
  | refl => exact hl
  | @step B k i _ hi hc hk h0 ih =>
    intro x hx
    rcases List.mem_or_eq_of_mem_set hx with hx | rfl
    · exact ih x hx
    · omega
theorem Due.ok {L : List (List Int)} {A l B k : List Int} (h : Due L A l B k) (ho : Ok L A) : Ok L B := by
  induction h with
  | refl => exact ho
  | step _ hi hc _ _ ih => exact ih.move hi hc

theorem Due.at {L : List (List Int)} {A l B k : List Int} (h : Due L A l B k) (hs : Shape L A.length) (hn : l.length = A.length) : ∀ j, j < A.length →
    B.getD j 0 = A.getD j 0 - (l.getD j 0 - k.getD j 0) * deg L j + sumN (fun x => (l.getD x 0 - k.getD x 0) * el L x j) A.length := by
  induction h with
  | refl =>
    intro j hj
    have : sumN (fun x => (l.getD x 0 - l.getD x 0) * el L x j) A.length = 0 := by
      rw [sumN_congr (g := fun _ => 0) (fun x _ => by simp)]; exact sumN_zero _
    rw [this]; simp
  | @step B k i hd hi hc hk h0 ih =>
    intro j hj
    have hlen := hd.len
    have ih := ih j hj
    have hi' : i < L.length := by have := hs.len; omega
    have h1 := hs.at hi'
    have hjB : j < B.length := by omega
    have hiA : i < A.length := by omega
    have em : (moveA L B i).getD j 0 = B.getD j 0 + el L i j - if j = i then deg L i else 0 := by
      have hjm : j < (moveA L B i).length := by simpa using hjB
      rw [List.getD_eq_getElem?_getD, List.getElem?_eq_getElem hjm, Option.getD_some, moveA_get L B i j hjB hjm hi' (by omega), el_eq hi' (by omega)]
      simp [hjB]
    have ek : ∀ x, (k.set i (k[i] - 1)).getD x 0 = k.getD x 0 - if x = i then 1 else 0 := by
      intro x
      by_cases e : x = i
      · subst e; simp [hk]
      · simp [List.getElem?_set_ne (fun q => e q.symm), e]
    have eS : sumN (fun x => (l.getD x 0 - (k.set i (k[i] - 1)).getD x 0) * el L x j) A.length = sumN (fun x => (l.getD x 0 - k.getD x 0) * el L x j) A.length + el L i j := by
      refine sumN_upd (i := i) (fun x hx => ?_) ?_ hiA
      · simp only [ek x, if_neg hx]; simp
      · simp only [ek i, if_pos]
        have : (l.getD i 0 - (k.getD i 0 - 1)) * el L i j = (l.getD i 0 - k.getD i 0) * el L i j + el L i j := by
          rw [show l.getD i 0 - (k.getD i 0 - 1) = (l.getD i 0 - k.getD i 0) + 1 by omega, Int.add_mul, Int.one_mul]
        simpa using this
    rw [em, eS, ih, ek j]
    by_cases e : j = i
    · subst e
      simp only [if_pos]
      have : (l.getD j 0 - (k.getD j 0 - 1)) * deg L j = (l.getD j 0 - k.getD j 0) * deg L j + deg L j := by
        rw [show l.getD j 0 - (k.getD j 0 - 1) = (l.getD j 0 - k.getD j 0) + 1 by omega, Int.add_mul, Int.one_mul]
      rw [this]; omega
    · simp only [if_neg e]
      have : l.getD j 0 - (k.getD j 0 - 0) = l.getD j 0 - k.getD j 0 := by omega
      rw [this]; omega

theorem el_nn {L : List (List Int)} {n : Nat} (hs : Shape L n) {x j : Nat} (hx : x < n) (hj : j < n) : 0 ≤ el L x j := by
  have hx' : x < L.length := by have := hs.len; omega
  have h1 := hs.at hx'
  rw [el_eq hx' (by omega)]
  exact (h1.2 _ (List.getElem_mem _)).1

theorem due_le {L : List (List Int)} {A l B k B' k' : List Int} (h : Due L A l B k) (h' : Due L A l B' k') (hs : Shape L A.length) (hn : l.length = A.length) (hm : Stuck L B' k') : ∀ i, i < A.length → k'.getD i 0 ≤ k.getD i 0 := by
  induction h with
  | refl => exact fun i _ => h'.le i
  | @step B k i hd hi hc hk h0 ih =>
    have hlen := hd.len
    have hlen' := h'.len
    have hiA : i < A.length := by omega
    intro x hx
    by_cases e : i = x
    · subst e
      have e1 : k.getD i 0 = k[i] := by simp [hk]
      have e2 : (k.set i (k[i] - 1)).getD i 0 = k[i] - 1 := by simp [hk]
      rw [e2]
      rcases Int.lt_or_le (k'.getD i 0) k[i] with hlt | hge
      · omega
      · exfalso
        have heq : k'.getD i 0 = k.getD i 0 := by have := ih i hiA; omega
        have a1 := hd.at hs hn i hiA
        have a2 := h'.at hs hn i hiA
        have hS : sumN (fun x => (l.getD x 0 - k.getD x 0) * el L x i) A.length ≤ sumN (fun x => (l.getD x 0 - k'.getD x 0) * el L x i) A.length :=
          sumN_mono fun y hy => Int.mul_le_mul_of_nonneg_right (by have := ih y hy; omega) (el_nn hs hy hiA)
        rw [heq] at a2
        have hB : B.getD i 0 ≤ B'.getD i 0 := by omega
        have hcan : canB L B' i = true := by
          unfold canB at hc ⊢
          have := of_decide_eq_true hc
          exact decide_eq_true ⟨this.1, by omega⟩
        have := hm i (by omega) hcan
        omega
    · have : (k.set i (k[i] - 1)).getD x 0 = k.getD x 0 := by simp [List.getElem?_set_ne e]
      rw [this]; exact ih x hx
theorem due_unique {L : List (List Int)} {A l B k B' k' : List Int} (h : Due L A l B k) (h' : Due L A l B' k') (hs : Shape L A.length) (hn : l.length = A.length) (hm : Stuck L B k) (hm' : Stuck L B' k') : k = k' := by
  have h1 := h.len
  have h2 := h'.len
  refine List.ext_getElem (by omega) fun i hi hi' => ?_
  have a := due_le h h' hs hn hm' i (by omega)
  have b := due_le h' h hs hn hm i (by omega)
  have e1 : k.getD i 0 = k[i] := by simp [hi]
  have e2 : k'.getD i 0 = k'[i] := by simp [hi']
  omega
theorem sum_set : ∀ {k : List Int} {i : Nat} (h : i < k.length) (c : Int), (k.set i c).sum = k.sum - k[i] + c
  | x :: k, 0, h, c => by simp; omega
  | x :: k, i + 1, h, c => by simp [sum_set (k := k) (i := i) (by simpa using h) c]; omega

/-- Whether it can be told, and whether some run makes just so many moves at each place. -/
def ReG (L : List (List Int)) (A cs : List Int) : Prop := goodB L A = true ∧ (fullR L A []).isSome = true ∧ cs.length = A.length ∧ ∀ x ∈ cs, 0 ≤ x ∧ x ≤ 60
def ReP (L : List (List Int)) (A cs : List Int) : Prop := ReG L A cs ∧ ∃ B k, Due L A cs B k ∧ Stuck L B k ∧ ∀ x ∈ k, x = 0
noncomputable def reG (L : List (List Int)) (A cs : List Int) : Bool := @decide (ReG L A cs) (Classical.propDecidable _)
noncomputable def reB (L : List (List Int)) (A cs : List Int) : Bool := @decide (ReP L A cs) (Classical.propDecidable _)
theorem reG_true {L : List (List Int)} {A cs : List Int} (h : ReG L A cs) : reG L A cs = true := by simp [reG, h]
theorem reG_false {L : List (List Int)} {A cs : List Int} (h : ¬ ReG L A cs) : reG L A cs = false := by simp [reG, h]
theorem reB_false {L : List (List Int)} {A cs : List Int} (h : ¬ ReG L A cs) : reB L A cs = false := by
  have : ¬ ReP L A cs := fun q => h q.1
  simp [reB, this]
theorem reB_eq {L : List (List Int)} {A cs B k : List Int} (hg : ReG L A cs) (hd : Due L A cs B k) (hm : Stuck L B k) : reB L A cs = decide (∀ x ∈ k, x = 0) := by
  have hs : Shape L A.length := (good_of hg.1).shape
  by_cases hz : ∀ x ∈ k, x = 0
  · have : ReP L A cs := ⟨hg, B, k, hd, hm, hz⟩
    rw [decide_eq_true hz]; simp [reB, this]
  · have : ¬ ReP L A cs := fun ⟨_, B', k', hd', hm', hz'⟩ => hz (by rw [due_unique hd hd' hs hg.2.2.1 hm hm']; exact hz')
    rw [decide_eq_false hz]; simp [reB, this]
end Go.Proofs.Ytnnjehonbolliaa
