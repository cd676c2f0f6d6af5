/- Words and what they cost: the greedy word has the least cost. Plain Lean. -/
import Derived.Test.YtnjabaeajjhliaaT8
import Derived.Test.YtnjabaeajjhliaaS24
namespace Go.Proofs.Ytnjabaeajjhliaa
set_option linter.unusedSimpArgs false
set_option linter.unusedVariables false
open Go Go.Eng

/-- The ways of k items more behind a set, in order. -/
def chF (M : Nat → Bool) (n : Nat) : Nat → Nat → List (List Nat)
  | 0, _ => [[]]
  | k + 1, s => (itemsN (outerN M n s)).flatMap fun i => (chF M n k (nOr s (bit i))).map (i :: ·)
theorem words_ch (M : Nat → Bool) (n : Nat) : ∀ (k : Nat) (w : List Nat) (s : Nat), wordsF M n k w s = (chF M n k s).map (w ++ ·)
  | 0, w, s => by simp [wordsF, chF]
  | k + 1, w, s => by
    simp only [wordsF, chF, List.map_flatMap, List.map_map]
    congr 1
    funext i
    rw [words_ch M n k]
    exact List.map_congr_left fun t _ => by simp
/-- No item of a word costs more than so much. -/
def okW (c : Nat → Nat → Int) (lim : Int) : List Nat → Nat → Bool
  | [], _ => true
  | i :: l, s => decide (c s i ≤ lim) && okW c lim l (nOr s (bit i))
/-- How many words of k items behind a set cost at most so much. -/
def waysF (M : Nat → Bool) (n : Nat) (c : Nat → Nat → Int) (lim : Int) : Nat → Nat → Nat
  | 0, _ => 1
  | k + 1, s => ((itemsN (outerN M n s)).map fun i => if c s i ≤ lim then waysF M n c lim k (nOr s (bit i)) else 0).sum
theorem ways_ch (M : Nat → Bool) (n : Nat) (c : Nat → Nat → Int) (lim : Int) : ∀ (k s : Nat), (chF M n k s).countP (fun w => okW c lim w s) = waysF M n c lim k s
  | 0, s => by simp [chF, okW, waysF]
  | k + 1, s => by
    rw [chF, List.countP_flatMap, waysF]
    congr 1
    refine List.map_congr_left fun i _ => ?_
    show List.countP _ (List.map _ _) = _
    rw [List.countP_map]
    by_cases h : c s i ≤ lim
    · rw [if_pos h, ← ways_ch M n c lim k]
      congr 1
      funext t
      simp [okW, h]
    · rw [if_neg h, List.countP_eq_zero]
      intro t _
      simp [okW, h]
theorem topW_le (c : Nat → Nat → Int) (lim : Int) : ∀ (l : List Nat) (s : Nat) (m : Int), topW c l s m ≤ lim ↔ m ≤ lim ∧ okW c lim l s = true
  | [], s, m => by simp [topW, okW]
  | i :: l, s, m => by
    rw [topW, topW_le c lim l, okW, Bool.and_eq_true, decide_eq_true_eq, ← and_assoc]
    refine and_congr_left fun _ => ?_
    split <;> omega
theorem leastO_min (c : Nat → Int) : ∀ (l : List Nat) (o : Option Nat) (b : Nat), leastO c l o = some b → (∀ i ∈ l, c b ≤ c i) ∧ ∀ a, o = some a → c b ≤ c a
  | [], o, b, h => ⟨(by simp), fun a e => by rw [leastO, e] at h; cases h; exact Int.le_refl _⟩
  | i :: l, o, b, h => by
    rw [leastO] at h
    obtain ⟨h1, h2⟩ := leastO_min c l _ b h
    have h3 : c b ≤ c i ∧ ∀ a, o = some a → c b ≤ c a := by
      cases o with
      | none => exact ⟨h2 i rfl, fun a e => by cases e⟩
      | some a =>
        simp only [lessO] at h2
        by_cases hc : c i < c a
        · rw [if_pos hc] at h2
          have := h2 i rfl
          exact ⟨this, fun a' e => by cases e; omega⟩
        · rw [if_neg hc] at h2
          have := h2 a rfl
          exact ⟨by omega, fun a' e => by cases e; exact this⟩
    exact ⟨fun x hx => (List.mem_cons.1 hx).elim (fun e => e ▸ h3.1) (h1 x), h3.2⟩

theorem greed_take (c : Nat → Nat → Int) (M : Nat → Bool) (n j : Nat) : ∀ k, j ≤ k → (greedS c M n k).1.take j = (greedS c M n j).1
  | 0, h => by
    have : j = 0 := by omega
    subst this; rfl
  | k + 1, h => by
    by_cases e : j = k + 1
    · subst e; rw [List.take_of_length_le (by rw [greed_len]; omega)]
    · rw [greedS, List.take_append_of_le_length (by rw [greed_len]; omega)]
      exact greed_take c M n j k (by omega)
theorem greed_set (c : Nat → Nat → Int) (M : Nat → Bool) (n : Nat) : ∀ k, setW (greedS c M n k).1 0 = (greedS c M n k).2
  | 0 => rfl
  | k + 1 => by rw [greedS, setW_snoc, greed_set c M n k]
theorem greed_at (c : Nat → Nat → Int) (M : Nat → Bool) (n j : Nat) (hj : j < n) : (greedS c M n n).1.getD j 0 = nextG c M n (greedS c M n j).2 := by
  have h := greed_take c M n (j + 1) n (by omega)
  have h2 : ((greedS c M n n).1.take (j + 1)).getD j 0 = ((greedS c M n (j + 1)).1).getD j 0 := by rw [h]
  have h3 : ((greedS c M n n).1.take (j + 1)).getD j 0 = (greedS c M n n).1.getD j 0 := by
    simp [List.getD_eq_getElem?_getD, List.getElem?_take]
  rw [← h3, h2, greedS]
  simp [List.getD_eq_getElem?_getD, greed_len]

/-- Any word has, at the first item outside a set, a cost that the set's outer items need as well. -/
theorem chain_meets {n : Nat} {xs : List Nat} (g : SpGood n xs) {c : Nat → Nat → Int} (hc : ∀ T G i, (∀ k, T.testBit k = true → G.testBit k = true) → i < n → c G i ≤ c T i) {lim : Int} {G : Nat} (hG : G ∈ xs) (hGf : G ≠ bit n - 1) :
    ∀ (k T : Nat) (t : List Nat), T ∈ xs → pcN T + k = n → (∀ b, T.testBit b = true → G.testBit b = true) → t ∈ chF (fam xs) n k T → okW c lim t T = true → ∃ i, i ∈ itemsN (outerN (fam xs) n G) ∧ c G i ≤ lim
  | 0, T, t, hT, hk, hs, _, _ => by
    exfalso
    have hTf : T = bit n - 1 := (pcN_lt g.n7 (g.lt T hT)).2 (by omega)
    apply hGf
    apply Nat.eq_of_testBit_eq
    intro b
    have hb : (bit n - 1).testBit b = decide (b < n) := Nat.testBit_two_pow_sub_one n b
    by_cases hbn : b < n
    · rw [hb, decide_eq_true hbn]; exact hs b (by rw [hTf, hb, decide_eq_true hbn])
    · rw [hb, decide_eq_false hbn]
      exact Nat.testBit_lt_two_pow (Nat.lt_of_lt_of_le (show G < 2 ^ n from g.lt G hG) (Nat.pow_le_pow_right (by omega) (by omega)))
  | k + 1, T, t, hT, hk, hs, ht, hok => by
    rw [chF, List.mem_flatMap] at ht
    obtain ⟨i, hi, ht⟩ := ht
    obtain ⟨t', ht', rfl⟩ := List.mem_map.1 ht
    obtain ⟨a1, a2, a3⟩ := g.learn hi
    rw [okW, Bool.and_eq_true, decide_eq_true_eq] at hok
    cases hGi : G.testBit i
    · refine ⟨i, ?_, Int.le_trans (hc T G i hs a1) hok.1⟩
      refine mem_items.2 ⟨by have := g.n7; omega, ?_⟩
      rw [outerN_bit, decide_eq_true a1, hGi]
      have hu := g.uni G hG _ a3
      have e : nOr G (nOr T (bit i)) = nOr G (bit i) := by
        apply Nat.eq_of_testBit_eq
        intro b
        rw [nOr_bit, nOr_bit, nOr_bit]
        have := hs b
        cases h1 : T.testBit b <;> simp_all
      rw [e] at hu
      simpa [fam] using hu
    · refine chain_meets g hc hG hGf k _ t' a3 (by rw [pcN_or (by have := g.lt T hT; have := bit7 g.n7; omega) (by have := g.n7; omega) a2]; omega) (fun b hb => ?_) ht' hok.2
      rw [nOr_bit, Bool.or_eq_true] at hb
      rcases hb with hb | hb
      · exact hs b hb
      · rw [bit_bit] at hb
        have : i = b := by simpa using hb
        exact this ▸ hGi

theorem greedy_best {n : Nat} {xs : List Nat} (g : SpGood n xs) {c : Nat → Nat → Int} (hc : ∀ T G i, (∀ k, T.testBit k = true → G.testBit k = true) → i < n → c G i ≤ c T i)
    (h1 : ∀ j, j < (greedN c xs n).length → -10000 < costW c (greedN c xs n) j) : -10000 < topN c (greedN c xs n) ∧ ∀ w ∈ chF (fam xs) n n 0, topN c (greedN c xs n) ≤ topN c w := by
  have hn1 := g.n1
  obtain ⟨q1, q2, _⟩ := critJ_ok c (greedN c xs n) h1 (by simp; omega)
  refine ⟨by have := h1 _ q1; omega, fun w hw => ?_⟩
  rcases Int.lt_or_le (topN c w) (topN c (greedN c xs n)) with hlt | hle
  case inr => exact hle
  exfalso
  generalize hj : critJ c (greedN c xs n) = j at q1 q2
  have hjn : j < n := by simpa using q1
  have e1 : costW c (greedN c xs n) j = c (greedS c (fam xs) n j).2 (nextG c (fam xs) n (greedS c (fam xs) n j).2) := by
    show c (setW ((greedS c (fam xs) n n).1.take j) 0) ((greedS c (fam xs) n n).1.getD j 0) = _
    rw [greed_take c (fam xs) n j n (by omega), greed_set, greed_at c (fam xs) n j hjn]
  have hok := ((topW_le c (topN c (greedN c xs n) - 1) w 0 (-10000)).1 (by have : topW c w 0 (-10000) = topN c w := rfl; omega)).2
  have hi := greed_inv g c j (by omega)
  obtain ⟨i, hi1, hi2⟩ := chain_meets g hc hi.1 (fun e => by have := (greed_end g c (k := j) (by omega)).1 e; omega) n 0 w g.zero (by rw [show pcN 0 = 0 by decide]; omega) (fun b hb => by simp at hb) hw hok
  obtain ⟨m1, _⟩ := nextG_mem c (greed_ne g c hjn)
  have := (leastO_min _ _ _ _ m1).1 i hi1
  omega
theorem count_best {n : Nat} {xs : List Nat} (g : SpGood n xs) {c : Nat → Nat → Int} (hc : ∀ T G i, (∀ k, T.testBit k = true → G.testBit k = true) → i < n → c G i ≤ c T i)
    (h1 : ∀ j, j < (greedN c xs n).length → -10000 < costW c (greedN c xs n) j) : (wordsF (fam xs) n n [] 0).countP (fun w => decide (topN c w = topN c (greedN c xs n))) = waysF (fam xs) n c (topN c (greedN c xs n)) n 0 := by
  obtain ⟨b1, b2⟩ := greedy_best g hc h1
  rw [words_ch, show (fun t : List Nat => [] ++ t) = id from funext fun _ => rfl, List.map_id, ← ways_ch]
  refine List.countP_congr fun w hw => ?_
  have h2 := b2 w hw
  have h3 := topW_le c (topN c (greedN c xs n)) w 0 (-10000)
  have h4 : topW c w 0 (-10000) = topN c w := rfl
  rw [h4] at h3
  rw [decide_eq_true_eq]
  constructor
  · intro e; exact (h3.1 (by omega)).2
  · intro e; have := h3.2 ⟨by omega, e⟩; omega
/-- Costs fall when more is known. -/
theorem sumT_mono {L : List Job} (gj : JobsOK L) {T G : Nat} (h : ∀ k, T.testBit k = true → G.testBit k = true) : ∀ k, k ≤ L.length → sumT L G k ≤ sumT L T k
  | 0, _ => by simp [sumT]
  | k + 1, hk => by
    have h1 := sumT_mono gj h k (by omega)
    have h2 := (gj.at (show k < L.length by omega)).1
    have h3 := h k
    simp only [sumT]
    cases hT : T.testBit k <;> cases hG : G.testBit k <;> simp_all <;> omega
theorem costN_mono {L : List Job} (gj : JobsOK L) (T G i : Nat) (h : ∀ k, T.testBit k = true → G.testBit k = true) (hi : i < L.length) : costN L G i ≤ costN L T i := by
  have h1 := sumT_mono gj h L.length (Nat.le_refl _)
  have h2 := (gj.at hi).2.1
  have := Int.mul_le_mul_of_nonneg_left h1 h2.1
  unfold costN; omega
theorem best_count {n : Nat} {xs : List Nat} {L : List Job} (g : SpGood n xs) (gj : JobsOK L) (hn : L.length = n) :
    (wordsF (fam xs) n n [] 0).countP (fun w => decide (topN (costN L) w = topN (costN L) (greedN (costN L) xs n))) = waysF (fam xs) n (costN L) (topN (costN L) (greedN (costN L) xs n)) n 0 :=
  count_best g (fun T G i h hi => costN_mono gj T G i h (by omega)) (greedN_costs g gj hn).2
end Go.Proofs.Ytnjabaeajjhliaa
