/- Numbers of items; what can be learnt next; random walks. Plain Lean. -/
import Derived.Test.YtnjabaeajjhliaaS1
namespace Go.Proofs.Ytnjabaeajjhliaa
set_option linter.unusedSimpArgs false
set_option linter.unusedVariables false
set_option maxHeartbeats 4000000
open Go Go.Eng

/-- How many items a set has. -/
def pcF : Nat → Nat → Nat
  | 0, _ => 0
  | k + 1, a => a % 2 + pcF k (a / 2)
def pcN (a : Nat) : Nat := pcF 7 a
theorem pcF_zero : ∀ k, pcF k 0 = 0
  | 0 => rfl
  | k + 1 => by simp [pcF, pcF_zero k]
theorem pcF_le : ∀ k a, pcF k a ≤ k
  | 0, _ => Nat.le_refl _
  | k + 1, a => by have := pcF_le k (a / 2); have := Nat.mod_lt a (y := 2) (by omega); simp only [pcF]; omega
theorem pcN_le (a : Nat) : pcN a ≤ 7 := pcF_le 7 a
theorem pc_or : ∀ s, s < 128 → ∀ i, i < 7 → s.testBit i = false → pcN (s ||| 2 ^ i) = pcN s + 1 := by decide +kernel
theorem pcN_or {s i : Nat} (h1 : s < 128) (h2 : i < 7) (h3 : s.testBit i = false) : pcN (nOr s (bit i)) = pcN s + 1 := pc_or s h1 i h2 h3
theorem pc_full : ∀ n, n < 8 → pcN (2 ^ n - 1) = n := by decide +kernel
theorem pcN_full {n : Nat} (h : n ≤ 7) : pcN (bit n - 1) = n := pc_full n (by omega)
theorem pc_lt : ∀ n, n < 8 → ∀ s, s < 2 ^ n → pcN s ≤ n ∧ (pcN s = n → s = 2 ^ n - 1) := by decide +kernel
theorem pcN_lt {n s : Nat} (h : n ≤ 7) (hs : s < bit n) : pcN s ≤ n ∧ (pcN s = n → s = bit n - 1) := pc_lt n (by omega) s hs

theorem xor_less : ∀ y, y < 128 → ∀ i, i < 7 → y.testBit i = true → y ^^^ 2 ^ i < y := by decide +kernel

theorem maskN_ne {p : Nat → Bool} {k : Nat} : maskN p k ≠ 0 ↔ ∃ i, i < k ∧ p i = true := by
  constructor
  · intro h
    apply Classical.byContradiction
    intro hn
    apply h
    apply eq_bits
    intro i
    rw [maskN_bit, Nat.zero_testBit]
    by_cases hi : i < k
    · cases hp : p i
      · simp
      · exact absurd ⟨i, hi, hp⟩ hn
    · simp [hi]
  · rintro ⟨i, hi, hp⟩ h
    have := maskN_bit p k i
    rw [h, hp] at this
    simp [hi] at this
theorem items_ne {a : Nat} (ha : a < 128) : a ≠ 0 → itemsN a ≠ [] := by
  intro h hn
  apply h
  apply eq_bits_n (n := 7) ha (by decide)
  intro i hi
  rw [Nat.zero_testBit]
  cases hb : a.testBit i
  · rfl
  · have : i ∈ itemsN a := mem_items.2 ⟨hi, hb⟩
    rw [hn] at this
    cases this
theorem innerN_bit (M : Nat → Bool) (a i : Nat) : (innerN M a).testBit i = (decide (i < 7) && (a.testBit i && M (nXor a (bit i)))) := maskN_bit _ _ _
theorem outerN_bit (M : Nat → Bool) (n a i : Nat) : (outerN M n a).testBit i = (decide (i < n) && (!a.testBit i && M (nOr a (bit i)))) := maskN_bit _ _ _

/-- Behind a set that is not all there is an item that can be learnt. -/
theorem SpGood.next {n : Nat} {xs : List Nat} (g : SpGood n xs) {x : Nat} (hx : x ∈ xs) : ∀ (y : Nat), y ∈ xs → (∃ j, y.testBit j = true ∧ x.testBit j = false) → ∃ i, i < n ∧ x.testBit i = false ∧ nOr x (bit i) ∈ xs ∧ y.testBit i = true := by
  intro y
  induction y using Nat.strongRecOn with
  | _ y ih =>
    rintro hy ⟨j, hj1, hj2⟩
    have hy0 : y ≠ 0 := by rintro rfl; simp at hj1
    obtain ⟨i, hi7, hp⟩ := maskN_ne.1 (g.inn y hy hy0)
    simp only [Bool.and_eq_true] at hp
    obtain ⟨hi, hM⟩ := hp
    have hy' : nXor y (bit i) ∈ xs := of_decide_eq_true hM
    have hin : i < n := by
      apply Classical.byContradiction
      intro hn
      rw [hi_bit (g.lt y hy) (by omega)] at hi
      cases hi
    have hlt : nXor y (bit i) < y := xor_less y (g.lt7 y hy) i hi7 hi
    by_cases hs : ∃ j, (nXor y (bit i)).testBit j = true ∧ x.testBit j = false
    · obtain ⟨k, h1, h2, h3, h4⟩ := ih _ hlt hy' hs
      refine ⟨k, h1, h2, h3, ?_⟩
      rw [nXor_bit, bit_bit] at h4
      by_cases e : i = k
      · subst e; exact hi
      · simpa [e] using h4
    · have hxi : x.testBit i = false := by
        cases hb : x.testBit i
        · rfl
        · exfalso
          apply hs
          refine ⟨j, ?_, hj2⟩
          rw [nXor_bit, bit_bit]
          have : ¬ i = j := by rintro rfl; rw [hb] at hj2; cases hj2
          simp [this, hj1]
      refine ⟨i, hin, hxi, ?_, hi⟩
      have e : nOr x y = nOr x (bit i) := by
        apply eq_bits
        intro k
        rw [nOr_bit, nOr_bit, bit_bit]
        by_cases ek : i = k
        · subst ek; simp [hi]
        · cases hk : y.testBit k
          · simp [ek]
          · have hxk : x.testBit k = true := by
              cases hb : x.testBit k
              · exact absurd ⟨k, by rw [nXor_bit, bit_bit]; simp [ek, hk], hb⟩ hs
              · rfl
            simp [hxk]
      rw [← e]
      exact g.uni x hx y hy
theorem SpGood.bits {n : Nat} {xs : List Nat} (g : SpGood n xs) {x : Nat} (hx : x ∈ xs) (h : ∀ i, i < n → x.testBit i = true) : x = bit n - 1 :=
  eq_bits_n (g.lt x hx) (by have := bit_pos n; omega) fun i hi => by rw [h i hi, full_bit]; simp [hi]
theorem SpGood.outer {n : Nat} {xs : List Nat} (g : SpGood n xs) {x : Nat} (hx : x ∈ xs) (hne : x ≠ bit n - 1) : outerN (fam xs) n x ≠ 0 := by
  have : ∃ j, (bit n - 1).testBit j = true ∧ x.testBit j = false := by
    apply Classical.byContradiction
    intro hn
    apply hne
    refine g.bits hx fun i hi => ?_
    cases hb : x.testBit i
    · exact absurd ⟨i, by rw [full_bit]; simp [hi], hb⟩ hn
    · rfl
  obtain ⟨i, h1, h2, h3, _⟩ := g.next hx _ g.full this
  exact maskN_ne.2 ⟨i, h1, by simp [h2, fam, h3]⟩
/-- The program looks at all seven items. -/
theorem SpGood.outer7 {n : Nat} {xs : List Nat} (g : SpGood n xs) (x : Nat) : outerN (fam xs) 7 x = outerN (fam xs) n x := by
  apply eq_bits
  intro i
  rw [outerN_bit, outerN_bit]
  by_cases hi : i < n
  · have := g.n7; simp [hi, show i < 7 by omega]
  · have : fam xs (nOr x (bit i)) = false := by
      unfold fam
      rw [decide_eq_false_iff_not]
      intro hm
      have h1 := hi_bit (i := i) (g.lt _ hm) (by omega)
      rw [nOr_bit, bit_bit] at h1
      simp at h1
    simp [this, hi]
theorem SpGood.learn {n : Nat} {xs : List Nat} (g : SpGood n xs) {x i : Nat} (hi : i ∈ itemsN (outerN (fam xs) n x)) : i < n ∧ x.testBit i = false ∧ nOr x (bit i) ∈ xs := by
  have h1 := (mem_items.1 hi).2
  rw [outerN_bit] at h1
  simp only [Bool.and_eq_true, Bool.not_eq_true', decide_eq_true_eq] at h1
  exact ⟨h1.1, h1.2.1, of_decide_eq_true h1.2.2⟩
theorem outerN_lt (M : Nat → Bool) (n a : Nat) : outerN M n a < bit n := maskN_lt _ _

/-! Random walks. -/
def pickN (ch : List Int) (k : Nat) (l : List Nat) : Nat := if h : k < ch.length then l.getD (ch[k].toNat % l.length) 0 else l.getD 0 0
theorem pickN_mem {ch : List Int} {k : Nat} {l : List Nat} (h : l ≠ []) : pickN ch k l ∈ l := by
  have hl : 0 < l.length := List.length_pos_iff.2 h
  unfold pickN
  split
  · have := Nat.mod_lt (ch[k].toNat) hl
    rw [List.getD_eq_getElem?_getD, List.getElem?_eq_getElem this]
    exact List.getElem_mem this
  · rw [List.getD_eq_getElem?_getD, List.getElem?_eq_getElem hl]
    exact List.getElem_mem hl
def walkS (M : Nat → Bool) (n : Nat) (ch : List Int) : Nat → List Nat × Nat
  | 0 => ([], 0)
  | k + 1 => ((walkS M n ch k).1 ++ [pickN ch k (itemsN (outerN M n (walkS M n ch k).2))], nOr (walkS M n ch k).2 (bit (pickN ch k (itemsN (outerN M n (walkS M n ch k).2)))))
theorem walk_len (M : Nat → Bool) (n : Nat) (ch : List Int) : ∀ k, (walkS M n ch k).1.length = k
  | 0 => rfl
  | k + 1 => by simp [walkS, walk_len M n ch k]
theorem walk_inv {n : Nat} {xs : List Nat} (g : SpGood n xs) (ch : List Int) : ∀ k, k ≤ n → (walkS (fam xs) n ch k).2 ∈ xs ∧ pcN (walkS (fam xs) n ch k).2 = k
  | 0, _ => ⟨g.zero, by show pcN 0 = 0; decide⟩
  | k + 1, hk => by
    obtain ⟨h1, h2⟩ := walk_inv g ch k (by omega)
    have hne : (walkS (fam xs) n ch k).2 ≠ bit n - 1 := by intro e; rw [e, pcN_full g.n7] at h2; omega
    have hm := pickN_mem (ch := ch) (k := k) (items_ne (by have := outerN_lt (fam xs) n (walkS (fam xs) n ch k).2; have := bit7 g.n7; omega) (g.outer h1 hne))
    obtain ⟨l1, l2, l3⟩ := g.learn hm
    refine ⟨l3, ?_⟩
    rw [walkS, pcN_or (g.lt7 _ h1) (by have := g.n7; omega) l2, h2]
theorem walk_ne {n : Nat} {xs : List Nat} (g : SpGood n xs) (ch : List Int) {k : Nat} (hk : k < n) : itemsN (outerN (fam xs) n (walkS (fam xs) n ch k).2) ≠ [] := by
  obtain ⟨h1, h2⟩ := walk_inv g ch k (by omega)
  have hne : (walkS (fam xs) n ch k).2 ≠ bit n - 1 := by intro e; rw [e, pcN_full g.n7] at h2; omega
  exact items_ne (by have := outerN_lt (fam xs) n (walkS (fam xs) n ch k).2; have := bit7 g.n7; omega) (g.outer h1 hne)
theorem walk_end {n : Nat} {xs : List Nat} (g : SpGood n xs) (ch : List Int) {k : Nat} (hk : k ≤ n) : (walkS (fam xs) n ch k).2 = bit n - 1 ↔ k = n := by
  obtain ⟨h1, h2⟩ := walk_inv g ch k hk
  constructor
  · intro e; rw [e, pcN_full g.n7] at h2; omega
  · rintro rfl; exact (pcN_lt g.n7 (g.lt _ h1)).2 h2

/-- How many sets have each number of items. -/
def sizesN (n : Nat) (xs : List Nat) : List Nat := (List.range (n + 1)).map fun k => (xs.filter fun x => pcN x == k).length
@[simp] theorem sizesN_length (n : Nat) (xs : List Nat) : (sizesN n xs).length = n + 1 := by simp [sizesN]
theorem sizesN_get (n : Nat) (xs : List Nat) (k : Nat) (h : k < (sizesN n xs).length) : (sizesN n xs)[k] = (xs.filter fun x => pcN x == k).length := by simp [sizesN]
theorem sizesN_snoc (n : Nat) (xs : List Nat) (x : Nat) (hx : pcN x ≤ n) : sizesN n (xs ++ [x]) = (sizesN n xs).set (pcN x) ((sizesN n xs)[pcN x]'(by simp; omega) + 1) := by
  apply List.ext_getElem (by simp)
  intro k h1 h2
  rw [List.getElem_set, sizesN_get, List.filter_append]
  by_cases e : pcN x = k
  · subst e; simp [sizesN_get]
  · rw [if_neg e, sizesN_get]; simp [e]
theorem sizesN_le (n : Nat) (xs : List Nat) (k : Nat) (h : k < (sizesN n xs).length) : (sizesN n xs)[k] ≤ xs.length := by
  rw [sizesN_get]; exact List.length_filter_le _ _
end Go.Proofs.Ytnjabaeajjhliaa
