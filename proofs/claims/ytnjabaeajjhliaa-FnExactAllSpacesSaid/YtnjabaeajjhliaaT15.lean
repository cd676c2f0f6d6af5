/- All spaces: pure. Lists in order, families, sorting and putting in. -/
import Derived.Test.YtnjabaeajjhliaaT13
import Derived.Test.YtnjabaeajjhliaaEngZf
namespace Go.Proofs.Ytnjabaeajjhliaa
set_option linter.unusedSimpArgs false
set_option linter.unusedVariables false
set_option maxHeartbeats 4000000
open Go Go.Eng

theorem cmpI_neg (a b : Int) : cmpI b a = - cmpI a b := by
  unfold cmpI
  split
  · split
    · omega
    · omega
  · split <;> omega
theorem cmpL_neg : ∀ (x y : List Int), cmpL y x = - cmpL x y
  | [], [] => rfl
  | [], _ :: _ => rfl
  | _ :: _, [] => rfl
  | a :: x, b :: y => by
    rw [cmpL, cmpL]
    by_cases h : a = b
    · rw [if_pos h, if_pos h.symm, cmpL_neg x y]
    · rw [if_neg h, if_neg (Ne.symm h), cmpI_neg]
theorem cmpI_lt {a b : Int} (h : cmpI a b < 0) : a < b := by
  unfold cmpI at h
  split at h
  · assumption
  · split at h <;> omega
theorem cmpI_of {a b : Int} (h : a < b) : cmpI a b < 0 := by unfold cmpI; rw [if_pos h]; omega
theorem cmpL_trans : ∀ {x y z : List Int}, cmpL x y < 0 → cmpL y z < 0 → cmpL x z < 0
  | [], [], _, h, _ => by simp [cmpL] at h
  | [], _ :: _, [], _, h => by simp [cmpL] at h
  | [], _ :: _, _ :: _, _, _ => by simp [cmpL]
  | _ :: _, [], _, h, _ => by simp [cmpL] at h
  | _ :: _, _ :: _, [], _, h => by simp [cmpL] at h
  | a :: x, b :: y, c :: z, h1, h2 => by
    rw [cmpL] at h1 h2 ⊢
    by_cases e1 : a = b
    · subst e1
      rw [if_pos rfl] at h1
      by_cases e2 : a = c
      · subst e2
        rw [if_pos rfl] at h2 ⊢
        exact cmpL_trans h1 h2
      · rw [if_neg e2] at h2 ⊢
        exact h2
    · rw [if_neg e1] at h1
      have l1 := cmpI_lt h1
      by_cases e2 : b = c
      · subst e2
        rw [if_neg e1]; exact h1
      · rw [if_neg e2] at h2
        have l2 := cmpI_lt h2
        rw [if_neg (by omega)]
        exact cmpI_of (by omega)
theorem cmpL_total {x y : List Int} (h1 : ¬ cmpL x y < 0) (h2 : ¬ cmpL y x < 0) : x = y := by
  have := cmpL_neg x y
  exact (cmpL_zero x y).1 (by omega)

def cmpN (x y : List Nat) : Int := cmpL (toN x) (toN y)
theorem cmpN_swo : Go.Sort.SWO (Go.Proofs.ltOf cmpN) where
  irrefl x := by
    have : cmpN x x = 0 := (cmpL_zero _ _).2 rfl
    simp [Go.Proofs.ltOf, this]
  trans x y z h1 h2 := by
    simp only [Go.Proofs.ltOf, decide_eq_true_eq] at *
    exact cmpL_trans h1 h2
  ntrans x y z h1 h2 := by
    simp only [Go.Proofs.ltOf, decide_eq_false_iff_not] at *
    intro h3
    have hyx : cmpN y x < 0 ∨ x = y := by
      by_cases h : cmpN y x < 0
      · exact .inl h
      · exact .inr (toN_inj.1 (cmpL_total h1 h))
    rcases hyx with h | rfl
    · exact h2 (cmpL_trans h h3)
    · exact h2 h3
theorem cmpN_total {x y : List Nat} (h1 : ¬ cmpN x y < 0) (h2 : ¬ cmpN y x < 0) : x = y := toN_inj.1 (cmpL_total h1 h2)
theorem cmpN_irr (x : List Nat) : ¬ cmpN x x < 0 := by
  have : cmpN x x = 0 := (cmpL_zero _ _).2 rfl
  omega

/-- The sets in a family, without that of no items and that of all: the first k. -/
def famS (m k : Nat) : List Nat := ((List.range k).filter fun x => m.testBit x).map (· + 1)
theorem famS_succ (m k : Nat) : famS m (k + 1) = if m.testBit k = true then famS m k ++ [k + 1] else famS m k := by
  unfold famS
  rw [List.range_succ, List.filter_append, List.map_append]
  by_cases h : m.testBit k = true <;> simp [h]
theorem famS_len (m k : Nat) : (famS m k).length ≤ k := by
  have := List.length_filter_le (fun x => m.testBit x) (List.range k)
  simp [famS] at this ⊢; exact this
theorem mem_famS {m k x : Nat} : x ∈ famS m k ↔ ∃ y, x = y + 1 ∧ y < k ∧ m.testBit y = true := by
  simp only [famS, List.mem_map, List.mem_filter, List.mem_range]
  constructor
  · rintro ⟨y, ⟨h1, h2⟩, rfl⟩; exact ⟨y, rfl, h1, h2⟩
  · rintro ⟨y, rfl, h1, h2⟩; exact ⟨y, ⟨h1, h2⟩, rfl⟩
def famL (n m : Nat) : List Nat := 0 :: (famS m (bit n - 2) ++ [bit n - 1])
theorem famL_srt {n m : Nat} (hn : 1 ≤ n) : (famL n m).Pairwise (· < ·) := by
  have hb : 2 ≤ bit n := bit_mono (i := 1) hn
  have h1 : (famS m (bit n - 2)).Pairwise (· < ·) := by
    unfold famS
    rw [List.pairwise_map]
    exact (List.Pairwise.filter _ List.pairwise_lt_range).imp fun h => by omega
  rw [famL, List.pairwise_cons, List.pairwise_append]
  refine ⟨fun x hx => ?_, h1, List.pairwise_singleton _ _, fun x hx y hy => ?_⟩
  · rcases List.mem_append.1 hx with h | h
    · obtain ⟨y, rfl, _⟩ := mem_famS.1 h; omega
    · simp at h; omega
  · obtain ⟨z, rfl, h2, _⟩ := mem_famS.1 hx
    simp at hy; omega
theorem famL_lt {n m : Nat} (hn : 1 ≤ n) : ∀ x ∈ famL n m, x < bit n := by
  have hb : 2 ≤ bit n := bit_mono (i := 1) hn
  intro x hx
  rcases List.mem_cons.1 hx with h | h
  · omega
  · rcases List.mem_append.1 h with h | h
    · obtain ⟨y, rfl, h1, _⟩ := mem_famS.1 h; omega
    · simp at h; omega
theorem famL_len (n m : Nat) (hn : 1 ≤ n) : (famL n m).length ≤ bit n := by
  have hb : 2 ≤ bit n := bit_mono (i := 1) hn
  have := famS_len m (bit n - 2)
  simp [famL]; omega
theorem famL_inj {n a b : Nat} (hn : 1 ≤ n) (ha : a < 2 ^ (bit n - 2)) (hb : b < 2 ^ (bit n - 2)) (h : famL n a = famL n b) : a = b := by
  have hb2 : 2 ≤ bit n := bit_mono (i := 1) hn
  have key : ∀ c i, i < bit n - 2 → (i + 1 ∈ famL n c ↔ c.testBit i = true) := fun c i hi => by
    simp only [famL, List.mem_cons, List.mem_append, List.mem_singleton, List.not_mem_nil, or_false]
    constructor
    · rintro (h | h | h)
      · omega
      · obtain ⟨y, e, _, h3⟩ := mem_famS.1 h
        have : y = i := by omega
        subst this; exact h3
      · omega
    · intro h
      exact .inr (.inl (mem_famS.2 ⟨i, rfl, hi, h⟩))
  apply Nat.eq_of_testBit_eq
  intro i
  by_cases hi : i < bit n - 2
  · rw [Bool.eq_iff_iff, ← key a i hi, ← key b i hi, h]
  · rw [Nat.testBit_lt_two_pow (Nat.lt_of_lt_of_le ha (Nat.pow_le_pow_right (by omega) (by omega))), Nat.testBit_lt_two_pow (Nat.lt_of_lt_of_le hb (Nat.pow_le_pow_right (by omega) (by omega)))]

/-- The spaces among the first f families. -/
noncomputable def candK (n f : Nat) : List (List Nat) := ((List.range f).map (famL n)).filter fun xs => spB n (toN xs)
theorem candK_succ (n f : Nat) : candK n (f + 1) = if spB n (toN (famL n f)) = true then candK n f ++ [famL n f] else candK n f := by
  unfold candK
  rw [List.range_succ, List.map_append, List.filter_append]
  by_cases h : spB n (toN (famL n f)) = true <;> simp [h]
theorem candK_len (n f : Nat) : (candK n f).length ≤ f := by
  have := List.length_filter_le (fun xs => spB n (toN xs)) ((List.range f).map (famL n))
  simpa [candK] using this
theorem candK_mem {n f : Nat} {xs : List Nat} : xs ∈ candK n f ↔ (∃ m, m < f ∧ famL n m = xs) ∧ spB n (toN xs) = true := by
  simp [candK]
theorem candK_nodup {n f : Nat} (hn : 1 ≤ n) (hf : f ≤ 2 ^ (bit n - 2)) : (candK n f).Nodup := by
  unfold List.Nodup candK
  refine List.Pairwise.filter _ ?_
  rw [List.pairwise_map]
  refine List.Pairwise.imp_of_mem ?_ (List.nodup_range (n := f))
  intro a b ha hb hne e
  simp at ha hb
  exact hne (famL_inj hn (by omega) (by omega) e)
noncomputable def spacesL (n : Nat) : List (List Nat) := (candK n (2 ^ (bit n - 2))).mergeSort fun x y => !(Go.Proofs.ltOf cmpN y x)
theorem spacesL_len (n : Nat) : (spacesL n).length = (candK n (2 ^ (bit n - 2))).length := List.length_mergeSort _
theorem spacesL_mem {n : Nat} {xs : List Nat} : xs ∈ spacesL n ↔ xs ∈ candK n (2 ^ (bit n - 2)) := List.mem_mergeSort
theorem spacesL_good {n : Nat} {xs : List Nat} (h : xs ∈ spacesL n) : SpGood n xs := by
  obtain ⟨m, ys, h1, h2, g⟩ := spB_true (candK_mem.1 (spacesL_mem.1 h)).2
  have e1 : n = m := by omega
  have e2 : xs = ys := toN_inj.1 h2
  subst e1 e2; exact g
theorem spacesL_srt {n : Nat} (hn : 1 ≤ n) : (spacesL n).Pairwise fun x y => cmpN x y < 0 := by
  have h1 : (spacesL n).Pairwise fun x y => (!(Go.Proofs.ltOf cmpN y x)) = true := by
    refine List.pairwise_mergeSort (le := fun x y => !(Go.Proofs.ltOf cmpN y x)) (fun a b c h1 h2 => ?_) (fun a b => ?_) _
    · simp only [Bool.not_eq_true'] at *
      exact cmpN_swo.ntrans _ _ _ h2 h1
    · simp only [Bool.or_eq_true, Bool.not_eq_true', Go.Proofs.ltOf, decide_eq_false_iff_not]
      have := cmpL_neg (toN a) (toN b)
      unfold cmpN; omega
  have h2 : (spacesL n).Nodup := (List.mergeSort_perm _ _).nodup_iff.2 (candK_nodup hn (Nat.le_refl _))
  refine (List.pairwise_and_iff.2 ⟨h1, h2⟩).imp fun {a b} ⟨p, q⟩ => ?_
  simp only [Bool.not_eq_true', Go.Proofs.ltOf, decide_eq_false_iff_not] at p
  apply Classical.byContradiction
  intro h
  exact q (cmpN_total h p)
/-- What is in order and has the same elements is the list. -/
theorem spacesL_uniq {n : Nat} (hn : 1 ≤ n) {L : List (List Nat)} (h1 : L.Pairwise fun x y => cmpN x y < 0) (h2 : L.Perm (candK n (2 ^ (bit n - 2)))) : L = spacesL n := by
  refine List.Perm.eq_of_pairwise (le := fun x y => cmpN x y < 0) (fun x y _ _ h3 h4 => ?_) h1 (spacesL_srt hn) (h2.trans (List.mergeSort_perm _ _).symm)
  exact absurd (cmpL_trans h3 h4) (cmpN_irr x)

/-- One space put into its place. -/
theorem put_in {L : List (List Nat)} {s : List Nat} {k : Nat} (hs : L.Pairwise fun x y => cmpN x y < 0) (hk : k ≤ L.length) (h1 : ∀ j (hj : j < L.length), k ≤ j → cmpN s L[j] < 0) (h2 : ∀ hk : 0 < k, ¬ cmpN s (L[k - 1]'(by omega)) < 0) (hn : ¬ s ∈ L) :
    (L.take k ++ [s] ++ L.drop k).Pairwise (fun x y => cmpN x y < 0) ∧ (L.take k ++ [s] ++ L.drop k).Perm (L ++ [s]) := by
  constructor
  · have hp := List.pairwise_append.1 (by rw [List.take_append_drop]; exact hs : (L.take k ++ L.drop k).Pairwise fun x y => cmpN x y < 0)
    have ht : ∀ x ∈ L.take k, cmpN x s < 0 := by
      intro x hx
      obtain ⟨i, hi, rfl⟩ := List.mem_iff_getElem.1 hx
      have hi' : i < k := by simp at hi; omega
      rw [List.getElem_take]
      have hil : i < L.length := by omega
      have h3 := h2 (by omega)
      have h4 : ¬ cmpN s L[i] < 0 := by
        by_cases e : i = k - 1
        · subst e; exact h3
        · intro h5
          exact h3 (cmpL_trans h5 (List.pairwise_iff_getElem.1 hs i (k - 1) hil (by omega) (by omega)))
      apply Classical.byContradiction
      intro h5
      exact hn (cmpN_total h4 h5 ▸ List.getElem_mem hil)
    have hd : ∀ x ∈ L.drop k, cmpN s x < 0 := by
      intro x hx
      obtain ⟨i, hi, rfl⟩ := List.mem_iff_getElem.1 hx
      simp at hi
      rw [List.getElem_drop]
      exact h1 _ (by omega) (by omega)
    rw [List.pairwise_append, List.pairwise_append]
    refine ⟨⟨hp.1, List.pairwise_singleton _ _, fun x hx y hy => ?_⟩, hp.2.1, fun x hx y hy => ?_⟩
    · simp at hy; subst hy; exact ht x hx
    · rcases List.mem_append.1 hx with h | h
      · exact hp.2.2 x h y hy
      · simp at h; subst h; exact hd y hy
  · have : (L.take k ++ [s] ++ L.drop k).Perm (L.take k ++ L.drop k ++ [s]) := by
      rw [List.append_assoc, List.append_assoc]
      exact List.Perm.append_left _ List.perm_append_comm
    rwa [List.take_append_drop] at this
end Go.Proofs.Ytnjabaeajjhliaa
