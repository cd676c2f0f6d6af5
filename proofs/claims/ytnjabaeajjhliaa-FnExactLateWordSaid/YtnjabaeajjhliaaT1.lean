/- Words and orders; sets with other names. Plain Lean. -/
import Derived.Test.YtnjabaeajjhliaaS6
namespace Go.Proofs.Ytnjabaeajjhliaa
set_option linter.unusedSimpArgs false
set_option linter.unusedVariables false
set_option maxHeartbeats 4000000
open Go Go.Eng

/-- The words of k items more behind a word, in order. -/
def wordsF (M : Nat → Bool) (n : Nat) : Nat → List Nat → Nat → List (List Nat)
  | 0, w, _ => [w]
  | k + 1, w, s => (itemsN (outerN M n s)).flatMap fun i => wordsF M n k (w ++ [i]) (nOr s (bit i))
/-- The orders of n items that go on behind a list. -/
def permsF (n : Nat) : Nat → List Nat → List (List Nat)
  | 0, l => [l]
  | k + 1, l => (List.range n).flatMap fun x => if x ∈ l then [] else permsF n k (l ++ [x])

theorem flatMap_filter {α β : Type} (p : α → Bool) (f : α → List β) : ∀ l : List α, (l.filter p).flatMap f = l.flatMap fun x => if p x = true then f x else []
  | [] => rfl
  | a :: l => by
    by_cases h : p a = true
    · simp [h, flatMap_filter p f l]
    · simp [h, flatMap_filter p f l]
theorem flatMap_eq {α β : Type} {f g : α → List β} : ∀ {l : List α}, (∀ a ∈ l, f a = g a) → l.flatMap f = l.flatMap g
  | [], _ => rfl
  | a :: l, h => by
    rw [List.flatMap_cons, List.flatMap_cons, h a (by simp), flatMap_eq fun b hb => h b (by simp [hb])]
theorem items_below {o n : Nat} (ho : o < bit n) (hn : n ≤ 7) : itemsN o = (List.range n).filter fun i => o.testBit i := by
  unfold itemsN
  have h7 : List.range 7 = List.range n ++ (List.range (7 - n)).map (n + ·) := by
    rw [← List.range_add]; congr 1; omega
  rw [h7, List.filter_append]
  have : ((List.range (7 - n)).map (n + ·)).filter (fun i => o.testBit i) = [] := by
    rw [List.filter_eq_nil_iff]
    intro a ha
    simp only [List.mem_map, List.mem_range] at ha
    obtain ⟨d, _, rfl⟩ := ha
    rw [hi_bit ho (by omega)]; simp
  rw [this, List.append_nil]
theorem words_perms {n : Nat} {M : Nat → Bool} (hn : n ≤ 7) (hM : ∀ a, a < bit n → M a = true) : ∀ (k : Nat) (l : List Nat) (s : Nat), (∀ i, s.testBit i = decide (i ∈ l)) → (∀ i ∈ l, i < n) → wordsF M n k l s = permsF n k l
  | 0, l, s, _, _ => rfl
  | k + 1, l, s, hs, hl => by
    have hsn : s < bit n := lt_bit_of fun i hi => by
      rw [hs]
      have : ¬ i ∈ l := fun h => by have := hl i h; omega
      simp [this]
    have hit : itemsN (outerN M n s) = (List.range n).filter fun i => !decide (i ∈ l) := by
      rw [items_below (outerN_lt _ _ _) hn]
      apply List.filter_congr
      intro i hi
      have hi' : i < n := by simpa using hi
      rw [outerN_bit, hs, hM _ (nOr_lt hsn (bit_lt_bit hi'))]
      simp [hi']
    rw [wordsF, permsF, hit, flatMap_filter]
    refine flatMap_eq fun x hx => ?_
    have hx' : x < n := by simpa using hx
    by_cases h : x ∈ l
    · simp [h]
    · simp only [h, decide_false, Bool.not_false, if_true, if_false]
      refine words_perms hn hM k (l ++ [x]) _ (fun i => ?_) (fun i hi => ?_)
      · rw [nOr_bit, bit_bit, hs]
        by_cases e : x = i
        · subst e; simp
        · simp [e, Ne.symm e]
      · rcases List.mem_append.1 hi with h1 | h1
        · exact hl i h1
        · simp at h1; omega

theorem srt_ext {a b : List Nat} (ha : a.Pairwise (· < ·)) (hb : b.Pairwise (· < ·)) (h : ∀ x, x ∈ a ↔ x ∈ b) : a = b := by
  have na : a.Nodup := ha.imp fun h e => by omega
  have nb : b.Nodup := hb.imp fun h e => by omega
  exact List.Perm.eq_of_pairwise (fun x y _ _ h1 h2 => by omega) ha hb ((List.perm_ext_iff_of_nodup na nb).2 h)

/-- A set with other names: the first k items. -/
def renK (names : List Nat) (s : Nat) : Nat → Nat
  | 0 => 0
  | k + 1 => if s.testBit k = true then nOr (renK names s k) (bit (names.getD k 0)) else renK names s k
def renN (names : List Nat) (s : Nat) : Nat := renK names s names.length
theorem renK_lt {names : List Nat} {m : Nat} (s : Nat) (h : ∀ k, k < names.length → names.getD k 0 < m) : ∀ k, k ≤ names.length → renK names s k < bit m
  | 0, _ => by simp [renK]; exact bit_pos m
  | k + 1, hk => by
    have h1 := renK_lt s h k (by omega)
    rw [renK]
    split
    · exact nOr_lt h1 (bit_lt_bit (h k (by omega)))
    · exact h1
/-- The sets with other names, increasing. -/
def namedN (n : Nat) (names xs : List Nat) : List Nat := (List.range (bit n)).filter fun a => decide (a ∈ xs.map (renN names))
theorem namedN_srt (n : Nat) (names xs : List Nat) : (namedN n names xs).Pairwise (· < ·) := List.Pairwise.filter _ List.pairwise_lt_range
theorem namedN_mem {n : Nat} {names xs : List Nat} (h : ∀ k, k < names.length → names.getD k 0 < n) (a : Nat) : a ∈ namedN n names xs ↔ a ∈ xs.map (renN names) := by
  unfold namedN
  simp only [List.mem_filter, List.mem_range, decide_eq_true_eq]
  constructor
  · exact fun h => h.2
  · intro h1
    refine ⟨?_, h1⟩
    obtain ⟨x, _, rfl⟩ := List.mem_map.1 h1
    exact renK_lt x h _ (Nat.le_refl _)

/-- One set more among increasing ones. -/
def putL (l : List Nat) (a : Nat) : List Nat := if a ∈ l then l else l.filter (fun x => decide (x < a)) ++ [a] ++ l.filter fun x => decide (a < x)
theorem putL_mem (l : List Nat) (a x : Nat) : x ∈ putL l a ↔ x = a ∨ x ∈ l := by
  unfold putL
  by_cases h : a ∈ l
  · rw [if_pos h]
    constructor
    · exact .inr
    · rintro (rfl | h1)
      · exact h
      · exact h1
  · rw [if_neg h]
    simp only [List.mem_append, List.mem_filter, List.mem_singleton, decide_eq_true_eq]
    constructor
    · rintro ((⟨h1, _⟩ | h1) | ⟨h1, _⟩)
      · exact .inr h1
      · exact .inl h1
      · exact .inr h1
    · rintro (rfl | h1)
      · exact .inl (.inr rfl)
      · have : x ≠ a := fun e => h (e ▸ h1)
        rcases Nat.lt_or_gt_of_ne this with h2 | h2
        · exact .inl (.inl ⟨h1, h2⟩)
        · exact .inr ⟨h1, h2⟩
theorem putL_srt {l : List Nat} (hl : l.Pairwise (· < ·)) (a : Nat) : (putL l a).Pairwise (· < ·) := by
  unfold putL
  by_cases h : a ∈ l
  · rw [if_pos h]; exact hl
  · rw [if_neg h, List.pairwise_append, List.pairwise_append]
    refine ⟨⟨List.Pairwise.filter _ hl, List.pairwise_singleton _ _, fun x hx y hy => ?_⟩, List.Pairwise.filter _ hl, fun x hx y hy => ?_⟩
    · simp at hx hy; omega
    · simp at hx hy; omega
def putAll (names : List Nat) : List Nat → List Nat → List Nat
  | [], l => l
  | x :: xs, l => putAll names xs (putL l (renN names x))
theorem putAll_ok (names : List Nat) : ∀ (xs l : List Nat), l.Pairwise (· < ·) → (putAll names xs l).Pairwise (· < ·) ∧ ∀ a, a ∈ putAll names xs l ↔ a ∈ l ∨ a ∈ xs.map (renN names)
  | [], l, h => ⟨h, fun a => by simp [putAll]⟩
  | x :: xs, l, h => by
    obtain ⟨h1, h2⟩ := putAll_ok names xs _ (putL_srt h (renN names x))
    refine ⟨h1, fun a => ?_⟩
    rw [putAll, h2, putL_mem, List.map_cons, List.mem_cons]
    constructor
    · rintro ((h | h) | h)
      · exact .inr (.inl h)
      · exact .inl h
      · exact .inr (.inr h)
    · rintro (h | h | h)
      · exact .inl (.inr h)
      · exact .inl (.inl h)
      · exact .inr h
theorem putAll_named {n : Nat} {names xs : List Nat} (h : ∀ k, k < names.length → names.getD k 0 < n) : putAll names xs [] = namedN n names xs := by
  obtain ⟨h1, h2⟩ := putAll_ok names xs [] List.Pairwise.nil
  refine srt_ext h1 (namedN_srt _ _ _) fun a => ?_
  rw [h2, namedN_mem h]; simp
end Go.Proofs.Ytnjabaeajjhliaa
