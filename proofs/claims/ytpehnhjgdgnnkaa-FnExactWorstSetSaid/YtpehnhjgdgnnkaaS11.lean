/- Questions: what is left, what is open, how many questions are needed. Plain Lean. -/
import Derived.Test.YtpehnhjgdgnnkaaS6
namespace Go.Proofs.Ytpehnhjgdgnnkaa
set_option linter.unusedSimpArgs false
set_option linter.unusedVariables false
set_option maxHeartbeats 4000000
open Go Go.Eng

/-- The sets that have all of y and nothing of z. -/
def leftB (y z x : Nat) : Bool := (ndiff y x == 0) && (nAnd x z == 0)
def leftN (xs : List Nat) (y z : Nat) : List Nat := xs.filter fun x => leftB y z x
theorem nAnd_comm (a b : Nat) : nAnd a b = nAnd b a := Nat.and_comm a b
theorem nAnd_zero (a b : Nat) : nAnd a b = 0 ↔ ∀ i, a.testBit i = true → b.testBit i = false := by
  constructor
  · intro h i hi
    have := nAnd_bit a b i
    rw [h, hi] at this
    simpa using this.symm
  · intro h
    apply eq_bits
    intro i
    rw [nAnd_bit, Nat.zero_testBit]
    cases ha : a.testBit i
    · rfl
    · rw [h i ha]; rfl
theorem leftB_iff {y z x : Nat} : leftB y z x = true ↔ (∀ i, y.testBit i = true → x.testBit i = true) ∧ ∀ i, z.testBit i = true → x.testBit i = false := by
  unfold leftB
  simp only [Bool.and_eq_true, beq_iff_eq]
  rw [ndiff_zero, nAnd_zero]
  constructor
  · rintro ⟨h1, h2⟩
    refine ⟨h1, fun i hi => ?_⟩
    cases hx : x.testBit i
    · rfl
    · rw [h2 i hx] at hi; cases hi
  · rintro ⟨h1, h2⟩
    refine ⟨h1, fun i hi => ?_⟩
    cases hz : z.testBit i
    · rfl
    · rw [h2 i hz] at hi; cases hi
def hasL (L : List Nat) (i : Nat) : List Nat := L.filter fun x => x.testBit i
def lacksL (L : List Nat) (i : Nat) : List Nat := L.filter fun x => !x.testBit i
theorem left_yes (xs : List Nat) (y z i : Nat) : leftN xs (nOr y (bit i)) z = hasL (leftN xs y z) i := by
  unfold leftN hasL
  rw [List.filter_filter]
  apply List.filter_congr
  intro x _
  rw [Bool.eq_iff_iff, Bool.and_eq_true, leftB_iff, leftB_iff]
  constructor
  · rintro ⟨h1, h2⟩
    exact ⟨h1 i (by rw [nOr_bit, bit_bit]; simp), fun j hj => h1 j (by rw [nOr_bit, hj]; rfl), h2⟩
  · rintro ⟨h0, h1, h2⟩
    refine ⟨fun j hj => ?_, h2⟩
    rw [nOr_bit, bit_bit, Bool.or_eq_true] at hj
    rcases hj with hj | hj
    · exact h1 j hj
    · rw [← of_decide_eq_true hj]; exact h0
theorem left_no (xs : List Nat) (y z i : Nat) : leftN xs y (nOr z (bit i)) = lacksL (leftN xs y z) i := by
  unfold leftN lacksL
  rw [List.filter_filter]
  apply List.filter_congr
  intro x _
  rw [Bool.eq_iff_iff, Bool.and_eq_true, leftB_iff, leftB_iff]
  constructor
  · rintro ⟨h1, h2⟩
    exact ⟨by rw [h2 i (by rw [nOr_bit, bit_bit]; simp)]; rfl, h1, fun j hj => h2 j (by rw [nOr_bit, hj]; rfl)⟩
  · rintro ⟨h0, h1, h2⟩
    refine ⟨h1, fun j hj => ?_⟩
    rw [nOr_bit, bit_bit, Bool.or_eq_true] at hj
    rcases hj with hj | hj
    · exact h2 j hj
    · rw [← of_decide_eq_true hj]; simpa using h0
theorem left_zero (xs : List Nat) : leftN xs 0 0 = xs := by
  unfold leftN
  rw [List.filter_eq_self]
  intro x _
  exact leftB_iff.2 ⟨fun i hi => by simp at hi, fun i hi => by simp at hi⟩

/-- An item that some, but not all have. -/
def opB (L : List Nat) (i : Nat) : Bool := (L.any fun x => x.testBit i) && L.any fun x => !x.testBit i
theorem opB_iff {L : List Nat} {i : Nat} : opB L i = true ↔ (∃ x ∈ L, x.testBit i = true) ∧ ∃ x ∈ L, x.testBit i = false := by
  unfold opB
  simp only [Bool.and_eq_true, List.any_eq_true, Bool.not_eq_true']
def openK (L : List Nat) (k : Nat) : List Nat := (List.range k).filter fun i => opB L i
def openN (L : List Nat) : List Nat := openK L 7
theorem openK_succ (L : List Nat) (k : Nat) : openK L (k + 1) = if opB L k = true then openK L k ++ [k] else openK L k := by
  unfold openK
  rw [List.range_succ, List.filter_append]
  by_cases h : opB L k = true <;> simp [h]
theorem openK_len (L : List Nat) (k : Nat) : (openK L k).length ≤ k := by
  unfold openK
  have := List.length_filter_le (fun i => opB L i) (List.range k)
  simpa using this
theorem mem_openK {L : List Nat} {k i : Nat} : i ∈ openK L k ↔ i < k ∧ opB L i = true := by simp [openK]
theorem openK_eq {L : List Nat} {n : Nat} (hn : n ≤ 7) (hL : ∀ x ∈ L, x < bit n) : openK L n = openN L := by
  have : ∀ d, n + d ≤ 7 → openK L (n + d) = openK L n := by
    intro d
    induction d with
    | zero => intro _; rfl
    | succ d ih =>
      intro hd
      have hno : opB L (n + d) = false := by
        rw [Bool.eq_false_iff]
        intro h
        obtain ⟨⟨x, hx, hb⟩, _⟩ := opB_iff.1 h
        rw [hi_bit (hL x hx) (by omega)] at hb
        cases hb
      rw [show n + (d + 1) = n + d + 1 by omega, openK_succ, hno]
      exact ih (by omega)
  have h1 := this (7 - n) (by omega)
  rw [show n + (7 - n) = 7 by omega] at h1
  exact h1.symm
theorem has_len {L : List Nat} {i : Nat} (h : opB L i = true) : (hasL L i).length < L.length ∧ (lacksL L i).length < L.length ∧ 0 < (hasL L i).length ∧ 0 < (lacksL L i).length ∧ (hasL L i).length + (lacksL L i).length = L.length := by
  obtain ⟨⟨x, hx, hxb⟩, ⟨y, hy, hyb⟩⟩ := opB_iff.1 h
  have h1 : x ∈ hasL L i := List.mem_filter.2 ⟨hx, hxb⟩
  have h2 : y ∈ lacksL L i := List.mem_filter.2 ⟨hy, by simp [hyb]⟩
  have h3 : (hasL L i).length + (lacksL L i).length = L.length := by
    clear h hx hy h1 h2
    unfold hasL lacksL
    induction L with
    | nil => rfl
    | cons a L ih => cases hb : a.testBit i <;> simp [hb] <;> omega
  have h4 := List.length_pos_of_mem h1
  have h5 := List.length_pos_of_mem h2
  omega
theorem open_nil : ∀ L : List Nat, L = [] → openN L = [] := by
  rintro L rfl
  rfl

/-- The least of some numbers, 0 if there is none. -/
def minL : List Nat → Nat
  | [] => 0
  | a :: l => l.foldl min a
theorem minL_snoc (l : List Nat) (a : Nat) : minL (l ++ [a]) = if l = [] then a else min (minL l) a := by
  cases l with
  | nil => rfl
  | cons b l => simp [minL, List.foldl_append]
theorem minL_le {l : List Nat} {b : Nat} (hne : l ≠ []) (h : ∀ x ∈ l, x ≤ b) : minL l ≤ b := by
  cases l with
  | nil => exact absurd rfl hne
  | cons a l =>
    have : ∀ (l : List Nat) (a : Nat), a ≤ b → l.foldl min a ≤ b := by
      intro l
      induction l with
      | nil => intro a ha; exact ha
      | cons c l ih => intro a ha; exact ih (min a c) (by omega)
    exact this l a (h a (by simp))

/-- The least number of questions in the worst case, with so much fuel. -/
def worstF : Nat → List Nat → Nat
  | 0, _ => 0
  | k + 1, L => minL ((openN L).map fun i => 1 + max (worstF k (hasL L i)) (worstF k (lacksL L i)))
def worstN (L : List Nat) : Nat := worstF L.length L
theorem worstF_nil : ∀ k, worstF k [] = 0
  | 0 => rfl
  | k + 1 => by rw [worstF, open_nil [] rfl]; rfl
theorem worstF_same : ∀ (m k : Nat) (L : List Nat), L.length ≤ m → L.length ≤ k → worstF m L = worstF k L
  | 0, k, L, h1, h2 => by
    have : L = [] := List.length_eq_zero_iff.1 (by omega)
    subst this; rw [worstF_nil, worstF_nil]
  | m + 1, 0, L, h1, h2 => by
    have : L = [] := List.length_eq_zero_iff.1 (by omega)
    subst this; rw [worstF_nil, worstF_nil]
  | m + 1, k + 1, L, h1, h2 => by
    rw [worstF, worstF]
    congr 1
    apply List.map_congr_left
    intro i hi
    obtain ⟨g1, g2, _⟩ := has_len (mem_openK.1 hi).2
    rw [worstF_same m k _ (by omega) (by omega), worstF_same m k _ (by omega) (by omega)]
/-- What a question comes to. -/
def askN (L : List Nat) (i : Nat) : Nat := 1 + max (worstN (hasL L i)) (worstN (lacksL L i))
theorem worstN_eq (L : List Nat) : worstN L = minL ((openN L).map (askN L)) := by
  unfold worstN
  cases hk : L.length with
  | zero =>
    have : L = [] := List.length_eq_zero_iff.1 hk
    subst this; rfl
  | succ k =>
    rw [worstF]
    congr 1
    apply List.map_congr_left
    intro i hi
    obtain ⟨g1, g2, _⟩ := has_len (mem_openK.1 hi).2
    unfold askN worstN
    rw [worstF_same k _ _ (by omega) (Nat.le_refl _), worstF_same k _ (lacksL L i) (by omega) (Nat.le_refl _)]
theorem worstF_le : ∀ k L, worstF k L ≤ k
  | 0, _ => Nat.le_refl _
  | k + 1, L => by
    rw [worstF]
    by_cases hne : openN L = []
    · rw [hne]; exact Nat.zero_le _
    · refine minL_le (by simpa using hne) fun x hx => ?_
      obtain ⟨i, _, rfl⟩ := List.mem_map.1 hx
      have h1 := worstF_le k (hasL L i)
      have h2 := worstF_le k (lacksL L i)
      omega
theorem worstN_le (L : List Nat) : worstN L ≤ L.length := worstF_le _ _
theorem askN_le {L : List Nat} {i : Nat} (h : opB L i = true) : askN L i ≤ L.length := by
  obtain ⟨g1, g2, _⟩ := has_len h
  have h1 := worstN_le (hasL L i)
  have h2 := worstN_le (lacksL L i)
  unfold askN
  omega

/-- The first item with which a best strategy begins; the one that halves best; -1 if there is none. -/
def bestN (L : List Nat) : Int := match (openN L).find? fun i => askN L i == worstN L with
  | some i => i
  | none => -1
theorem bestN_at {L : List Nat} {j : Nat} (hj : j < (openN L).length) (h1 : ∀ k (hk : k < (openN L).length), k < j → askN L (openN L)[k] ≠ worstN L) (h2 : askN L (openN L)[j] = worstN L) : bestN L = ((openN L)[j] : Nat) := by
  have : (openN L).find? (fun i => askN L i == worstN L) = some (openN L)[j] := by
    rw [List.find?_eq_some_iff_getElem]
    exact ⟨by simp [h2], j, hj, rfl, fun k hk => by simpa using h1 k (by omega) hk⟩
  rw [bestN, this]
theorem bestN_none {L : List Nat} (h1 : ∀ k (hk : k < (openN L).length), askN L (openN L)[k] ≠ worstN L) : bestN L = -1 := by
  have : (openN L).find? (fun i => askN L i == worstN L) = none := by
    rw [List.find?_eq_none]
    intro x hx
    obtain ⟨k, hk, rfl⟩ := List.getElem_of_mem hx
    simpa using h1 k hk
  rw [bestN, this]
theorem minL_mem : ∀ {l : List Nat}, l ≠ [] → minL l ∈ l := by
  intro l hne
  cases l with
  | nil => exact absurd rfl hne
  | cons a l =>
    have : ∀ (l : List Nat) (a : Nat), l.foldl min a = a ∨ l.foldl min a ∈ l := by
      intro l
      induction l with
      | nil => intro a; exact .inl rfl
      | cons c l ih =>
        intro a
        rcases ih (min a c) with h | h
        · rcases Nat.le_total a c with h1 | h1
          · left; rw [List.foldl_cons, h]; omega
          · right; rw [List.foldl_cons, h]; simp; left; omega
        · right; rw [List.foldl_cons]; simp [h]
    rcases this l a with h | h
    · rw [minL, h]; simp
    · rw [minL]; simp [h]
theorem bestN_mem {L : List Nat} (hne : openN L ≠ []) : ∃ i, bestN L = (i : Nat) ∧ i ∈ openN L ∧ askN L i = worstN L := by
  have h1 := minL_mem (l := (openN L).map (askN L)) (by simpa using hne)
  rw [← worstN_eq] at h1
  obtain ⟨i, hi, he⟩ := List.mem_map.1 h1
  unfold bestN
  cases hf : (openN L).find? (fun i => askN L i == worstN L) with
  | none =>
    rw [List.find?_eq_none] at hf
    have := hf i hi
    simp [he] at this
  | some k =>
    have h2 := List.mem_of_find?_eq_some hf
    have h3 := List.find?_some hf
    exact ⟨k, rfl, h2, by simpa using h3⟩
def distN (L : List Nat) (i : Nat) : Nat := (2 * ((hasL L i).length : Int) - (L.length : Int)).natAbs
def halfS (L : List Nat) (l : List Nat) : Int × Nat := l.foldl (fun s i => if s.1 < 0 ∨ distN L i < s.2 then ((i : Int), distN L i) else s) (-1, 0)
def halfN (L : List Nat) : Int := (halfS L (openN L)).1
theorem halfS_snoc (L l : List Nat) (i : Nat) : halfS L (l ++ [i]) = if (halfS L l).1 < 0 ∨ distN L i < (halfS L l).2 then ((i : Int), distN L i) else halfS L l := by
  rw [halfS, List.foldl_append]; rfl
theorem halfS_mem (L : List Nat) : ∀ (l : List Nat) (s : Int × Nat), (l.foldl (fun s i => if s.1 < 0 ∨ distN L i < s.2 then ((i : Int), distN L i) else s) s).1 = s.1 ∨ ∃ i, (l.foldl (fun s i => if s.1 < 0 ∨ distN L i < s.2 then ((i : Int), distN L i) else s) s).1 = (i : Nat) ∧ i ∈ l
  | [], s => .inl rfl
  | a :: l, s => by
    rw [List.foldl_cons]
    rcases halfS_mem L l (if s.1 < 0 ∨ distN L a < s.2 then ((a : Int), distN L a) else s) with h | ⟨i, h1, h2⟩
    · by_cases hc : s.1 < 0 ∨ distN L a < s.2
      · right; refine ⟨a, ?_, by simp⟩
        rw [h, if_pos hc]
      · left; rw [h, if_neg hc]
    · right; exact ⟨i, h1, by simp [h2]⟩
theorem halfN_mem {L : List Nat} (hne : openN L ≠ []) : ∃ i, halfN L = (i : Nat) ∧ i ∈ openN L := by
  unfold halfN halfS
  cases he : openN L with
  | nil => exact absurd he hne
  | cons a l =>
    rw [List.foldl_cons, if_pos (.inl (by decide))]
    rcases halfS_mem L l ((a : Int), distN L a) with h | ⟨i, h1, h2⟩
    · exact ⟨a, h, by simp⟩
    · exact ⟨i, h1, by simp [h2]⟩
theorem halfN_nil {L : List Nat} (h : openN L = []) : halfN L = -1 := by rw [halfN, h]; rfl
theorem bestN_nil {L : List Nat} (h : openN L = []) : bestN L = -1 := by rw [bestN, h]; rfl

/-- The items that are asked for. -/
def runF (ask : List Nat → Int) (set : Nat) : Nat → List Nat → List Nat
  | 0, _ => []
  | k + 1, L => if ask L < 0 then [] else (ask L).toNat :: runF ask set k (if set.testBit (ask L).toNat = true then hasL L (ask L).toNat else lacksL L (ask L).toNat)
/-- Of different sets more than one is left exactly if an item is open. -/
theorem open_ne {n : Nat} {L : List Nat} (hn : n ≤ 7) (hs : L.Pairwise (· < ·)) (hL : ∀ x ∈ L, x < bit n) : openN L ≠ [] ↔ 1 < L.length := by
  constructor
  · intro h
    obtain ⟨i, hi⟩ := List.exists_mem_of_ne_nil _ h
    obtain ⟨g1, g2, g3, g4, g5⟩ := has_len (mem_openK.1 hi).2
    omega
  · intro h he
    match L, h with
    | a :: b :: l, _ =>
      have hab : a < b := (List.pairwise_cons.1 hs).1 b (by simp)
      have hne : a ≠ b := by omega
      apply hne
      refine eq_bits_n (n := n) (hL a (by simp)) (hL b (by simp)) fun i hi => ?_
      have hno : i ∉ openN (a :: b :: l) := by rw [he]; simp
      cases ha : a.testBit i <;> cases hb : b.testBit i <;> first | rfl | skip
      · exact absurd (mem_openK.2 ⟨by omega, opB_iff.2 ⟨⟨b, by simp, hb⟩, ⟨a, by simp, ha⟩⟩⟩) hno
      · exact absurd (mem_openK.2 ⟨by omega, opB_iff.2 ⟨⟨a, by simp, ha⟩, ⟨b, by simp, hb⟩⟩⟩) hno
theorem left_sub {xs : List Nat} {y z x : Nat} (h : x ∈ leftN xs y z) : x ∈ xs := (List.mem_filter.1 h).1
theorem left_srt {xs : List Nat} (hs : xs.Pairwise (· < ·)) (y z : Nat) : (leftN xs y z).Pairwise (· < ·) := hs.filter _
theorem left_len (xs : List Nat) (y z : Nat) : (leftN xs y z).length ≤ xs.length := List.length_filter_le _ _
end Go.Proofs.Ytpehnhjgdgnnkaa
