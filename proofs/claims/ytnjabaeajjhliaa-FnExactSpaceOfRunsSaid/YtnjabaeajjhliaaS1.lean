/- Spaces of sets: what they are; sets as numbers. Plain Lean. -/
import Derived.Test.YtnjabaeajjhliaaA3
namespace Go.Proofs.Ytnjabaeajjhliaa
set_option linter.unusedSimpArgs false
set_option linter.unusedVariables false
set_option maxHeartbeats 4000000
open Go Go.Eng

/-! Operations on sets, by names that simp leaves alone. -/
def nAnd (a b : Nat) : Nat := a &&& b
def nOr (a b : Nat) : Nat := a ||| b
def nXor (a b : Nat) : Nat := a ^^^ b
def nShr (a i : Nat) : Nat := a >>> i
def bit (i : Nat) : Nat := 2 ^ i

theorem nAnd_bit (a b i : Nat) : (nAnd a b).testBit i = (a.testBit i && b.testBit i) := Nat.testBit_and a b i
theorem nOr_bit (a b i : Nat) : (nOr a b).testBit i = (a.testBit i || b.testBit i) := Nat.testBit_or a b i
theorem nXor_bit (a b i : Nat) : (nXor a b).testBit i = (a.testBit i ^^ b.testBit i) := Nat.testBit_xor a b i
theorem bit_bit (j i : Nat) : (bit j).testBit i = decide (j = i) := Nat.testBit_two_pow
theorem ndiff_bit (a b i : Nat) : (ndiff a b).testBit i = (a.testBit i && !b.testBit i) := by
  unfold ndiff
  rw [Nat.testBit_xor, Nat.testBit_and]
  cases a.testBit i <;> cases b.testBit i <;> rfl
theorem ndiff_one {a i : Nat} (h : a.testBit i = true) : ndiff a (bit i) = nXor a (bit i) := by
  apply Nat.eq_of_testBit_eq
  intro j
  rw [ndiff_bit, nXor_bit, bit_bit]
  by_cases e : i = j
  · subst e; simp [h]
  · simp [e]
theorem nShr_le (a i : Nat) : nShr a i ≤ a := by unfold nShr; rw [Nat.shiftRight_eq_div_pow]; exact Nat.div_le_self _ _
theorem bit_pos (i : Nat) : 1 ≤ bit i := Nat.two_pow_pos i
theorem bit_mono {i j : Nat} (h : i ≤ j) : bit i ≤ bit j := Nat.pow_le_pow_right (by omega) h
theorem bit7 {i : Nat} (h : i ≤ 7) : 1 ≤ bit i ∧ bit i ≤ 128 := ⟨bit_pos i, bit_mono h⟩
theorem bit_lt7 {i : Nat} (h : i < 7) : 1 ≤ bit i ∧ bit i ≤ 64 := ⟨bit_pos i, bit_mono (j := 6) (by omega)⟩
theorem bit20 {i : Nat} (h : i ≤ 20) : 1 ≤ bit i ∧ bit i ≤ 1048576 := ⟨bit_pos i, bit_mono (j := 20) h⟩
theorem nAnd_le (a b : Nat) : nAnd a b ≤ a := Nat.and_le_left
theorem nAnd_le' (a b : Nat) : nAnd a b ≤ b := Nat.and_le_right
theorem nOr_lt {a b n : Nat} (ha : a < bit n) (hb : b < bit n) : nOr a b < bit n := Nat.or_lt_two_pow ha hb
theorem nXor_lt {a b n : Nat} (ha : a < bit n) (hb : b < bit n) : nXor a b < bit n := Nat.xor_lt_two_pow ha hb
theorem ndiff_lt {a b n : Nat} (ha : a < bit n) : ndiff a b < bit n := by
  unfold ndiff
  exact Nat.xor_lt_two_pow ha (Nat.lt_of_le_of_lt Nat.and_le_left ha)
theorem nOr128 {a b : Nat} (ha : a < 128) (hb : b < 128) : nOr a b < 128 := nOr_lt (n := 7) ha hb
theorem ndiff128 {a b : Nat} (ha : a < 128) : ndiff a b < 128 := ndiff_lt (n := 7) ha
theorem nXor128 {a b : Nat} (ha : a < 128) (hb : b < 128) : nXor a b < 128 := nXor_lt (n := 7) ha hb
theorem lt_bit_of {a n : Nat} (h : ∀ i, n ≤ i → a.testBit i = false) : a < bit n := Nat.lt_pow_two_of_testBit a h
theorem hi_bit {a n i : Nat} (h : a < bit n) (hi : n ≤ i) : a.testBit i = false := Nat.testBit_lt_two_pow (Nat.lt_of_lt_of_le h (Nat.pow_le_pow_right (by omega) hi))
theorem bit_lt_bit {i n : Nat} (h : i < n) : bit i < bit n := Nat.pow_lt_pow_right (by omega) h
theorem full_bit (n i : Nat) : (bit n - 1).testBit i = decide (i < n) := Nat.testBit_two_pow_sub_one n i
theorem eq_bits {a b : Nat} (h : ∀ i, a.testBit i = b.testBit i) : a = b := Nat.eq_of_testBit_eq h
theorem eq_bits_n {a b n : Nat} (ha : a < bit n) (hb : b < bit n) (h : ∀ i, i < n → a.testBit i = b.testBit i) : a = b := by
  apply eq_bits
  intro i
  by_cases hi : i < n
  · exact h i hi
  · rw [hi_bit ha (by omega), hi_bit hb (by omega)]
theorem ndiff_zero (a b : Nat) : ndiff a b = 0 ↔ ∀ i, a.testBit i = true → b.testBit i = true := by
  constructor
  · intro h i hi
    have := ndiff_bit a b i
    rw [h, hi] at this
    simpa using this.symm
  · intro h
    apply eq_bits
    intro i
    rw [ndiff_bit, Nat.zero_testBit]
    cases hb : a.testBit i
    · rfl
    · rw [h i hb]; rfl
theorem nShr_and (a i : Nat) : (nAnd (nShr a i) 1 = 1) = (a.testBit i = true) := by
  unfold nAnd nShr Nat.testBit
  rw [Nat.and_comm]
  rcases Nat.mod_two_eq_zero_or_one (a >>> i) with h | h <;> simp [Nat.one_and_eq_mod_two, h]
theorem nShr_and01 (a i : Nat) : nAnd (nShr a i) 1 = if a.testBit i = true then 1 else 0 := by
  have h := nShr_and a i
  have h2 : nAnd (nShr a i) 1 ≤ 1 := nAnd_le' _ _
  by_cases hb : a.testBit i = true
  · rw [if_pos hb]; exact h.mpr hb
  · rw [if_neg hb]
    have : ¬ nAnd (nShr a i) 1 = 1 := fun e => hb (h.mp e)
    omega
theorem nShr_mod (a i : Nat) : nShr a i % 2 = if a.testBit i = true then 1 else 0 := by
  unfold nShr Nat.testBit
  rw [Nat.and_comm]
  rcases Nat.mod_two_eq_zero_or_one (a >>> i) with h | h <;> simp [Nat.and_one_is_mod, h]

theorem opAnd (x y : Int) (hx : 0 ≤ x) (hx2 : x < 9223372036854775808) (hy : 0 ≤ y) (hy2 : y < 9223372036854775808) : bAnd .i64 x y = ((nAnd x.toNat y.toNat : Nat) : Int) := bAnd_nat x y hx hx2 hy hy2
theorem opOr (x y : Int) (hx : 0 ≤ x) (hx2 : x < 9223372036854775808) (hy : 0 ≤ y) (hy2 : y < 9223372036854775808) : bOr .i64 x y = ((nOr x.toNat y.toNat : Nat) : Int) := bOr_nat x y hx hx2 hy hy2
theorem opXor (x y : Int) (hx : 0 ≤ x) (hx2 : x < 9223372036854775808) (hy : 0 ≤ y) (hy2 : y < 9223372036854775808) : bXor .i64 x y = ((nXor x.toNat y.toNat : Nat) : Int) := bXor_nat x y hx hx2 hy hy2
theorem opDiff (x y : Int) (hx : 0 ≤ x) (hx2 : x < 9223372036854775808) (hy : 0 ≤ y) (hy2 : y < 9223372036854775808) : bAndNot .i64 x y = ((ndiff x.toNat y.toNat : Nat) : Int) := bAndNot_nat x y hx hx2 hy hy2
theorem opShr (x y : Int) (hx : 0 ≤ x) (hy : 0 ≤ y) (hy2 : y < 64) : bShr .i64 x y = ((nShr x.toNat y.toNat : Nat) : Int) := bShr_nat x y hx hy hy2
theorem opBit (y : Int) (hy : 0 ≤ y) (hy2 : y < 40) : bShl .i64 1 y = ((bit y.toNat : Nat) : Int) := by
  rw [bShl_nat 1 y (by omega) (by omega) hy hy2]
  unfold bit
  rw [Nat.shiftLeft_eq]
  simp

/-- The number with the bits below k for which something holds. -/
def maskN (p : Nat → Bool) : Nat → Nat
  | 0 => 0
  | k + 1 => if p k then nOr (maskN p k) (bit k) else maskN p k
theorem maskN_lt (p : Nat → Bool) : ∀ k, maskN p k < bit k
  | 0 => by simp [maskN, bit]
  | k + 1 => by
    have h1 := maskN_lt p k
    have h2 : bit k < bit (k + 1) := bit_lt_bit (Nat.lt_succ_self k)
    unfold maskN
    split
    · exact nOr_lt (by omega) h2
    · omega
theorem maskN_bit (p : Nat → Bool) : ∀ k i, (maskN p k).testBit i = (decide (i < k) && p i)
  | 0, i => by simp [maskN]
  | k + 1, i => by
    unfold maskN
    by_cases hp : p k = true
    · rw [if_pos hp, nOr_bit, maskN_bit p k i, bit_bit]
      by_cases e : k = i
      · subst e; simp [hp]
      · by_cases h : i < k
        · simp [h, e, show i < k + 1 by omega]
        · simp [h, e, show ¬ i < k + 1 by omega]
    · rw [if_neg hp, maskN_bit p k i]
      by_cases e : k = i
      · subst e; simp [hp]
      · by_cases h : i < k
        · simp [h, show i < k + 1 by omega]
        · simp [h, show ¬ i < k + 1 by omega]
theorem maskN_congr {p q : Nat → Bool} {k : Nat} (h : ∀ i, i < k → p i = q i) : maskN p k = maskN q k := by
  induction k with
  | zero => rfl
  | succ k ih => simp only [maskN, ih fun i hi => h i (by omega), h k (by omega)]
/-- Items of a list for which something holds, as a set. -/
def maskL (p : Nat → Bool) : List Nat → Nat → Nat
  | [], o => o
  | i :: l, o => maskL p l (if p i then nOr o (bit i) else o)
theorem maskL_bit (p : Nat → Bool) : ∀ (l : List Nat) (o i : Nat), (maskL p l o).testBit i = (o.testBit i || (decide (i ∈ l) && p i))
  | [], o, i => by simp [maskL]
  | j :: l, o, i => by
    rw [maskL, maskL_bit p l]
    by_cases e : i = j
    · subst e
      cases hp : p i <;> simp [nOr_bit, bit_bit]
    · cases hp : p j <;> simp [nOr_bit, bit_bit, e, Ne.symm e]
theorem maskL_snoc (p : Nat → Bool) : ∀ (l : List Nat) (j o : Nat), maskL p (l ++ [j]) o = if p j then nOr (maskL p l o) (bit j) else maskL p l o
  | [], j, o => by simp [maskL]
  | i :: l, j, o => by simp only [List.cons_append, maskL, maskL_snoc p l]

/-- The items of a set. -/
def itemsN (a : Nat) : List Nat := (List.range 7).filter fun i => a.testBit i
theorem mem_items {a i : Nat} : i ∈ itemsN a ↔ i < 7 ∧ a.testBit i = true := by simp [itemsN]

/-- The items of a set without which, and with which, something holds. -/
def innerN (M : Nat → Bool) (a : Nat) : Nat := maskN (fun i => a.testBit i && M (nXor a (bit i))) 7
def outerN (M : Nat → Bool) (n a : Nat) : Nat := maskN (fun i => !a.testBit i && M (nOr a (bit i))) n
theorem innerN_items (M : Nat → Bool) (a : Nat) : maskL (fun i => M (ndiff a (bit i))) (itemsN a) 0 = innerN M a := by
  apply eq_bits
  intro i
  rw [maskL_bit, innerN, maskN_bit, Nat.zero_testBit, Bool.false_or]
  by_cases hi : i < 7
  · by_cases hb : a.testBit i = true
    · rw [ndiff_one hb]; simp [mem_items, hi, hb]
    · simp [mem_items, hi, hb]
  · simp [mem_items, hi]

/-- Naturals as whole numbers. -/
def toN (xs : List Nat) : List Int := xs.map fun (n : Nat) => (n : Int)
@[simp] theorem toN_length (xs : List Nat) : (toN xs).length = xs.length := by simp [toN]
theorem toN_get (xs : List Nat) (i : Nat) (h : i < (toN xs).length) : (toN xs)[i] = ((xs[i]'(by simpa using h) : Nat) : Int) := by simp [toN]
theorem mem_toN {a : Nat} {xs : List Nat} : (a : Int) ∈ toN xs ↔ a ∈ xs := by
  simp only [toN, List.mem_map]
  constructor
  · rintro ⟨b, hb, e⟩
    have : b = a := by omega
    exact this ▸ hb
  · intro h; exact ⟨a, h, rfl⟩
theorem mem_toN' {x : Int} {xs : List Nat} (h : x ∈ toN xs) : ∃ a : Nat, x = a ∧ a ∈ xs := by
  simp only [toN, List.mem_map] at h
  obtain ⟨b, hb, e⟩ := h
  exact ⟨b, e.symm, hb⟩
theorem toN_inj {xs ys : List Nat} : toN xs = toN ys ↔ xs = ys := by
  constructor
  · intro h
    unfold toN at h
    exact List.map_inj_right (fun a b e => by omega) |>.1 h
  · intro h; rw [h]
theorem toN_srt {xs : List Nat} : (toN xs).Pairwise (· < ·) ↔ xs.Pairwise (· < ·) := by
  simp [toN, List.pairwise_map]
theorem toN_of {X : List Int} (h : ∀ x ∈ X, 0 ≤ x) : X = toN (X.map Int.toNat) := by
  unfold toN
  rw [List.map_map]
  conv => lhs; rw [← List.map_id X]
  apply List.map_congr_left
  intro x hx
  have := h x hx
  simp; omega
theorem toN_append (xs ys : List Nat) : toN (xs ++ ys) = toN xs ++ toN ys := by simp [toN]
theorem toN_snoc (xs : List Nat) (y : Nat) : toN (xs ++ [y]) = toN xs ++ [(y : Int)] := by simp [toN]

theorem srt_len {xs : List Nat} {lo m : Nat} (hs : xs.Pairwise (· < ·)) (hl : ∀ x ∈ xs, lo ≤ x ∧ x < m) : xs.length ≤ m - lo := by
  induction xs generalizing lo with
  | nil => simp
  | cons a l ih =>
    have ha := hl a (by simp)
    have h1 := ih (lo := a + 1) (List.pairwise_cons.1 hs).2 (fun x hx => ⟨(List.pairwise_cons.1 hs).1 x hx, (hl x (by simp [hx])).2⟩)
    simp only [List.length_cons]
    omega

/-- Which sets there are. -/
def fam (xs : List Nat) (a : Nat) : Bool := decide (a ∈ xs)

/-- A space: so many items, and these sets. -/
structure SpGood (n : Nat) (xs : List Nat) : Prop where
  n1 : 1 ≤ n
  n7 : n ≤ 7
  srt : xs.Pairwise (· < ·)
  lt : ∀ x ∈ xs, x < bit n
  zero : 0 ∈ xs
  full : bit n - 1 ∈ xs
  inn : ∀ x ∈ xs, x ≠ 0 → innerN (fam xs) x ≠ 0
  uni : ∀ x ∈ xs, ∀ y ∈ xs, nOr x y ∈ xs
theorem SpGood.len {n : Nat} {xs : List Nat} (g : SpGood n xs) : xs.length ≤ bit n := by
  have := srt_len (lo := 0) g.srt (fun x hx => ⟨Nat.zero_le _, g.lt x hx⟩)
  omega
theorem SpGood.len7 {n : Nat} {xs : List Nat} (g : SpGood n xs) : xs.length ≤ 128 := by
  have h1 := g.len
  have h2 := bit7 g.n7
  omega
theorem SpGood.lt7 {n : Nat} {xs : List Nat} (g : SpGood n xs) : ∀ x ∈ xs, x < 128 := fun x hx => by
  have h1 := g.lt x hx
  have h2 := bit7 g.n7
  omega

def SpOK (N : Int) (X : List Int) : Prop := ∃ n xs, N = (n : Nat) ∧ X = toN xs ∧ SpGood n xs
open Classical in
noncomputable def spB (N : Int) (X : List Int) : Bool := decide (SpOK N X)
theorem spB_true {N : Int} {X : List Int} (h : spB N X = true) : ∃ n xs, N = (n : Nat) ∧ X = toN xs ∧ SpGood n xs := by
  unfold spB at h
  exact (@decide_eq_true_iff _ (Classical.propDecidable _)).1 h
theorem spB_of {n : Nat} {xs : List Nat} (g : SpGood n xs) : spB n (toN xs) = true := by
  unfold spB
  exact (@decide_eq_true_iff _ (Classical.propDecidable _)).2 ⟨n, xs, rfl, rfl, g⟩
theorem spB_false {N : Int} {X : List Int} (h : ∀ n xs, N = (n : Nat) → X = toN xs → SpGood n xs → False) : spB N X = false := by
  unfold spB
  exact (@decide_eq_false_iff_not _ (Classical.propDecidable _)).2 (fun ⟨n, xs, a, b, c⟩ => h n xs a b c)

/-- Increasing, from lo to hi. -/
def Rising (X : List Int) (lo hi : Int) : Prop := X.Pairwise (· < ·) ∧ ∀ x ∈ X, lo ≤ x ∧ x ≤ hi
open Classical in
noncomputable def risB (X : List Int) (lo hi : Int) : Bool := decide (Rising X lo hi)
theorem risB_true {X : List Int} {lo hi : Int} (h : risB X lo hi = true) : Rising X lo hi := by
  unfold risB at h
  exact (@decide_eq_true_iff _ (Classical.propDecidable _)).1 h
theorem risB_iff {X : List Int} {lo hi : Int} : risB X lo hi = true ↔ Rising X lo hi := ⟨risB_true, fun h => by unfold risB; exact (@decide_eq_true_iff _ (Classical.propDecidable _)).2 h⟩
theorem SpGood.rising {n : Nat} {xs : List Nat} (g : SpGood n xs) : Rising (toN xs) 0 ((bit n : Nat) - 1 : Int) := by
  refine ⟨toN_srt.2 g.srt, fun x hx => ?_⟩
  obtain ⟨a, rfl, ha⟩ := mem_toN' hx
  have h1 := g.lt a ha
  omega
theorem Rising.nats {X : List Int} {n : Nat} (h : Rising X 0 ((bit n : Nat) - 1 : Int)) : ∃ xs : List Nat, X = toN xs ∧ xs.Pairwise (· < ·) ∧ (∀ x ∈ xs, x < bit n) ∧ xs.length ≤ bit n := by
  have e := toN_of (X := X) (fun x hx => (h.2 x hx).1)
  have h1 : (X.map Int.toNat).Pairwise (· < ·) := by
    rw [← toN_srt, ← e]; exact h.1
  have h2 : ∀ x ∈ X.map Int.toNat, x < bit n := by
    intro x hx
    obtain ⟨y, hy, rfl⟩ := List.mem_map.1 hx
    have := h.2 y hy
    have := bit_pos n
    omega
  refine ⟨X.map Int.toNat, e, h1, h2, ?_⟩
  have := srt_len (lo := 0) h1 (fun x hx => ⟨Nat.zero_le _, h2 x hx⟩)
  omega
end Go.Proofs.Ytnjabaeajjhliaa
