/- Part 3 of the proof of lateJobs_holds: what it uses of the texts that lie in the notes, merged. -/
import Derived.Test.YtnncipcldbopgaaQl2
namespace Go.Proofs.Ytnncipcldbopgaa
set_option linter.unusedSimpArgs false
set_option linter.unusedVariables false
set_option maxHeartbeats 4000000
open Go Go.Eng
def nAnd (a b : Nat) : Nat := a &&& b
def nOr (a b : Nat) : Nat := a ||| b
def nXor (a b : Nat) : Nat := a ^^^ b
def nShr (a i : Nat) : Nat := a >>> i
def bit (i : Nat) : Nat := 2 ^ i
theorem nOr_bit (a b i : Nat) : (nOr a b).testBit i = (a.testBit i || b.testBit i) := Nat.testBit_or a b i
theorem nXor_bit (a b i : Nat) : (nXor a b).testBit i = (a.testBit i ^^ b.testBit i) := Nat.testBit_xor a b i
theorem bit_bit (j i : Nat) : (bit j).testBit i = decide (j = i) := Nat.testBit_two_pow
theorem ndiff_bit (a b i : Nat) : (ndiff a b).testBit i = (a.testBit i && !b.testBit i) := by
  unfold ndiff
  rw [Nat.testBit_xor, Nat.testBit_and]
  cases a.testBit i <;> cases b.testBit i <;> rfl
theorem ndiff_one {a i : Nat} (h : a.testBit i = true) : ndiff a (bit i) = nXor a (bit i) := by
  apply Nat.eq_of_testBit_eq
  intro j
  rw [ndiff_bit, nXor_bit, bit_bit]
  by_cases e : i = j
  · subst e; simp [h]
  · simp [e]
theorem nShr_le (a i : Nat) : nShr a i ≤ a := by unfold nShr; rw [Nat.shiftRight_eq_div_pow]; exact Nat.div_le_self _ _
theorem bit_pos (i : Nat) : 1 ≤ bit i := Nat.two_pow_pos i
theorem bit_mono {i j : Nat} (h : i ≤ j) : bit i ≤ bit j := Nat.pow_le_pow_right (by omega) h
theorem bit7 {i : Nat} (h : i ≤ 7) : 1 ≤ bit i ∧ bit i ≤ 128 := ⟨bit_pos i, bit_mono h⟩
theorem bit_lt7 {i : Nat} (h : i < 7) : 1 ≤ bit i ∧ bit i ≤ 64 := ⟨bit_pos i, bit_mono (j := 6) (by omega)⟩
theorem bit20 {i : Nat} (h : i ≤ 20) : 1 ≤ bit i ∧ bit i ≤ 1048576 := ⟨bit_pos i, bit_mono (j := 20) h⟩
theorem nAnd_le' (a b : Nat) : nAnd a b ≤ b := Nat.and_le_right
theorem nOr_lt {a b n : Nat} (ha : a < bit n) (hb : b < bit n) : nOr a b < bit n := Nat.or_lt_two_pow ha hb
theorem nXor_lt {a b n : Nat} (ha : a < bit n) (hb : b < bit n) : nXor a b < bit n := Nat.xor_lt_two_pow ha hb
theorem ndiff_lt {a b n : Nat} (ha : a < bit n) : ndiff a b < bit n := by
  unfold ndiff
  exact Nat.xor_lt_two_pow ha (Nat.lt_of_le_of_lt Nat.and_le_left ha)
theorem nOr128 {a b : Nat} (ha : a < 128) (hb : b < 128) : nOr a b < 128 := nOr_lt (n := 7) ha hb
theorem ndiff128 {a b : Nat} (ha : a < 128) : ndiff a b < 128 := ndiff_lt (n := 7) ha
theorem nXor128 {a b : Nat} (ha : a < 128) (hb : b < 128) : nXor a b < 128 := nXor_lt (n := 7) ha hb
theorem hi_bit {a n i : Nat} (h : a < bit n) (hi : n ≤ i) : a.testBit i = false := Nat.testBit_lt_two_pow (Nat.lt_of_lt_of_le h (Nat.pow_le_pow_right (by omega) hi))
theorem bit_lt_bit {i n : Nat} (h : i < n) : bit i < bit n := Nat.pow_lt_pow_right (by omega) h
theorem full_bit (n i : Nat) : (bit n - 1).testBit i = decide (i < n) := Nat.testBit_two_pow_sub_one n i
theorem eq_bits {a b : Nat} (h : ∀ i, a.testBit i = b.testBit i) : a = b := Nat.eq_of_testBit_eq h
theorem eq_bits_n {a b n : Nat} (ha : a < bit n) (hb : b < bit n) (h : ∀ i, i < n → a.testBit i = b.testBit i) : a = b := by
  apply eq_bits
  intro i
  by_cases hi : i < n
  · exact h i hi
  · rw [hi_bit ha (by omega), hi_bit hb (by omega)]
theorem nShr_and (a i : Nat) : (nAnd (nShr a i) 1 = 1) = (a.testBit i = true) := by
  unfold nAnd nShr Nat.testBit
  rw [Nat.and_comm]
  rcases Nat.mod_two_eq_zero_or_one (a >>> i) with h | h <;> simp [Nat.one_and_eq_mod_two, h]
theorem nShr_and01 (a i : Nat) : nAnd (nShr a i) 1 = if a.testBit i = true then 1 else 0 := by
  have h := nShr_and a i
  have h2 : nAnd (nShr a i) 1 ≤ 1 := nAnd_le' _ _
  by_cases hb : a.testBit i = true
  · rw [if_pos hb]; exact h.mpr hb
  · rw [if_neg hb]
    have : ¬ nAnd (nShr a i) 1 = 1 := fun e => hb (h.mp e)
    omega
theorem nShr_mod (a i : Nat) : nShr a i % 2 = if a.testBit i = true then 1 else 0 := by
  unfold nShr Nat.testBit
  rw [Nat.and_comm]
  rcases Nat.mod_two_eq_zero_or_one (a >>> i) with h | h <;> simp [Nat.and_one_is_mod, h]
theorem opAnd (x y : Int) (hx : 0 ≤ x) (hx2 : x < 9223372036854775808) (hy : 0 ≤ y) (hy2 : y < 9223372036854775808) : bAnd .i64 x y = ((nAnd x.toNat y.toNat : Nat) : Int) := bAnd_nat x y hx hx2 hy hy2
theorem opOr (x y : Int) (hx : 0 ≤ x) (hx2 : x < 9223372036854775808) (hy : 0 ≤ y) (hy2 : y < 9223372036854775808) : bOr .i64 x y = ((nOr x.toNat y.toNat : Nat) : Int) := bOr_nat x y hx hx2 hy hy2
theorem opXor (x y : Int) (hx : 0 ≤ x) (hx2 : x < 9223372036854775808) (hy : 0 ≤ y) (hy2 : y < 9223372036854775808) : bXor .i64 x y = ((nXor x.toNat y.toNat : Nat) : Int) := bXor_nat x y hx hx2 hy hy2
theorem opDiff (x y : Int) (hx : 0 ≤ x) (hx2 : x < 9223372036854775808) (hy : 0 ≤ y) (hy2 : y < 9223372036854775808) : bAndNot .i64 x y = ((ndiff x.toNat y.toNat : Nat) : Int) := bAndNot_nat x y hx hx2 hy hy2
theorem opShr (x y : Int) (hx : 0 ≤ x) (hy : 0 ≤ y) (hy2 : y < 64) : bShr .i64 x y = ((nShr x.toNat y.toNat : Nat) : Int) := bShr_nat x y hx hy hy2
theorem opBit (y : Int) (hy : 0 ≤ y) (hy2 : y < 40) : bShl .i64 1 y = ((bit y.toNat : Nat) : Int) := by
  rw [bShl_nat 1 y (by omega) (by omega) hy hy2]
  unfold bit
  rw [Nat.shiftLeft_eq]
  simp
def maskN (p : Nat → Bool) : Nat → Nat
  | 0 => 0
  | k + 1 => if p k then nOr (maskN p k) (bit k) else maskN p k
theorem maskN_lt (p : Nat → Bool) : ∀ k, maskN p k < bit k
  | 0 => by simp [maskN, bit]
  | k + 1 => by
    have h1 := maskN_lt p k
    have h2 : bit k < bit (k + 1) := bit_lt_bit (Nat.lt_succ_self k)
    unfold maskN
    split
    · exact nOr_lt (by omega) h2
    · omega
theorem maskN_bit (p : Nat → Bool) : ∀ k i, (maskN p k).testBit i = (decide (i < k) && p i)
  | 0, i => by simp [maskN]
  | k + 1, i => by
    unfold maskN
    by_cases hp : p k = true
    · rw [if_pos hp, nOr_bit, maskN_bit p k i, bit_bit]
      by_cases e : k = i
      · subst e; simp [hp]
      · by_cases h : i < k
        · simp [h, e, show i < k + 1 by omega]
        · simp [h, e, show ¬ i < k + 1 by omega]
    · rw [if_neg hp, maskN_bit p k i]
      by_cases e : k = i
      · subst e; simp [hp]
      · by_cases h : i < k
        · simp [h, show i < k + 1 by omega]
        · simp [h, show ¬ i < k + 1 by omega]
def maskL (p : Nat → Bool) : List Nat → Nat → Nat
  | [], o => o
  | i :: l, o => maskL p l (if p i then nOr o (bit i) else o)
theorem maskL_bit (p : Nat → Bool) : ∀ (l : List Nat) (o i : Nat), (maskL p l o).testBit i = (o.testBit i || (decide (i ∈ l) && p i))
  | [], o, i => by simp [maskL]
  | j :: l, o, i => by
    rw [maskL, maskL_bit p l]
    by_cases e : i = j
    · subst e
      cases hp : p i <;> simp [nOr_bit, bit_bit]
    · cases hp : p j <;> simp [nOr_bit, bit_bit, e, Ne.symm e]
theorem maskL_snoc (p : Nat → Bool) : ∀ (l : List Nat) (j o : Nat), maskL p (l ++ [j]) o = if p j then nOr (maskL p l o) (bit j) else maskL p l o
  | [], j, o => by simp [maskL]
  | i :: l, j, o => by simp only [List.cons_append, maskL, maskL_snoc p l]
def itemsN (a : Nat) : List Nat := (List.range 7).filter fun i => a.testBit i
theorem mem_items {a i : Nat} : i ∈ itemsN a ↔ i < 7 ∧ a.testBit i = true := by simp [itemsN]
def innerN (M : Nat → Bool) (a : Nat) : Nat := maskN (fun i => a.testBit i && M (nXor a (bit i))) 7
def outerN (M : Nat → Bool) (n a : Nat) : Nat := maskN (fun i => !a.testBit i && M (nOr a (bit i))) n
theorem innerN_items (M : Nat → Bool) (a : Nat) : maskL (fun i => M (ndiff a (bit i))) (itemsN a) 0 = innerN M a := by
  apply eq_bits
  intro i
  rw [maskL_bit, innerN, maskN_bit, Nat.zero_testBit, Bool.false_or]
  by_cases hi : i < 7
  · by_cases hb : a.testBit i = true
    · rw [ndiff_one hb]; simp [mem_items, hi, hb]
    · simp [mem_items, hi, hb]
  · simp [mem_items, hi]
def toN (xs : List Nat) : List Int := xs.map fun (n : Nat) => (n : Int)
@[simp] theorem toN_length (xs : List Nat) : (toN xs).length = xs.length := by simp [toN]
theorem toN_get (xs : List Nat) (i : Nat) (h : i < (toN xs).length) : (toN xs)[i] = ((xs[i]'(by simpa using h) : Nat) : Int) := by simp [toN]
theorem mem_toN {a : Nat} {xs : List Nat} : (a : Int) ∈ toN xs ↔ a ∈ xs := by
  simp only [toN, List.mem_map]
  constructor
  · rintro ⟨b, hb, e⟩
    have : b = a := by omega
    exact this ▸ hb
  · intro h; exact ⟨a, h, rfl⟩
theorem mem_toN' {x : Int} {xs : List Nat} (h : x ∈ toN xs) : ∃ a : Nat, x = a ∧ a ∈ xs := by
  simp only [toN, List.mem_map] at h
  obtain ⟨b, hb, e⟩ := h
  exact ⟨b, e.symm, hb⟩
theorem toN_inj {xs ys : List Nat} : toN xs = toN ys ↔ xs = ys := by
  constructor
  · intro h
    unfold toN at h
    exact List.map_inj_right (fun a b e => by omega) |>.1 h
  · intro h; rw [h]
theorem toN_srt {xs : List Nat} : (toN xs).Pairwise (· < ·) ↔ xs.Pairwise (· < ·) := by
  simp [toN, List.pairwise_map]
theorem toN_of {X : List Int} (h : ∀ x ∈ X, 0 ≤ x) : X = toN (X.map Int.toNat) := by
  unfold toN
  rw [List.map_map]
  conv => lhs; rw [← List.map_id X]
  apply List.map_congr_left
  intro x hx
  have := h x hx
  simp; omega
theorem toN_snoc (xs : List Nat) (y : Nat) : toN (xs ++ [y]) = toN xs ++ [(y : Int)] := by simp [toN]
theorem srt_len {xs : List Nat} {lo m : Nat} (hs : xs.Pairwise (· < ·)) (hl : ∀ x ∈ xs, lo ≤ x ∧ x < m) : xs.length ≤ m - lo := by
  induction xs generalizing lo with
  | nil => simp
  | cons a l ih =>
    have ha := hl a (by simp)
    have h1 := ih (lo := a + 1) (List.pairwise_cons.1 hs).2 (fun x hx => ⟨(List.pairwise_cons.1 hs).1 x hx, (hl x (by simp [hx])).2⟩)
    simp only [List.length_cons]
    omega
def fam (xs : List Nat) (a : Nat) : Bool := decide (a ∈ xs)
structure SpGood (n : Nat) (xs : List Nat) : Prop where
  n1 : 1 ≤ n
  n7 : n ≤ 7
  srt : xs.Pairwise (· < ·)
  lt : ∀ x ∈ xs, x < bit n
  zero : 0 ∈ xs
  full : bit n - 1 ∈ xs
  inn : ∀ x ∈ xs, x ≠ 0 → innerN (fam xs) x ≠ 0
  uni : ∀ x ∈ xs, ∀ y ∈ xs, nOr x y ∈ xs
theorem SpGood.len {n : Nat} {xs : List Nat} (g : SpGood n xs) : xs.length ≤ bit n := by
  have := srt_len (lo := 0) g.srt (fun x hx => ⟨Nat.zero_le _, g.lt x hx⟩)
  omega
theorem SpGood.len7 {n : Nat} {xs : List Nat} (g : SpGood n xs) : xs.length ≤ 128 := by
  have h1 := g.len
  have h2 := bit7 g.n7
  omega
theorem SpGood.lt7 {n : Nat} {xs : List Nat} (g : SpGood n xs) : ∀ x ∈ xs, x < 128 := fun x hx => by
  have h1 := g.lt x hx
  have h2 := bit7 g.n7
  omega
def SpOK (N : Int) (X : List Int) : Prop := ∃ n xs, N = (n : Nat) ∧ X = toN xs ∧ SpGood n xs
open Classical in
noncomputable def spB (N : Int) (X : List Int) : Bool := decide (SpOK N X)
theorem spB_true {N : Int} {X : List Int} (h : spB N X = true) : ∃ n xs, N = (n : Nat) ∧ X = toN xs ∧ SpGood n xs := by
  unfold spB at h
  exact (@decide_eq_true_iff _ (Classical.propDecidable _)).1 h
theorem spB_of {n : Nat} {xs : List Nat} (g : SpGood n xs) : spB n (toN xs) = true := by
  unfold spB
  exact (@decide_eq_true_iff _ (Classical.propDecidable _)).2 ⟨n, xs, rfl, rfl, g⟩
theorem spB_false {N : Int} {X : List Int} (h : ∀ n xs, N = (n : Nat) → X = toN xs → SpGood n xs → False) : spB N X = false := by
  unfold spB
  exact (@decide_eq_false_iff_not _ (Classical.propDecidable _)).2 (fun ⟨n, xs, a, b, c⟩ => h n xs a b c)
def Rising (X : List Int) (lo hi : Int) : Prop := X.Pairwise (· < ·) ∧ ∀ x ∈ X, lo ≤ x ∧ x ≤ hi
open Classical in
noncomputable def risB (X : List Int) (lo hi : Int) : Bool := decide (Rising X lo hi)
theorem risB_true {X : List Int} {lo hi : Int} (h : risB X lo hi = true) : Rising X lo hi := by
  unfold risB at h
  exact (@decide_eq_true_iff _ (Classical.propDecidable _)).1 h
theorem risB_iff {X : List Int} {lo hi : Int} : risB X lo hi = true ↔ Rising X lo hi := ⟨risB_true, fun h => by unfold risB; exact (@decide_eq_true_iff _ (Classical.propDecidable _)).2 h⟩
theorem SpGood.rising {n : Nat} {xs : List Nat} (g : SpGood n xs) : Rising (toN xs) 0 ((bit n : Nat) - 1 : Int) := by
  refine ⟨toN_srt.2 g.srt, fun x hx => ?_⟩
  obtain ⟨a, rfl, ha⟩ := mem_toN' hx
  have h1 := g.lt a ha
  omega
theorem Rising.nats {X : List Int} {n : Nat} (h : Rising X 0 ((bit n : Nat) - 1 : Int)) : ∃ xs : List Nat, X = toN xs ∧ xs.Pairwise (· < ·) ∧ (∀ x ∈ xs, x < bit n) ∧ xs.length ≤ bit n := by
  have e := toN_of (X := X) (fun x hx => (h.2 x hx).1)
  have h1 : (X.map Int.toNat).Pairwise (· < ·) := by
    rw [← toN_srt, ← e]; exact h.1
  have h2 : ∀ x ∈ X.map Int.toNat, x < bit n := by
    intro x hx
    obtain ⟨y, hy, rfl⟩ := List.mem_map.1 hx
    have := h.2 y hy
    have := bit_pos n
    omega
  refine ⟨X.map Int.toNat, e, h1, h2, ?_⟩
  have := srt_len (lo := 0) h1 (fun x hx => ⟨Nat.zero_le _, h2 x hx⟩)
  omega
end Go.Proofs.Ytnncipcldbopgaa
namespace Go.Proofs.Ytnncipcldbopgaa
set_option linter.unusedSimpArgs false
set_option linter.unusedVariables false
set_option maxHeartbeats 4000000
open Go Go.Eng
def pcF : Nat → Nat → Nat
  | 0, _ => 0
  | k + 1, a => a % 2 + pcF k (a / 2)
def pcN (a : Nat) : Nat := pcF 7 a
theorem pc_or : ∀ s, s < 128 → ∀ i, i < 7 → s.testBit i = false → pcN (s ||| 2 ^ i) = pcN s + 1 := by decide +kernel
theorem pcN_or {s i : Nat} (h1 : s < 128) (h2 : i < 7) (h3 : s.testBit i = false) : pcN (nOr s (bit i)) = pcN s + 1 := pc_or s h1 i h2 h3
theorem pc_full : ∀ n, n < 8 → pcN (2 ^ n - 1) = n := by decide +kernel
theorem pcN_full {n : Nat} (h : n ≤ 7) : pcN (bit n - 1) = n := pc_full n (by omega)
theorem pc_lt : ∀ n, n < 8 → ∀ s, s < 2 ^ n → pcN s ≤ n ∧ (pcN s = n → s = 2 ^ n - 1) := by decide +kernel
theorem pcN_lt {n s : Nat} (h : n ≤ 7) (hs : s < bit n) : pcN s ≤ n ∧ (pcN s = n → s = bit n - 1) := pc_lt n (by omega) s hs
theorem xor_less : ∀ y, y < 128 → ∀ i, i < 7 → y.testBit i = true → y ^^^ 2 ^ i < y := by decide +kernel
theorem maskN_ne {p : Nat → Bool} {k : Nat} : maskN p k ≠ 0 ↔ ∃ i, i < k ∧ p i = true := by
  constructor
  · intro h
    apply Classical.byContradiction
    intro hn
    apply h
    apply eq_bits
    intro i
    rw [maskN_bit, Nat.zero_testBit]
    by_cases hi : i < k
    · cases hp : p i
      · simp
      · exact absurd ⟨i, hi, hp⟩ hn
    · simp [hi]
  · rintro ⟨i, hi, hp⟩ h
    have := maskN_bit p k i
    rw [h, hp] at this
    simp [hi] at this
theorem items_ne {a : Nat} (ha : a < 128) : a ≠ 0 → itemsN a ≠ [] := by
  intro h hn
  apply h
  apply eq_bits_n (n := 7) ha (by decide)
  intro i hi
  rw [Nat.zero_testBit]
  cases hb : a.testBit i
  · rfl
  · have : i ∈ itemsN a := mem_items.2 ⟨hi, hb⟩
    rw [hn] at this
    cases this
theorem outerN_bit (M : Nat → Bool) (n a i : Nat) : (outerN M n a).testBit i = (decide (i < n) && (!a.testBit i && M (nOr a (bit i)))) := maskN_bit _ _ _
theorem SpGood.next {n : Nat} {xs : List Nat} (g : SpGood n xs) {x : Nat} (hx : x ∈ xs) : ∀ (y : Nat), y ∈ xs → (∃ j, y.testBit j = true ∧ x.testBit j = false) → ∃ i, i < n ∧ x.testBit i = false ∧ nOr x (bit i) ∈ xs ∧ y.testBit i = true := by
  intro y
  induction y using Nat.strongRecOn with
  | _ y ih =>
    rintro hy ⟨j, hj1, hj2⟩
    have hy0 : y ≠ 0 := by rintro rfl; simp at hj1
    obtain ⟨i, hi7, hp⟩ := maskN_ne.1 (g.inn y hy hy0)
    simp only [Bool.and_eq_true] at hp
    obtain ⟨hi, hM⟩ := hp
    have hy' : nXor y (bit i) ∈ xs := of_decide_eq_true hM
    have hin : i < n := by
      apply Classical.byContradiction
      intro hn
      rw [hi_bit (g.lt y hy) (by omega)] at hi
      cases hi
    have hlt : nXor y (bit i) < y := xor_less y (g.lt7 y hy) i hi7 hi
    by_cases hs : ∃ j, (nXor y (bit i)).testBit j = true ∧ x.testBit j = false
    · obtain ⟨k, h1, h2, h3, h4⟩ := ih _ hlt hy' hs
      refine ⟨k, h1, h2, h3, ?_⟩
      rw [nXor_bit, bit_bit] at h4
      by_cases e : i = k
      · subst e; exact hi
      · simpa [e] using h4
    · have hxi : x.testBit i = false := by
        cases hb : x.testBit i
        · rfl
        · exfalso
          apply hs
          refine ⟨j, ?_, hj2⟩
          rw [nXor_bit, bit_bit]
          have : ¬ i = j := by rintro rfl; rw [hb] at hj2; cases hj2
          simp [this, hj1]
      refine ⟨i, hin, hxi, ?_, hi⟩
      have e : nOr x y = nOr x (bit i) := by
        apply eq_bits
        intro k
        rw [nOr_bit, nOr_bit, bit_bit]
        by_cases ek : i = k
        · subst ek; simp [hi]
        · cases hk : y.testBit k
          · simp [ek]
          · have hxk : x.testBit k = true := by
              cases hb : x.testBit k
              · exact absurd ⟨k, by rw [nXor_bit, bit_bit]; simp [ek, hk], hb⟩ hs
              · rfl
            simp [hxk]
      rw [← e]
      exact g.uni x hx y hy
theorem SpGood.bits {n : Nat} {xs : List Nat} (g : SpGood n xs) {x : Nat} (hx : x ∈ xs) (h : ∀ i, i < n → x.testBit i = true) : x = bit n - 1 :=
  eq_bits_n (g.lt x hx) (by have := bit_pos n; omega) fun i hi => by rw [h i hi, full_bit]; simp [hi]
theorem SpGood.outer {n : Nat} {xs : List Nat} (g : SpGood n xs) {x : Nat} (hx : x ∈ xs) (hne : x ≠ bit n - 1) : outerN (fam xs) n x ≠ 0 := by
  have : ∃ j, (bit n - 1).testBit j = true ∧ x.testBit j = false := by
    apply Classical.byContradiction
    intro hn
    apply hne
    refine g.bits hx fun i hi => ?_
    cases hb : x.testBit i
    · exact absurd ⟨i, by rw [full_bit]; simp [hi], hb⟩ hn
    · rfl
  obtain ⟨i, h1, h2, h3, _⟩ := g.next hx _ g.full this
  exact maskN_ne.2 ⟨i, h1, by simp [h2, fam, h3]⟩
theorem SpGood.outer7 {n : Nat} {xs : List Nat} (g : SpGood n xs) (x : Nat) : outerN (fam xs) 7 x = outerN (fam xs) n x := by
  apply eq_bits
  intro i
  rw [outerN_bit, outerN_bit]
  by_cases hi : i < n
  · have := g.n7; simp [hi, show i < 7 by omega]
  · have : fam xs (nOr x (bit i)) = false := by
      unfold fam
      rw [decide_eq_false_iff_not]
      intro hm
      have h1 := hi_bit (i := i) (g.lt _ hm) (by omega)
      rw [nOr_bit, bit_bit] at h1
      simp at h1
    simp [this, hi]
theorem SpGood.learn {n : Nat} {xs : List Nat} (g : SpGood n xs) {x i : Nat} (hi : i ∈ itemsN (outerN (fam xs) n x)) : i < n ∧ x.testBit i = false ∧ nOr x (bit i) ∈ xs := by
  have h1 := (mem_items.1 hi).2
  rw [outerN_bit] at h1
  simp only [Bool.and_eq_true, Bool.not_eq_true', decide_eq_true_eq] at h1
  exact ⟨h1.1, h1.2.1, of_decide_eq_true h1.2.2⟩
theorem outerN_lt (M : Nat → Bool) (n a : Nat) : outerN M n a < bit n := maskN_lt _ _
def pickN (ch : List Int) (k : Nat) (l : List Nat) : Nat := if h : k < ch.length then l.getD (ch[k].toNat % l.length) 0 else l.getD 0 0
def walkS (M : Nat → Bool) (n : Nat) (ch : List Int) : Nat → List Nat × Nat
  | 0 => ([], 0)
  | k + 1 => ((walkS M n ch k).1 ++ [pickN ch k (itemsN (outerN M n (walkS M n ch k).2))], nOr (walkS M n ch k).2 (bit (pickN ch k (itemsN (outerN M n (walkS M n ch k).2)))))
def sizesN (n : Nat) (xs : List Nat) : List Nat := (List.range (n + 1)).map fun k => (xs.filter fun x => pcN x == k).length
end Go.Proofs.Ytnncipcldbopgaa
namespace Go.Proofs.Ytnncipcldbopgaa
set_option linter.unusedSimpArgs false
set_option linter.unusedVariables false
set_option maxHeartbeats 4000000
open Go Go.Eng
def wordsF (M : Nat → Bool) (n : Nat) : Nat → List Nat → Nat → List (List Nat)
  | 0, w, _ => [w]
  | k + 1, w, s => (itemsN (outerN M n s)).flatMap fun i => wordsF M n k (w ++ [i]) (nOr s (bit i))
def permsF (n : Nat) : Nat → List Nat → List (List Nat)
  | 0, l => [l]
  | k + 1, l => (List.range n).flatMap fun x => if x ∈ l then [] else permsF n k (l ++ [x])
def renK (names : List Nat) (s : Nat) : Nat → Nat
  | 0 => 0
  | k + 1 => if s.testBit k = true then nOr (renK names s k) (bit (names.getD k 0)) else renK names s k
def renN (names : List Nat) (s : Nat) : Nat := renK names s names.length
def namedN (n : Nat) (names xs : List Nat) : List Nat := (List.range (bit n)).filter fun a => decide (a ∈ xs.map (renN names))
def putL (l : List Nat) (a : Nat) : List Nat := if a ∈ l then l else l.filter (fun x => decide (x < a)) ++ [a] ++ l.filter fun x => decide (a < x)
def putAll (names : List Nat) : List Nat → List Nat → List Nat
  | [], l => l
  | x :: xs, l => putAll names xs (putL l (renN names x))
end Go.Proofs.Ytnncipcldbopgaa
namespace Go.Proofs.Ytnncipcldbopgaa
set_option linter.unusedSimpArgs false
set_option linter.unusedVariables false
set_option maxHeartbeats 4000000
open Go Go.Eng
attribute [local irreducible] WD RunD PreD Runs CallOK
def cmpI (a b : Int) : Int := if a < b then -1 else if b < a then 1 else 0
def cmpL : List Int → List Int → Int
  | [], [] => 0
  | [], _ :: _ => -1
  | _ :: _, [] => 1
  | a :: x, b :: y => if a = b then cmpL x y else cmpI a b
end Go.Proofs.Ytnncipcldbopgaa
namespace Go.Proofs.Ytnncipcldbopgaa
set_option linter.unusedSimpArgs false
set_option linter.unusedVariables false
set_option maxHeartbeats 4000000
open Go Go.Eng
attribute [local irreducible] WD RunD PreD Runs CallOK
def Space (h : Hp) (v : Value) (N : Int) (X : List Int) : Prop := ∃ b, v = .agg #[.int .i64 N, b] ∧ Ints h b X
def SpaceO (S : Nat → Prop) (h : Hp) (v : Value) (N : Int) (X : List Int) : Prop := ∃ b, v = .agg #[.int .i64 N, b] ∧ IntsO S h b X
end Go.Proofs.Ytnncipcldbopgaa
namespace Go.Proofs.Ytnncipcldbopgaa
set_option linter.unusedSimpArgs false
set_option linter.unusedVariables false
set_option maxHeartbeats 4000000
open Go Go.Eng
attribute [local irreducible] WD RunD PreD Runs CallOK
theorem within_ok (h : Hp) (a b c : Int) : CallOK Try.prog 138 #[.int .i64 a, .int .i64 b, .int .i64 c] h (.bool (decide (b ≤ a ∧ a ≤ c))) h := by
  refine callY_P 15 _ [.tmp 6] Try.func138 rfl rfl rfl (by first | rfl | simp) ?_
  by_cases hc : b ≤ a
  · try simp (disch := first | omega | (simp; done) | fail) [wrap64c, if_pos, if_neg, opAnd, opOr, opXor, opDiff, opShr, opBit, hc]
    exact done_ret rfl (by simp [hc])
  · try simp (disch := first | omega | (simp; done) | fail) [wrap64c, if_pos, if_neg, opAnd, opOr, opXor, opDiff, opShr, opBit, hc]
    exact done_ret rfl (by simp [hc])
def sizeB (N : Int) : Bool := decide (1 ≤ N ∧ N ≤ 7)
def setB (n : Nat) (a : Int) : Bool := decide (0 ≤ a ∧ a < (bit n : Nat))
theorem sizeB_true {N : Int} (h : sizeB N = true) : ∃ n : Nat, N = n ∧ 1 ≤ n ∧ n ≤ 7 := by
  unfold sizeB at h
  have := of_decide_eq_true h
  exact ⟨N.toNat, by omega, by omega, by omega⟩
theorem sizeB_of {n : Nat} (h1 : 1 ≤ n) (h7 : n ≤ 7) : sizeB n = true := by unfold sizeB; exact decide_eq_true (by omega)
theorem setB_iff {n : Nat} {a : Int} : setB n a = true ↔ 0 ≤ a ∧ a < (bit n : Nat) := by unfold setB; exact decide_eq_true_iff
theorem spItems_ok (h : Hp) (N : Int) : CallOK Try.prog 215 #[.int .i64 N] h (.bool (sizeB N)) h := by
  refine callY_P 5 _ [.tmp 2] Try.func215 rfl rfl rfl (by first | rfl | simp) ?_
  try simp (disch := first | omega | (simp; done) | fail) [wrap64c, if_pos, if_neg, opAnd, opOr, opXor, opDiff, opShr, opBit]
  refine callG_c (by simp) (by simp) ?ha (l1In_ok h N 1 7) ?_
  (case ha => simp (disch := first | omega | (simp; done) | fail) [wrap64c, if_pos, if_neg, opAnd, opOr, opXor, opDiff, opShr, opBit])
  try simp (disch := first | omega | (simp; done) | fail) [wrap64c, if_pos, if_neg, opAnd, opOr, opXor, opDiff, opShr, opBit]
  exact done_ret rfl (by simp [sizeB])
theorem isSize_ok (h : Hp) (N : Int) : CallOK Try.prog 148 #[.int .i64 N] h (.bool (sizeB N)) h := by
  refine callY_P 5 _ [.tmp 2] Try.func148 rfl rfl rfl (by first | rfl | simp) ?_
  try simp (disch := first | omega | (simp; done) | fail) [wrap64c, if_pos, if_neg, opAnd, opOr, opXor, opDiff, opShr, opBit]
  refine callG_c (by simp) (by simp) ?ha (within_ok h N 1 7) ?_
  (case ha => simp (disch := first | omega | (simp; done) | fail) [wrap64c, if_pos, if_neg, opAnd, opOr, opXor, opDiff, opShr, opBit])
  try simp (disch := first | omega | (simp; done) | fail) [wrap64c, if_pos, if_neg, opAnd, opOr, opXor, opDiff, opShr, opBit]
  exact done_ret rfl (by simp [sizeB])
theorem isSet_ok (h : Hp) (n : Nat) (a : Int) (hn : n ≤ 20) : CallOK Try.prog 123 #[.int .i64 (n : Int), .int .i64 a] h (.bool (setB n a)) h := by
  refine callY_P 10 _ [.tmp 4] Try.func123 rfl rfl rfl (by first | rfl | simp) ?_
  have hb := bit20 hn
  try simp (disch := first | omega | (simp; done) | fail) [wrap64c, if_pos, if_neg, opAnd, opOr, opXor, opDiff, opShr, opBit]
  refine callG_c (by simp) (by simp) ?ha (within_ok h a 0 ((bit n : Nat) - 1)) ?_
  (case ha => simp (disch := first | omega | (simp; done) | fail) [wrap64c, if_pos, if_neg, opAnd, opOr, opXor, opDiff, opShr, opBit])
  try simp (disch := first | omega | (simp; done) | fail) [wrap64c, if_pos, if_neg, opAnd, opOr, opXor, opDiff, opShr, opBit]
  have e : (a ≤ (bit n : Nat) - 1) ↔ (a < (bit n : Nat)) := by omega
  exact done_ret rfl (by simp [e, setB])
theorem shrMod (a i : Nat) : Int.tmod ((nShr a i : Nat) : Int) 2 = if a.testBit i = true then 1 else 0 := by
  rw [Int.tmod_eq_emod_of_nonneg (by omega)]
  have := nShr_mod a i
  split
  · rename_i hb; rw [if_pos hb] at this; omega
  · rename_i hb; rw [if_neg hb] at this; omega
theorem spIn_ok (h : Hp) (a i : Nat) (ha : a < 9223372036854775808) (hi : i < 64) : CallOK Try.prog 199 #[.int .i64 (a : Int), .int .i64 (i : Int)] h (.bool (a.testBit i)) h := by
  refine callY_P 10 _ [.tmp 4] Try.func199 rfl rfl rfl (by first | rfl | simp) ?_
  have h1 := nShr_le a i
  have h2 := shrMod a i
  cases hb : a.testBit i
  · have h3 : Int.tmod ((nShr a i : Nat) : Int) 2 = 0 := by rw [h2, hb]; rfl
    try simp (disch := first | omega | (simp; done) | fail) [wrap64c, if_pos, if_neg, opAnd, opOr, opXor, opDiff, opShr, opBit, h3]
    exact done_ret rfl (by simp)
  · have h3 : Int.tmod ((nShr a i : Nat) : Int) 2 = 1 := by rw [h2, hb]; rfl
    try simp (disch := first | omega | (simp; done) | fail) [wrap64c, if_pos, if_neg, opAnd, opOr, opXor, opDiff, opShr, opBit, h3]
    exact done_ret rfl (by simp)
theorem has_at {xs : List Int} {a : Int} {lo : Nat} (h1 : ∀ i (hi : i < xs.length), i < lo → xs[i] < a) (h2 : ∀ i (hi : i < xs.length), lo ≤ i → a ≤ xs[i]) (hs : xs.Pairwise (· < ·)) : a ∈ xs ↔ ∃ h : lo < xs.length, xs[lo] = a := by
  constructor
  · intro h
    obtain ⟨i, hi, e⟩ := List.getElem_of_mem h
    have h3 : ¬ i < lo := fun hl => by have := h1 i hi hl; omega
    have h4 : lo < xs.length := by omega
    refine ⟨h4, ?_⟩
    by_cases el : lo = i
    · subst el; exact e
    · have := (List.pairwise_iff_getElem.1 hs) lo i h4 hi (by omega)
      have := h2 lo h4 (Nat.le_refl _)
      omega
  · rintro ⟨h, rfl⟩
    exact List.getElem_mem h
theorem spHas_ok (h : Hp) (v : Value) (xs : List Int) (a : Int) (hv : Ints h v xs) (hl : xs.length < 2 ^ 40) (hs : xs.Pairwise (· < ·)) : CallOK Try.prog 132 #[v, .int .i64 a] h (.bool (decide (a ∈ xs))) h := by
  refine callY_P 38 _ [.tmp 4] Try.func132 rfl rfl rfl (by first | rfl | simp) ?_
  have hL := hv.lenD
  have hP := List.pairwise_iff_getElem.1 hs
  try simp (disch := first | omega | (simp; done) | fail) [wrap64c, if_pos, if_neg, opAnd, opOr, opXor, opDiff, opShr, opBit, hL]
  refine WD_loopC [0, 1] (fun m tm h' => ∃ lo hi, m = hi - lo ∧ h = h' ∧ tm 5 = .int .i64 (lo : Int) ∧ tm 6 = .int .i64 (hi : Int) ∧ (lo ≤ hi ∧ hi ≤ xs.length) ∧ (∀ i (h1 : i < xs.length), i < lo → xs[i] < a) ∧ (∀ i (h1 : i < xs.length), hi ≤ i → a ≤ xs[i])) _ ⟨0, xs.length, rfl, rfl, (by simp (disch := first | omega | (simp; done) | fail) [wrap64c, if_pos, if_neg, opAnd, opOr, opXor, opDiff, opShr, opBit, hL]), (by simp (disch := first | omega | (simp; done) | fail) [wrap64c, if_pos, if_neg, opAnd, opOr, opXor, opDiff, opShr, opBit, hL]), (by first | omega | assumption | (simp (disch := first | omega | (simp; done) | fail) [wrap64c, if_pos, if_neg, opAnd, opOr, opXor, opDiff, opShr, opBit, hL] <;> omega)), (by intro i h1 h0; omega), (by intro i h1 h0; omega)⟩ ?_
  rintro m tm h' hFr ⟨lo, hi, rfl, rfl, e5, e6, hb, hlo, hhi⟩
  simp only [FrameL] at hFr
  obtain ⟨f0_0, f1_0, -⟩ := hFr
  try simp (disch := first | omega | (simp; done) | fail) [wrap64c, if_pos, if_neg, opAnd, opOr, opXor, opDiff, opShr, opBit, hL] at f0_0 f1_0
  have e0 := f0_0
  have e1 := f1_0
  by_cases hlt : lo < hi
  · obtain ⟨o_x, i_x, c_x, cs_x, own_x, ex_x, es_x, q_x, b_x, g_x, l_x, r_x⟩ := hv.open ((by omega))
    have z_x : ∀ h2 : i_x < cs_x.length, cs_x[i_x] = _ := fun h2 => r_x 0 ((by omega)) h2
    obtain ⟨md, hmd, hm1, hm2⟩ : ∃ md : Nat, ((lo : Int) + hi).tdiv 2 = md ∧ lo ≤ md ∧ md < hi := ⟨(lo + hi) / 2, by rw [Int.tdiv_eq_ediv_of_nonneg (by omega)]; omega, by omega, by omega⟩
    by_cases hc : xs[md] < a
    · try simp (disch := first | omega | (simp; done) | fail) [wrap64c, if_pos, if_neg, opAnd, opOr, opXor, opDiff, opShr, opBit, hL, e0, e1, e5, e6, hlt, q_x, g_x, l_x, r_x, z_x, hmd, hc]
      refine loopK_next _ ?hm ?hf ⟨md + 1, hi, rfl, rfl, (by simp (disch := first | omega | (simp; done) | fail) [wrap64c, if_pos, if_neg, opAnd, opOr, opXor, opDiff, opShr, opBit, hL, e0, e1, e5, e6, hlt, q_x, g_x, l_x, r_x, z_x, hmd, hc] <;> omega), (by simp (disch := first | omega | (simp; done) | fail) [wrap64c, if_pos, if_neg, opAnd, opOr, opXor, opDiff, opShr, opBit, hL, e0, e1, e5, e6, hlt, q_x, g_x, l_x, r_x, z_x, hmd, hc] <;> omega), (by first | omega | assumption | (simp (disch := first | omega | (simp; done) | fail) [wrap64c, if_pos, if_neg, opAnd, opOr, opXor, opDiff, opShr, opBit, hL, e0, e1, e5, e6, hlt, q_x, g_x, l_x, r_x, z_x, hmd, hc] <;> omega)), ?c_hlo, (by first | omega | assumption | (simp (disch := first | omega | (simp; done) | fail) [wrap64c, if_pos, if_neg, opAnd, opOr, opXor, opDiff, opShr, opBit, hL, e0, e1, e5, e6, hlt, q_x, g_x, l_x, r_x, z_x, hmd, hc] <;> omega))⟩
      (case hm => first | omega | (simp; omega))
      (case hf => simp [FrameL, hL, e0, e1, e5, e6, hlt, q_x, g_x, l_x, r_x, z_x, hmd, hc, f0_0, f1_0])
      case c_hlo =>
        exact (fun i h1 h0 => by
          by_cases e : i = md
          · subst e; exact hc
          · have := hP i md h1 (by omega) (by omega); omega)
    · try simp (disch := first | omega | (simp; done) | fail) [wrap64c, if_pos, if_neg, opAnd, opOr, opXor, opDiff, opShr, opBit, hL, e0, e1, e5, e6, hlt, q_x, g_x, l_x, r_x, z_x, hmd, hc]
      refine loopK_next _ ?hm ?hf ⟨lo, md, rfl, rfl, (by simp (disch := first | omega | (simp; done) | fail) [wrap64c, if_pos, if_neg, opAnd, opOr, opXor, opDiff, opShr, opBit, hL, e0, e1, e5, e6, hlt, q_x, g_x, l_x, r_x, z_x, hmd, hc] <;> omega), (by simp (disch := first | omega | (simp; done) | fail) [wrap64c, if_pos, if_neg, opAnd, opOr, opXor, opDiff, opShr, opBit, hL, e0, e1, e5, e6, hlt, q_x, g_x, l_x, r_x, z_x, hmd, hc] <;> omega), (by first | omega | assumption | (simp (disch := first | omega | (simp; done) | fail) [wrap64c, if_pos, if_neg, opAnd, opOr, opXor, opDiff, opShr, opBit, hL, e0, e1, e5, e6, hlt, q_x, g_x, l_x, r_x, z_x, hmd, hc] <;> omega)), (by first | omega | assumption | (simp (disch := first | omega | (simp; done) | fail) [wrap64c, if_pos, if_neg, opAnd, opOr, opXor, opDiff, opShr, opBit, hL, e0, e1, e5, e6, hlt, q_x, g_x, l_x, r_x, z_x, hmd, hc] <;> omega)), ?c_hhi⟩
      (case hm => first | omega | (simp; omega))
      (case hf => simp [FrameL, hL, e0, e1, e5, e6, hlt, q_x, g_x, l_x, r_x, z_x, hmd, hc, f0_0, f1_0])
      case c_hhi =>
        exact (fun i h1 h0 => by
          by_cases e : md = i
          · subst e; omega
          · have := hP md i (by omega) h1 (by omega); omega)
  · have e : lo = hi := by omega
    subst e
    have hi2 := has_at hlo hhi hs
    by_cases h2 : lo < xs.length
    · obtain ⟨o_x, i_x, c_x, cs_x, own_x, ex_x, es_x, q_x, b_x, g_x, l_x, r_x⟩ := hv.open ((by omega))
      have z_x : ∀ h2 : i_x < cs_x.length, cs_x[i_x] = _ := fun h2 => r_x 0 ((by omega)) h2
      by_cases h3 : xs[lo] = a
      · try simp (disch := first | omega | (simp; done) | fail) [wrap64c, if_pos, if_neg, opAnd, opOr, opXor, opDiff, opShr, opBit, hL, e0, e1, e5, e6, hlt, h2, q_x, g_x, l_x, r_x, z_x, h3]
        have : a ∈ xs := hi2.2 ⟨h2, h3⟩
        exact done_ret rfl (by simp [this])
      · try simp (disch := first | omega | (simp; done) | fail) [wrap64c, if_pos, if_neg, opAnd, opOr, opXor, opDiff, opShr, opBit, hL, e0, e1, e5, e6, hlt, h2, q_x, g_x, l_x, r_x, z_x, h3]
        have : ¬ a ∈ xs := fun hm => h3 (hi2.1 hm).2
        exact done_ret rfl (by simp [this, h3])
    · try simp (disch := first | omega | (simp; done) | fail) [wrap64c, if_pos, if_neg, opAnd, opOr, opXor, opDiff, opShr, opBit, hL, e0, e1, e5, e6, hlt, h2]
      have : ¬ a ∈ xs := fun hm => by obtain ⟨h4, _⟩ := hi2.1 hm; omega
      exact done_ret rfl (by simp [this])
theorem spHasN_ok (h : Hp) (v : Value) (xs : List Nat) (a : Nat) (hv : Ints h v (toN xs)) (hl : xs.length < 2 ^ 40) (hs : xs.Pairwise (· < ·)) : CallOK Try.prog 132 #[v, .int .i64 (a : Int)] h (.bool (fam xs a)) h := by
  have := spHas_ok h v (toN xs) (a : Int) hv (by simpa using hl) (toN_srt.2 hs)
  have e : fam xs a = decide ((a : Int) ∈ toN xs) := by unfold fam; rw [decide_eq_decide]; exact mem_toN.symm
  rw [e]; exact this
theorem ris_at {X : List Int} {lo hi : Int} : Rising X lo hi ↔ ∀ i (h : i < X.length), (lo ≤ X[i] ∧ X[i] ≤ hi) ∧ (0 < i → X[i - 1] < X[i]) := by
  constructor
  · intro h i hi
    refine ⟨h.2 _ (List.getElem_mem hi), fun h0 => (List.pairwise_iff_getElem.1 h.1) (i - 1) i (by omega) hi (by omega)⟩
  · intro h
    have key : ∀ d i (h1 : i < X.length) (h2 : i + d + 1 < X.length), X[i] < X[i + d + 1] := by
      intro d
      induction d with
      | zero => intro i h1 h2; exact (h (i + 1) h2).2 (by omega)
      | succ d ih =>
        intro i h1 h2
        have h3 := ih i h1 (by omega)
        have h4 := (h (i + (d + 1) + 1) h2).2 (by omega)
        simp only [Nat.add_sub_cancel] at h4
        have h5 : X[i + d + 1] = X[i + (d + 1)] := rfl
        omega
    refine ⟨List.pairwise_iff_getElem.2 fun i j h1 h2 hij => ?_, fun x hx => ?_⟩
    · have := key (j - i - 1) i h1 (by omega)
      simpa [show i + (j - i - 1) + 1 = j by omega] using this
    · obtain ⟨i, hi, rfl⟩ := List.getElem_of_mem hx
      exact (h i hi).1
theorem l1Rising_ok (h : Hp) (v : Value) (X : List Int) (lo hi : Int) (hv : Ints h v X) : CallOK Try.prog 220 #[v, .int .i64 lo, .int .i64 hi] h (.bool (risB X lo hi)) h := by
  refine callY_P 35 _ [.tmp 6] Try.func220 rfl rfl rfl (by first | rfl | simp) ?_
  have hL := hv.lenD
  have hs := hv.len
  try simp (disch := first | omega | (simp; done) | fail) [wrap64c, if_pos, if_neg, opAnd, opOr, opXor, opDiff, opShr, opBit, hL]
  refine WD_loopC [0, 1, 2, 9, 10] (fun m tm h' => ∃ j, m = X.length - j ∧ h = h' ∧ tm 11 = .int .i64 (j : Int) ∧ (j ≤ X.length) ∧ (∀ i (h1 : i < X.length), i < j → (lo ≤ X[i] ∧ X[i] ≤ hi) ∧ (0 < i → X[i - 1] < X[i]))) _ ⟨0, rfl, rfl, (by simp (disch := first | omega | (simp; done) | fail) [wrap64c, if_pos, if_neg, opAnd, opOr, opXor, opDiff, opShr, opBit, hL]), (by first | omega | assumption | (simp (disch := first | omega | (simp; done) | fail) [wrap64c, if_pos, if_neg, opAnd, opOr, opXor, opDiff, opShr, opBit, hL] <;> omega)), (by intro i h1 h0; omega)⟩ ?_
  rintro m tm h' hFr ⟨j, rfl, rfl, e11, hj, hx⟩
  simp only [FrameL] at hFr
  obtain ⟨f0_0, f1_0, f2_0, f9_0, f10_0, -⟩ := hFr
  try simp (disch := first | omega | (simp; done) | fail) [wrap64c, if_pos, if_neg, opAnd, opOr, opXor, opDiff, opShr, opBit, hL] at f0_0 f1_0 f2_0 f9_0 f10_0
  have e0 := f0_0
  have e1 := f1_0
  have e2 := f2_0
  have e9 := f9_0
  have e10 := f10_0
  by_cases hlt : j < X.length
  · obtain ⟨o_x, i_x, c_x, cs_x, own_x, ex_x, es_x, q_x, b_x, g_x, l_x, r_x⟩ := hv.open ((by omega))
    have z_x : ∀ h2 : i_x < cs_x.length, cs_x[i_x] = _ := fun h2 => r_x 0 ((by omega)) h2
    try simp (disch := first | omega | (simp; done) | fail) [wrap64c, if_pos, if_neg, opAnd, opOr, opXor, opDiff, opShr, opBit, hL, e0, e1, e2, e9, e10, e11, hlt, q_x, g_x, l_x, r_x, z_x]
    refine callG_c (by simp) (by simp) ?ha (l1In_ok h X[j] lo hi) ?_
    (case ha => simp (disch := first | omega | (simp; done) | fail) [wrap64c, if_pos, if_neg, opAnd, opOr, opXor, opDiff, opShr, opBit, hL, e0, e1, e2, e9, e10, e11, hlt, q_x, g_x, l_x, r_x, z_x])
    by_cases hc : lo ≤ X[j] ∧ X[j] ≤ hi
    · have hc1 : decide (lo ≤ X[j] ∧ X[j] ≤ hi) = true := by simpa using hc
      have hc2 : (decide (lo ≤ X[j]) && decide (X[j] ≤ hi)) = true := by simpa using hc
      by_cases h0 : 0 < j
      · have h0' : ((j : Int) - 1) = ((j - 1 : Nat) : Int) := by omega
        by_cases hd : X[j - 1] < X[j]
        · have hd' : ¬ X[j - 1] ≥ X[j] := by omega
          have hd2 : ¬ X[j] ≤ X[j - 1] := by omega
          try simp (disch := first | omega | (simp; done) | fail) [wrap64c, if_pos, if_neg, opAnd, opOr, opXor, opDiff, opShr, opBit, hL, e0, e1, e2, e9, e10, e11, hlt, q_x, g_x, l_x, r_x, z_x, hc1, hc2, h0, h0', hd', hd2]
          refine loopK_next _ ?hm ?hf ⟨j + 1, rfl, rfl, (by simp (disch := first | omega | (simp; done) | fail) [wrap64c, if_pos, if_neg, opAnd, opOr, opXor, opDiff, opShr, opBit, hL, e0, e1, e2, e9, e10, e11, hlt, q_x, g_x, l_x, r_x, z_x, hc1, hc2, h0, h0', hd', hd2] <;> omega), (by first | omega | assumption | (simp (disch := first | omega | (simp; done) | fail) [wrap64c, if_pos, if_neg, opAnd, opOr, opXor, opDiff, opShr, opBit, hL, e0, e1, e2, e9, e10, e11, hlt, q_x, g_x, l_x, r_x, z_x, hc1, hc2, h0, h0', hd', hd2] <;> omega)), ?c_hx⟩
          (case hm => first | omega | (simp; omega))
          (case hf => simp [FrameL, hL, e0, e1, e2, e9, e10, e11, hlt, q_x, g_x, l_x, r_x, z_x, hc1, hc2, h0, h0', hd', hd2, f0_0, f1_0, f2_0, f9_0, f10_0])
          case c_hx =>
            exact (fun i h1 hi' => by
              by_cases e : i = j
              · subst e; exact ⟨hc, fun _ => hd⟩
              · exact hx i h1 (by omega))
        · have hd' : X[j - 1] ≥ X[j] := by omega
          have hd2 : X[j] ≤ X[j - 1] := by omega
          try simp (disch := first | omega | (simp; done) | fail) [wrap64c, if_pos, if_neg, opAnd, opOr, opXor, opDiff, opShr, opBit, hL, e0, e1, e2, e9, e10, e11, hlt, q_x, g_x, l_x, r_x, z_x, hc1, hc2, h0, h0', hd', hd2]
          have : risB X lo hi = false := by
            rw [Bool.eq_false_iff]; intro hq
            exact hd ((ris_at.1 (risB_true hq) j hlt).2 h0)
          exact done_ret rfl (by simp [this])
      · try simp (disch := first | omega | (simp; done) | fail) [wrap64c, if_pos, if_neg, opAnd, opOr, opXor, opDiff, opShr, opBit, hL, e0, e1, e2, e9, e10, e11, hlt, q_x, g_x, l_x, r_x, z_x, hc1, hc2, h0]
        refine loopK_next _ ?hm ?hf ⟨j + 1, rfl, rfl, (by simp (disch := first | omega | (simp; done) | fail) [wrap64c, if_pos, if_neg, opAnd, opOr, opXor, opDiff, opShr, opBit, hL, e0, e1, e2, e9, e10, e11, hlt, q_x, g_x, l_x, r_x, z_x, hc1, hc2, h0] <;> omega), (by first | omega | assumption | (simp (disch := first | omega | (simp; done) | fail) [wrap64c, if_pos, if_neg, opAnd, opOr, opXor, opDiff, opShr, opBit, hL, e0, e1, e2, e9, e10, e11, hlt, q_x, g_x, l_x, r_x, z_x, hc1, hc2, h0] <;> omega)), ?c_hx⟩
        (case hm => first | omega | (simp; omega))
        (case hf => simp [FrameL, hL, e0, e1, e2, e9, e10, e11, hlt, q_x, g_x, l_x, r_x, z_x, hc1, hc2, h0, f0_0, f1_0, f2_0, f9_0, f10_0])
        case c_hx =>
          exact (fun i h1 hi' => by
            by_cases e : i = j
            · subst e; exact ⟨hc, fun q => absurd q h0⟩
            · exact hx i h1 (by omega))
    · have hc1 : decide (lo ≤ X[j] ∧ X[j] ≤ hi) = false := by simpa using hc
      have hc2 : (decide (lo ≤ X[j]) && decide (X[j] ≤ hi)) = false := by rw [← hc1]; simp
      try simp (disch := first | omega | (simp; done) | fail) [wrap64c, if_pos, if_neg, opAnd, opOr, opXor, opDiff, opShr, opBit, hL, e0, e1, e2, e9, e10, e11, hlt, q_x, g_x, l_x, r_x, z_x, hc1, hc2]
      have : risB X lo hi = false := by
        rw [Bool.eq_false_iff]; intro hq
        exact hc (ris_at.1 (risB_true hq) j hlt).1
      exact done_ret rfl (by simp [this])
  · try simp (disch := first | omega | (simp; done) | fail) [wrap64c, if_pos, if_neg, opAnd, opOr, opXor, opDiff, opShr, opBit, hL, e0, e1, e2, e9, e10, e11, hlt]
    have : risB X lo hi = true := risB_iff.2 (ris_at.2 fun i h1 => hx i h1 (by omega))
    exact done_ret rfl (by simp [this])
theorem spInner_ok (h : Hp) (v : Value) (xs : List Nat) (a : Nat) (hv : Ints h v (toN xs)) (hl : xs.length < 2 ^ 40) (hs : xs.Pairwise (· < ·)) (ha : a < 128) :
    CallOK Try.prog 121 #[v, .int .i64 (a : Int)] h (.int .i64 ((innerN (fam xs) a : Nat) : Int)) h := by
  refine callY_P 27 _ [.tmp 4] Try.func121 rfl rfl rfl (by first | rfl | simp) ?_
  try simp (disch := first | omega | (simp; done) | fail) [wrap64c, if_pos, if_neg, opAnd, opOr, opXor, opDiff, opShr, opBit]
  refine WD_loopC [0, 1] (fun m tm h' => ∃ i, m = 7 - i ∧ h = h' ∧ tm 5 = .int .i64 ((maskN (fun i => a.testBit i && fam xs (nXor a (bit i))) i : Nat) : Int) ∧ tm 6 = .int .i64 (i : Int) ∧ (i ≤ 7)) _ ⟨0, rfl, rfl, (by simp [maskN]), (by simp (disch := first | omega | (simp; done) | fail) [wrap64c, if_pos, if_neg, opAnd, opOr, opXor, opDiff, opShr, opBit]), (by first | omega | assumption | (simp (disch := first | omega | (simp; done) | fail) [wrap64c, if_pos, if_neg, opAnd, opOr, opXor, opDiff, opShr, opBit] <;> omega))⟩ ?_
  rintro m tm h' hFr ⟨i, rfl, rfl, e5, e6, hi⟩
  simp only [FrameL] at hFr
  obtain ⟨f0_0, f1_0, -⟩ := hFr
  try simp (disch := first | omega | (simp; done) | fail) [wrap64c, if_pos, if_neg, opAnd, opOr, opXor, opDiff, opShr, opBit] at f0_0 f1_0
  have e0 := f0_0
  have e1 := f1_0
  by_cases hlt : i < 7
  · have hb := bit_lt7 hlt
    have hx := nXor128 (a := a) (b := bit i) ha (by omega)
    have hm := maskN_lt (fun i => a.testBit i && fam xs (nXor a (bit i))) i
    have hm2 := bit_lt7 hlt
    try simp (disch := first | omega | (simp; done) | fail) [wrap64c, if_pos, if_neg, opAnd, opOr, opXor, opDiff, opShr, opBit, e0, e1, e5, e6, hlt]
    refine callG_c (by simp) (by simp) ?ha (spIn_ok h a i (by omega) (by omega)) ?_
    (case ha => simp (disch := first | omega | (simp; done) | fail) [wrap64c, if_pos, if_neg, opAnd, opOr, opXor, opDiff, opShr, opBit, e0, e1, e5, e6, hlt])
    cases hb : a.testBit i
    · try simp (disch := first | omega | (simp; done) | fail) [wrap64c, if_pos, if_neg, opAnd, opOr, opXor, opDiff, opShr, opBit, e0, e1, e5, e6, hlt, hb]
      refine loopK_next _ ?hm ?hf ⟨i + 1, rfl, rfl, (by simp [maskN, hb, e5]), (by simp (disch := first | omega | (simp; done) | fail) [wrap64c, if_pos, if_neg, opAnd, opOr, opXor, opDiff, opShr, opBit, e0, e1, e5, e6, hlt, hb] <;> omega), (by first | omega | assumption | (simp (disch := first | omega | (simp; done) | fail) [wrap64c, if_pos, if_neg, opAnd, opOr, opXor, opDiff, opShr, opBit, e0, e1, e5, e6, hlt, hb] <;> omega))⟩
      (case hm => first | omega | (simp; omega))
      (case hf => simp [FrameL, e0, e1, e5, e6, hlt, hb, f0_0, f1_0])
    · try simp (disch := first | omega | (simp; done) | fail) [wrap64c, if_pos, if_neg, opAnd, opOr, opXor, opDiff, opShr, opBit, e0, e1, e5, e6, hlt, hb]
      refine callG_c (by simp) (by simp) ?ha (spHasN_ok h v xs (nXor a (bit i)) hv hl hs) ?_
      (case ha => simp (disch := first | omega | (simp; done) | fail) [wrap64c, if_pos, if_neg, opAnd, opOr, opXor, opDiff, opShr, opBit, e0, e1, e5, e6, hlt, hb])
      cases hc : fam xs (nXor a (bit i))
      · try simp (disch := first | omega | (simp; done) | fail) [wrap64c, if_pos, if_neg, opAnd, opOr, opXor, opDiff, opShr, opBit, e0, e1, e5, e6, hlt, hb, hc]
        refine loopK_next _ ?hm ?hf ⟨i + 1, rfl, rfl, (by simp [maskN, hb, hc, e5]), (by simp (disch := first | omega | (simp; done) | fail) [wrap64c, if_pos, if_neg, opAnd, opOr, opXor, opDiff, opShr, opBit, e0, e1, e5, e6, hlt, hb, hc] <;> omega), (by first | omega | assumption | (simp (disch := first | omega | (simp; done) | fail) [wrap64c, if_pos, if_neg, opAnd, opOr, opXor, opDiff, opShr, opBit, e0, e1, e5, e6, hlt, hb, hc] <;> omega))⟩
        (case hm => first | omega | (simp; omega))
        (case hf => simp [FrameL, e0, e1, e5, e6, hlt, hb, hc, f0_0, f1_0])
      · try simp (disch := first | omega | (simp; done) | fail) [wrap64c, if_pos, if_neg, opAnd, opOr, opXor, opDiff, opShr, opBit, e0, e1, e5, e6, hlt, hb, hc]
        refine loopK_next _ ?hm ?hf ⟨i + 1, rfl, rfl, (by simp [maskN, hb, hc, e5]), (by simp (disch := first | omega | (simp; done) | fail) [wrap64c, if_pos, if_neg, opAnd, opOr, opXor, opDiff, opShr, opBit, e0, e1, e5, e6, hlt, hb, hc] <;> omega), (by first | omega | assumption | (simp (disch := first | omega | (simp; done) | fail) [wrap64c, if_pos, if_neg, opAnd, opOr, opXor, opDiff, opShr, opBit, e0, e1, e5, e6, hlt, hb, hc] <;> omega))⟩
        (case hm => first | omega | (simp; omega))
        (case hf => simp [FrameL, e0, e1, e5, e6, hlt, hb, hc, f0_0, f1_0])
  · try simp (disch := first | omega | (simp; done) | fail) [wrap64c, if_pos, if_neg, opAnd, opOr, opXor, opDiff, opShr, opBit, e0, e1, e5, e6, hlt]
    exact done_ret rfl (by simp [innerN, show i = 7 by omega])
theorem spOuter_ok (h : Hp) (v : Value) (n : Nat) (xs : List Nat) (a : Nat) (hv : Space h v n (toN xs)) (hn : n ≤ 7) (hl : xs.length < 2 ^ 40) (hs : xs.Pairwise (· < ·)) (ha : a < 128) :
    CallOK Try.prog 119 #[v, .int .i64 (a : Int)] h (.int .i64 ((outerN (fam xs) n a : Nat) : Int)) h := by
  refine callY_P 31 _ [.tmp 4] Try.func119 rfl rfl rfl (by first | rfl | simp) ?_
  obtain ⟨b, rfl, hX⟩ := hv
  refine WD_first ?_
  try simp (disch := first | omega | (simp; done) | fail) [wrap64c, if_pos, if_neg, opAnd, opOr, opXor, opDiff, opShr, opBit]
  refine stopK_heap fun h0 q_h0 => ?_
  refine stopK_go ?_
  have g_h0 : h0.get h.next = .cells [.int .i64 n, b] true true 1 := by simp [q_h0]
  have k_h0 : Adds h h0 := by rw [q_h0]; exact (by first | exact aK | exact kK)
  have n_h0 : h.next < h0.next := by simp [q_h0]; try omega
  have hX0 := hX.keep k_h0.1
  try simp (disch := first | omega | (simp; done) | fail) [wrap64c, if_pos, if_neg, opAnd, opOr, opXor, opDiff, opShr, opBit, g_h0]
  refine WD_loopC [1, 2] (fun m tm h' => ∃ i, m = n - i ∧ h0 = h' ∧ tm 5 = .int .i64 ((maskN (fun i => !a.testBit i && fam xs (nOr a (bit i))) i : Nat) : Int) ∧ tm 6 = .int .i64 (i : Int) ∧ (i ≤ n)) _ ⟨0, rfl, rfl, (by simp [maskN]), (by simp (disch := first | omega | (simp; done) | fail) [wrap64c, if_pos, if_neg, opAnd, opOr, opXor, opDiff, opShr, opBit, g_h0]), (by first | omega | assumption | (simp (disch := first | omega | (simp; done) | fail) [wrap64c, if_pos, if_neg, opAnd, opOr, opXor, opDiff, opShr, opBit, g_h0] <;> omega))⟩ ?_
  rintro m tm h' hFr ⟨i, rfl, rfl, e5, e6, hi⟩
  simp only [FrameL] at hFr
  obtain ⟨f1_0, f2_0, -⟩ := hFr
  try simp (disch := first | omega | (simp; done) | fail) [wrap64c, if_pos, if_neg, opAnd, opOr, opXor, opDiff, opShr, opBit, g_h0] at f1_0 f2_0
  have e1 := f1_0
  have e2 := f2_0
  by_cases hlt : i < n
  · have hb := bit_lt7 (i := i) (by omega)
    have hx := nOr128 (a := a) (b := bit i) ha (by omega)
    have hm := maskN_lt (fun i => !a.testBit i && fam xs (nOr a (bit i))) i
    try simp (disch := first | omega | (simp; done) | fail) [wrap64c, if_pos, if_neg, opAnd, opOr, opXor, opDiff, opShr, opBit, g_h0, e1, e2, e5, e6, hlt]
    refine WD_drawC 11 rfl (by kernel_rfl) ?_
    try simp (disch := first | omega | (simp; done) | fail) [wrap64c, if_pos, if_neg, opAnd, opOr, opXor, opDiff, opShr, opBit, g_h0, e1, e2, e5, e6, hlt]
    refine callP_c (by simp) (by simp) ?ha (spIn_ok h0 a i (by omega) (by omega)) ?hadd ?_
    (case ha => simp (disch := first | omega | (simp; done) | fail) [wrap64c, if_pos, if_neg, opAnd, opOr, opXor, opDiff, opShr, opBit, g_h0, e1, e2, e5, e6, hlt])
    (case hadd => first | assumption | exact adds_self _ | (simp; done))
    cases hb : a.testBit i
    · try simp (disch := first | omega | (simp; done) | fail) [wrap64c, if_pos, if_neg, opAnd, opOr, opXor, opDiff, opShr, opBit, g_h0, e1, e2, e5, e6, hlt, hb]
      refine callG_c (by simp) (by simp) ?ha (spHasN_ok h0 b xs (nOr a (bit i)) hX0 hl hs) ?_
      (case ha => simp (disch := first | omega | (simp; done) | fail) [wrap64c, if_pos, if_neg, opAnd, opOr, opXor, opDiff, opShr, opBit, g_h0, e1, e2, e5, e6, hlt, hb])
      cases hc : fam xs (nOr a (bit i))
      · try simp (disch := first | omega | (simp; done) | fail) [wrap64c, if_pos, if_neg, opAnd, opOr, opXor, opDiff, opShr, opBit, g_h0, e1, e2, e5, e6, hlt, hb, hc]
        refine loopK_next _ ?hm ?hf ⟨i + 1, rfl, rfl, (by simp [maskN, hb, hc, e5]), (by simp (disch := first | omega | (simp; done) | fail) [wrap64c, if_pos, if_neg, opAnd, opOr, opXor, opDiff, opShr, opBit, g_h0, e1, e2, e5, e6, hlt, hb, hc] <;> omega), (by first | omega | assumption | (simp (disch := first | omega | (simp; done) | fail) [wrap64c, if_pos, if_neg, opAnd, opOr, opXor, opDiff, opShr, opBit, g_h0, e1, e2, e5, e6, hlt, hb, hc] <;> omega))⟩
        (case hm => first | omega | (simp; omega))
        (case hf => simp [FrameL, g_h0, e1, e2, e5, e6, hlt, hb, hc, f1_0, f2_0])
      · try simp (disch := first | omega | (simp; done) | fail) [wrap64c, if_pos, if_neg, opAnd, opOr, opXor, opDiff, opShr, opBit, g_h0, e1, e2, e5, e6, hlt, hb, hc]
        refine loopK_next _ ?hm ?hf ⟨i + 1, rfl, rfl, (by simp [maskN, hb, hc, e5]), (by simp (disch := first | omega | (simp; done) | fail) [wrap64c, if_pos, if_neg, opAnd, opOr, opXor, opDiff, opShr, opBit, g_h0, e1, e2, e5, e6, hlt, hb, hc] <;> omega), (by first | omega | assumption | (simp (disch := first | omega | (simp; done) | fail) [wrap64c, if_pos, if_neg, opAnd, opOr, opXor, opDiff, opShr, opBit, g_h0, e1, e2, e5, e6, hlt, hb, hc] <;> omega))⟩
        (case hm => first | omega | (simp; omega))
        (case hf => simp [FrameL, g_h0, e1, e2, e5, e6, hlt, hb, hc, f1_0, f2_0])
    · try simp (disch := first | omega | (simp; done) | fail) [wrap64c, if_pos, if_neg, opAnd, opOr, opXor, opDiff, opShr, opBit, g_h0, e1, e2, e5, e6, hlt, hb]
      refine loopK_next _ ?hm ?hf ⟨i + 1, rfl, rfl, (by simp [maskN, hb, e5]), (by simp (disch := first | omega | (simp; done) | fail) [wrap64c, if_pos, if_neg, opAnd, opOr, opXor, opDiff, opShr, opBit, g_h0, e1, e2, e5, e6, hlt, hb] <;> omega), (by first | omega | assumption | (simp (disch := first | omega | (simp; done) | fail) [wrap64c, if_pos, if_neg, opAnd, opOr, opXor, opDiff, opShr, opBit, g_h0, e1, e2, e5, e6, hlt, hb] <;> omega))⟩
      (case hm => first | omega | (simp; omega))
      (case hf => simp [FrameL, g_h0, e1, e2, e5, e6, hlt, hb, f1_0, f2_0])
  · try simp (disch := first | omega | (simp; done) | fail) [wrap64c, if_pos, if_neg, opAnd, opOr, opXor, opDiff, opShr, opBit, g_h0, e1, e2, e5, e6, hlt]
    exact done_ret rfl (by simp [outerN, show i = n by omega, k_h0.1])
end Go.Proofs.Ytnncipcldbopgaa
namespace Go.Proofs.Ytnncipcldbopgaa
set_option linter.unusedSimpArgs false
set_option linter.unusedVariables false
set_option maxHeartbeats 4000000
open Go Go.Eng
attribute [local irreducible] WD RunD PreD Runs CallOK
def famC (M : Nat → Bool) : List Value := (List.range 128).map fun i => .bool (M i)
@[simp] theorem famC_length (M : Nat → Bool) : (famC M).length = 128 := by simp [famC]
theorem famC_at (M : Nat → Bool) (i : Nat) (h : i < (famC M).length) : (famC M)[i] = .bool (M i) := by simp [famC]
theorem famC_getD (M : Nat → Bool) (i : Nat) (h : i < 128) : (famC M)[i]?.getD undef = .bool (M i) := by
  rw [List.getElem?_eq_getElem (by simpa using h), famC_at]; rfl
theorem famC_zero : zlist 128 (Value.bool false) = famC (fam []) := by
  apply List.ext_getElem (by simp)
  intro i h1 h2
  rw [famC_at]
  have e : (zlist 128 (Value.bool false))[i] = .bool false := List.getElem_replicate _
  exact e.trans (by simp [fam])
theorem famC_set (xs : List Nat) (a : Nat) (ha : a < 128) : (famC (fam xs)).set a (.bool true) = famC (fam (xs ++ [a])) := by
  apply List.ext_getElem (by simp)
  intro i h1 h2
  rw [List.getElem_set, famC_at]
  by_cases e : a = i
  · subst e; rw [famC_at]; simp [fam]
  · rw [if_neg e, famC_at]; simp [fam, Ne.symm e]
theorem family_ok (h : Hp) (v : Value) (N : Int) (xs : List Nat) (hv : Space h v N (toN xs)) (hx : ∀ x ∈ xs, x < 128) (hl : xs.length < 2 ^ 40) :
    ∃ v' h', CallOK Try.prog 116 #[v] h v' h' ∧ ∃ o, v' = .pointer (some ⟨o, 0, none⟩) ∧ Adds h h' ∧ h.next ≤ o ∧ o < h'.next ∧ h'.get o = .cells (famC (fam xs)) true true 1 := by
  refine callY_L (args := [v]) 21 _ [.tmp 2] Try.func116 rfl rfl rfl ?_
  obtain ⟨b, rfl, hX⟩ := hv
  have hL := hX.lenD
  have hgt := toN_get xs
  have hln := toN_length xs
  try simp (disch := first | omega | (simp; done) | fail) [wrap64c, if_pos, if_neg, opAnd, opOr, opXor, opDiff, opShr, opBit, hL, hgt]
  refine WD_loopC [3, 9, 10] (fun m tm h' => ∃ j, m = xs.length - j ∧ tm 11 = .int .i64 (j : Int) ∧ (j ≤ xs.length) ∧ (Adds h h') ∧ (h'.next = h.next + 2) ∧ (h'.get (h.next + 1) = .cells (famC (fam (xs.take j))) true true 1)) _ ⟨0, rfl, (by simp (disch := first | omega | (simp; done) | fail) [wrap64c, if_pos, if_neg, opAnd, opOr, opXor, opDiff, opShr, opBit, hL, hgt]), (by first | omega | assumption | (simp (disch := first | omega | (simp; done) | fail) [wrap64c, if_pos, if_neg, opAnd, opOr, opXor, opDiff, opShr, opBit, hL, hgt] <;> omega)), (by first | exact aK | exact kK), (by simp), (by simp [← famC_zero])⟩ ?_
  rintro m tm h' hFr ⟨j, rfl, e11, hj, ha, hn, hg⟩
  simp only [FrameL] at hFr
  obtain ⟨f3_0, f9_0, f10_0, -⟩ := hFr
  try simp (disch := first | omega | (simp; done) | fail) [wrap64c, if_pos, if_neg, opAnd, opOr, opXor, opDiff, opShr, opBit, hL, hgt] at f3_0 f9_0 f10_0
  have e3 := f3_0
  have e9 := f9_0
  have e10 := f10_0
  by_cases hlt : j < xs.length
  · obtain ⟨o_x, i_x, c_x, cs_x, own_x, ex_x, es_x, q_x, b_x, g_x, l_x, r_x⟩ := (hX.keep ha.1).open ((by simp; omega))
    have z_x : ∀ h2 : i_x < cs_x.length, cs_x[i_x] = _ := fun h2 => r_x 0 ((by simp; omega)) h2
    have hx1 := hx _ (List.getElem_mem hlt)
    try simp (disch := first | omega | (simp; done) | fail) [wrap64c, if_pos, if_neg, opAnd, opOr, opXor, opDiff, opShr, opBit, hL, hgt, e3, e9, e10, e11, hg, hlt, q_x, g_x, l_x, r_x, z_x]
    refine loopK_next _ ?hm ?hf ⟨j + 1, rfl, (by simp (disch := first | omega | (simp; done) | fail) [wrap64c, if_pos, if_neg, opAnd, opOr, opXor, opDiff, opShr, opBit, hL, hgt, e3, e9, e10, e11, hg, hlt, q_x, g_x, l_x, r_x, z_x] <;> omega), (by first | omega | assumption | (simp (disch := first | omega | (simp; done) | fail) [wrap64c, if_pos, if_neg, opAnd, opOr, opXor, opDiff, opShr, opBit, hL, hgt, e3, e9, e10, e11, hg, hlt, q_x, g_x, l_x, r_x, z_x] <;> omega)), (by first | exact aK | exact kK), (by simpa using hn), (by rw [List.take_succ_eq_append_getElem hlt, ← famC_set _ _ hx1]; simp [putCells_one, hx1])⟩
    (case hm => first | omega | (simp; omega))
    (case hf => simp [FrameL, hL, hgt, e3, e9, e10, e11, hg, hlt, q_x, g_x, l_x, r_x, z_x, f3_0, f9_0, f10_0])
  · try simp (disch := first | omega | (simp; done) | fail) [wrap64c, if_pos, if_neg, opAnd, opOr, opXor, opDiff, opShr, opBit, hL, hgt, e3, e9, e10, e11, hg, hlt]
    refine done_ret rfl ⟨_, rfl, ha, by omega, by omega, ?_⟩
    rw [hg, List.take_of_length_le (by omega)]
theorem all_ok (h : Hp) (v : Value) (n : Nat) (X : List Int) (hv : Space h v n X) (hn : n ≤ 20) : CallOK Try.prog 128 #[v] h (.int .i64 ((bit n - 1 : Nat) : Int)) h := by
  refine callY_P 7 _ [.tmp 2] Try.func128 rfl rfl rfl (by first | rfl | simp) ?_
  obtain ⟨b, rfl, hX⟩ := hv
  have hb := bit20 hn
  try simp (disch := first | omega | (simp; done) | fail) [wrap64c, if_pos, if_neg, opAnd, opOr, opXor, opDiff, opShr, opBit]
  exact done_ret rfl ⟨by simp; omega, by simp⟩
def itemsK (a k : Nat) : List Nat := (List.range k).filter fun i => a.testBit i
theorem itemsK_succ (a k : Nat) : itemsK a (k + 1) = if a.testBit k = true then itemsK a k ++ [k] else itemsK a k := by
  unfold itemsK
  rw [List.range_succ, List.filter_append]
  by_cases h : a.testBit k = true <;> simp [h]
theorem itemsK_len (a k : Nat) : (itemsK a k).length ≤ k := by
  unfold itemsK
  have := List.length_filter_le (fun i => a.testBit i) (List.range k)
  simpa using this
theorem items_eq (a : Nat) : itemsN a = itemsK a 7 := rfl
theorem items_len (a : Nat) : (itemsN a).length ≤ 7 := itemsK_len a 7
theorem items_lt {a i : Nat} (h : i ∈ itemsN a) : i < 7 := (mem_items.1 h).1
theorem items_ok (h : Hp) (a : Nat) (ha : a < 9223372036854775808) :
    ∃ v' h', CallOK Try.prog 180 #[.int .i64 (a : Int)] h v' h' ∧ Adds h h' ∧ IntsO (Btw h.next h'.next) h' v' (toN (itemsN a)) ∧ IntsA h.next h' v' (toN (itemsN a)) := by
  refine callY_L (args := [.int .i64 (a : Int)]) 20 _ [.tmp 2] Try.func180 rfl rfl rfl ?_
  try simp (disch := first | omega | (simp; done) | fail) [wrap64c, if_pos, if_neg, opAnd, opOr, opXor, opDiff, opShr, opBit]
  refine WD_loopC [0] (fun m tm h' => ∃ i u, m = 7 - i ∧ tm 3 = u ∧ tm 6 = .int .i64 (i : Int) ∧ (i ≤ 7) ∧ (Adds h h') ∧ (IntsA h.next h' u (toN (itemsK a i)))) _ ⟨0, _, rfl, (by simp (disch := first | omega | (simp; done) | fail) [wrap64c, if_pos, if_neg, opAnd, opOr, opXor, opDiff, opShr, opBit]), (by simp (disch := first | omega | (simp; done) | fail) [wrap64c, if_pos, if_neg, opAnd, opOr, opXor, opDiff, opShr, opBit]), (by first | omega | assumption | (simp (disch := first | omega | (simp; done) | fail) [wrap64c, if_pos, if_neg, opAnd, opOr, opXor, opDiff, opShr, opBit] <;> omega)), (by first | exact aK | exact kK), (.lit (ex := true) (Nat.le_refl _) (by simp) (by simp [itemsK, toN]))⟩ ?_
  rintro m tm h' hFr ⟨i, u, rfl, e3, e6, hi, ha, hu⟩
  simp only [FrameL] at hFr
  obtain ⟨f0_0, -⟩ := hFr
  try simp (disch := first | omega | (simp; done) | fail) [wrap64c, if_pos, if_neg, opAnd, opOr, opXor, opDiff, opShr, opBit] at f0_0
  have e0 := f0_0
  by_cases hlt : i < 7
  · have h1 := nShr_le a i
    have h2 := nShr_and01 a i
    have hs := itemsK_succ a i
    cases hb : a.testBit i
    · have h3 : nAnd (nShr a i) 1 = 0 := by rw [h2, hb]; rfl
      rw [hb] at hs
      try simp (disch := first | omega | (simp; done) | fail) [wrap64c, if_pos, if_neg, opAnd, opOr, opXor, opDiff, opShr, opBit, e0, e3, e6, hlt, h3]
      refine loopK_next _ ?hm ?hf ⟨i + 1, u, rfl, (by simp (disch := first | omega | (simp; done) | fail) [wrap64c, if_pos, if_neg, opAnd, opOr, opXor, opDiff, opShr, opBit, e0, e3, e6, hlt, h3] <;> omega), (by simp (disch := first | omega | (simp; done) | fail) [wrap64c, if_pos, if_neg, opAnd, opOr, opXor, opDiff, opShr, opBit, e0, e3, e6, hlt, h3] <;> omega), (by first | omega | assumption | (simp (disch := first | omega | (simp; done) | fail) [wrap64c, if_pos, if_neg, opAnd, opOr, opXor, opDiff, opShr, opBit, e0, e3, e6, hlt, h3] <;> omega)), (by first | omega | assumption | (simp (disch := first | omega | (simp; done) | fail) [wrap64c, if_pos, if_neg, opAnd, opOr, opXor, opDiff, opShr, opBit, e0, e3, e6, hlt, h3] <;> omega)), (by rw [hs]; exact hu)⟩
      (case hm => first | omega | (simp; omega))
      (case hf => simp [FrameL, e0, e3, e6, hlt, h3, f0_0])
    · have h3 : nAnd (nShr a i) 1 = 1 := by rw [h2, hb]; rfl
      rw [hb] at hs
      try simp (disch := first | omega | (simp; done) | fail) [wrap64c, if_pos, if_neg, opAnd, opOr, opXor, opDiff, opShr, opBit, e0, e3, e6, hlt, h3]
      have hle := itemsK_len a i
      obtain ⟨u2, h2, hap, hu2, ha2, hn2, hs2⟩ := appI hu (i : Int) (by simp; omega) ha.1.1 ha (Nat.le_refl _)
      try simp (disch := first | omega | (simp; done) | fail) [wrap64c, if_pos, if_neg, opAnd, opOr, opXor, opDiff, opShr, opBit, e0, e3, e6, hlt, h3, hap]
      refine loopK_next _ ?hm ?hf ⟨i + 1, u2, rfl, (by simp (disch := first | omega | (simp; done) | fail) [wrap64c, if_pos, if_neg, opAnd, opOr, opXor, opDiff, opShr, opBit, e0, e3, e6, hlt, h3] <;> omega), (by simp (disch := first | omega | (simp; done) | fail) [wrap64c, if_pos, if_neg, opAnd, opOr, opXor, opDiff, opShr, opBit, e0, e3, e6, hlt, h3] <;> omega), (by first | omega | assumption | (simp (disch := first | omega | (simp; done) | fail) [wrap64c, if_pos, if_neg, opAnd, opOr, opXor, opDiff, opShr, opBit, e0, e3, e6, hlt, h3] <;> omega)), (by first | omega | assumption | (simp (disch := first | omega | (simp; done) | fail) [wrap64c, if_pos, if_neg, opAnd, opOr, opXor, opDiff, opShr, opBit, e0, e3, e6, hlt, h3] <;> omega)), (by rw [hs, if_pos rfl, toN_snoc]; exact hu2)⟩
      (case hm => first | omega | (simp; omega))
      (case hf => simp [FrameL, e0, e3, e6, hlt, h3, f0_0])
  · try simp (disch := first | omega | (simp; done) | fail) [wrap64c, if_pos, if_neg, opAnd, opOr, opXor, opDiff, opShr, opBit, e0, e3, e6, hlt]
    have e : i = 7 := by omega
    subst e
    have hle := itemsK_len a 7
    exact done_ret rfl ⟨ha, hu.own (by simp; omega), hu⟩
theorem imInner_ok (h : Hp) (o : Nat) (M : Nat → Bool) (own ex : Bool) (es a : Nat) (ho : o < h.next) (hg : h.get o = .cells (famC M) own ex es) (ha : a < 128) :
    CallOK Try.prog 120 #[.pointer (some ⟨o, 0, none⟩), .int .i64 (a : Int)] h (.int .i64 ((innerN M a : Nat) : Int)) h := by
  refine callY_P 29 _ [.tmp 4] Try.func120 rfl rfl rfl (by first | rfl | simp) ?_
  try simp (disch := first | omega | (simp; done) | fail) [wrap64c, if_pos, if_neg, opAnd, opOr, opXor, opDiff, opShr, opBit]
  obtain ⟨u, h1, hc1, ha1, hi1, _⟩ := items_ok h a (by omega)
  refine callG_c (by simp) (by simp) ?ha (hc1) ?_
  (case ha => simp (disch := first | omega | (simp; done) | fail) [wrap64c, if_pos, if_neg, opAnd, opOr, opXor, opDiff, opShr, opBit])
  have hL := hi1.ints.lenD
  have hgt := toN_get (itemsN a)
  have hln := toN_length (itemsN a)
  have hg1 : h1.get o = .cells (famC M) own ex es := by rw [ha1.1.2 o ho, hg]
  have hf := famC_getD M
  try simp (disch := first | omega | (simp; done) | fail) [wrap64c, if_pos, if_neg, opAnd, opOr, opXor, opDiff, opShr, opBit, hL, hgt, hg1, hf]
  refine WD_loopC [0, 1, 9, 10] (fun m tm h' => ∃ j, m = (itemsN a).length - j ∧ h1 = h' ∧ tm 5 = .int .i64 ((maskL (fun i => M (ndiff a (bit i))) ((itemsN a).take j) 0 : Nat) : Int) ∧ tm 11 = .int .i64 (j : Int) ∧ (j ≤ (itemsN a).length) ∧ (maskL (fun i => M (ndiff a (bit i))) ((itemsN a).take j) 0 < 128)) _ ⟨0, rfl, rfl, (by simp [maskL]), (by simp (disch := first | omega | (simp; done) | fail) [wrap64c, if_pos, if_neg, opAnd, opOr, opXor, opDiff, opShr, opBit, hL, hgt, hg1, hf]), (by first | omega | assumption | (simp (disch := first | omega | (simp; done) | fail) [wrap64c, if_pos, if_neg, opAnd, opOr, opXor, opDiff, opShr, opBit, hL, hgt, hg1, hf] <;> omega)), (by simp [maskL])⟩ ?_
  rintro m tm h' hFr ⟨j, rfl, rfl, e5, e11, hj, hm⟩
  simp only [FrameL] at hFr
  obtain ⟨f0_0, f1_0, f9_0, f10_0, -⟩ := hFr
  try simp (disch := first | omega | (simp; done) | fail) [wrap64c, if_pos, if_neg, opAnd, opOr, opXor, opDiff, opShr, opBit, hL, hgt, hg1, hf] at f0_0 f1_0 f9_0 f10_0
  have e0 := f0_0
  have e1 := f1_0
  have e9 := f9_0
  have e10 := f10_0
  by_cases hlt : j < (itemsN a).length
  · obtain ⟨o_x, i_x, c_x, cs_x, own_x, ex_x, es_x, q_x, b_x, g_x, l_x, r_x⟩ := hi1.ints.open ((by simp; omega))
    have z_x : ∀ h2 : i_x < cs_x.length, cs_x[i_x] = _ := fun h2 => r_x 0 ((by simp; omega)) h2
    have hi7 := items_lt (List.getElem_mem hlt)
    have hl7 := items_len a
    have hb := bit_lt7 hi7
    have hd := ndiff128 (a := a) (b := bit (itemsN a)[j]) ha
    have hq := nOr128 (b := bit (itemsN a)[j]) hm (by omega)
    have hs : maskL (fun i => M (ndiff a (bit i))) ((itemsN a).take (j + 1)) 0 = if M (ndiff a (bit (itemsN a)[j])) = true then nOr (maskL (fun i => M (ndiff a (bit i))) ((itemsN a).take j) 0) (bit (itemsN a)[j]) else maskL (fun i => M (ndiff a (bit i))) ((itemsN a).take j) 0 := by rw [List.take_succ_eq_append_getElem hlt]; exact maskL_snoc _ _ _ _
    try simp (disch := first | omega | (simp; done) | fail) [wrap64c, if_pos, if_neg, opAnd, opOr, opXor, opDiff, opShr, opBit, hL, hgt, hg1, hf, e0, e1, e5, e9, e10, e11, hlt, q_x, g_x, l_x, r_x, z_x]
    refine WD_drawC 6 rfl (by kernel_rfl) ?_
    try simp (disch := first | omega | (simp; done) | fail) [wrap64c, if_pos, if_neg, opAnd, opOr, opXor, opDiff, opShr, opBit, hL, hgt, hg1, hf, e0, e1, e5, e9, e10, e11, hlt, q_x, g_x, l_x, r_x, z_x]
    cases hc : M (ndiff a (bit (itemsN a)[j]))
    · rw [hc] at hs
      try simp (disch := first | omega | (simp; done) | fail) [wrap64c, if_pos, if_neg, opAnd, opOr, opXor, opDiff, opShr, opBit, hL, hgt, hg1, hf, e0, e1, e5, e9, e10, e11, hlt, q_x, g_x, l_x, r_x, z_x, hc]
      refine loopK_next _ ?hm ?hf ⟨j + 1, rfl, rfl, (by simp [hs, e5]), (by simp (disch := first | omega | (simp; done) | fail) [wrap64c, if_pos, if_neg, opAnd, opOr, opXor, opDiff, opShr, opBit, hL, hgt, hg1, hf, e0, e1, e5, e9, e10, e11, hlt, q_x, g_x, l_x, r_x, z_x, hc] <;> omega), (by first | omega | assumption | (simp (disch := first | omega | (simp; done) | fail) [wrap64c, if_pos, if_neg, opAnd, opOr, opXor, opDiff, opShr, opBit, hL, hgt, hg1, hf, e0, e1, e5, e9, e10, e11, hlt, q_x, g_x, l_x, r_x, z_x, hc] <;> omega)), (by simpa [hs] using hm)⟩
      (case hm => first | omega | (simp; omega))
      (case hf => simp [FrameL, hL, hgt, hg1, hf, e0, e1, e5, e9, e10, e11, hlt, q_x, g_x, l_x, r_x, z_x, hc, f0_0, f1_0, f9_0, f10_0])
    · rw [hc] at hs
      try simp (disch := first | omega | (simp; done) | fail) [wrap64c, if_pos, if_neg, opAnd, opOr, opXor, opDiff, opShr, opBit, hL, hgt, hg1, hf, e0, e1, e5, e9, e10, e11, hlt, q_x, g_x, l_x, r_x, z_x, hc]
      refine loopK_next _ ?hm ?hf ⟨j + 1, rfl, rfl, (by simp [hs, e5]), (by simp (disch := first | omega | (simp; done) | fail) [wrap64c, if_pos, if_neg, opAnd, opOr, opXor, opDiff, opShr, opBit, hL, hgt, hg1, hf, e0, e1, e5, e9, e10, e11, hlt, q_x, g_x, l_x, r_x, z_x, hc] <;> omega), (by first | omega | assumption | (simp (disch := first | omega | (simp; done) | fail) [wrap64c, if_pos, if_neg, opAnd, opOr, opXor, opDiff, opShr, opBit, hL, hgt, hg1, hf, e0, e1, e5, e9, e10, e11, hlt, q_x, g_x, l_x, r_x, z_x, hc] <;> omega)), (by simpa [hs] using hq)⟩
      (case hm => first | omega | (simp; omega))
      (case hf => simp [FrameL, hL, hgt, hg1, hf, e0, e1, e5, e9, e10, e11, hlt, q_x, g_x, l_x, r_x, z_x, hc, f0_0, f1_0, f9_0, f10_0])
  · try simp (disch := first | omega | (simp; done) | fail) [wrap64c, if_pos, if_neg, opAnd, opOr, opXor, opDiff, opShr, opBit, hL, hgt, hg1, hf, e0, e1, e5, e9, e10, e11, hlt]
    exact done_ret rfl (by simp [← innerN_items, List.take_of_length_le (show (itemsN a).length ≤ j by omega), ha1.1])
theorem imOuter_ok (h : Hp) (o : Nat) (M : Nat → Bool) (own ex : Bool) (es a : Nat) (ho : o < h.next) (hg : h.get o = .cells (famC M) own ex es) (ha : a < 128) :
    CallOK Try.prog 117 #[.pointer (some ⟨o, 0, none⟩), .int .i64 (a : Int)] h (.int .i64 ((outerN M 7 a : Nat) : Int)) h := by
  refine callY_P 31 _ [.tmp 4] Try.func117 rfl rfl rfl (by first | rfl | simp) ?_
  have hg1 := hg
  have hf := famC_getD M
  try simp (disch := first | omega | (simp; done) | fail) [wrap64c, if_pos, if_neg, opAnd, opOr, opXor, opDiff, opShr, opBit, hg1, hf]
  refine WD_loopC [0, 1] (fun m tm h' => ∃ i, m = 7 - i ∧ h = h' ∧ tm 5 = .int .i64 ((maskN (fun i => !a.testBit i && M (nOr a (bit i))) i : Nat) : Int) ∧ tm 7 = .int .i64 (i : Int) ∧ (i ≤ 7)) _ ⟨0, rfl, rfl, (by simp [maskN]), (by simp (disch := first | omega | (simp; done) | fail) [wrap64c, if_pos, if_neg, opAnd, opOr, opXor, opDiff, opShr, opBit, hg1, hf]), (by first | omega | assumption | (simp (disch := first | omega | (simp; done) | fail) [wrap64c, if_pos, if_neg, opAnd, opOr, opXor, opDiff, opShr, opBit, hg1, hf] <;> omega))⟩ ?_
  rintro m tm h' hFr ⟨i, rfl, rfl, e5, e7, hi⟩
  simp only [FrameL] at hFr
  obtain ⟨f0_0, f1_0, -⟩ := hFr
  try simp (disch := first | omega | (simp; done) | fail) [wrap64c, if_pos, if_neg, opAnd, opOr, opXor, opDiff, opShr, opBit, hg1, hf] at f0_0 f1_0
  have e0 := f0_0
  have e1 := f1_0
  by_cases hlt : i < 7
  · have hb := bit_lt7 hlt
    have hx := nOr128 (a := a) (b := bit i) ha (by omega)
    have hm := maskN_lt (fun i => !a.testBit i && M (nOr a (bit i))) i
    have h1 := nShr_le a i
    have h2 := nShr_and01 a i
    cases hb : a.testBit i
    · have h3 : nAnd (nShr a i) 1 = 0 := by rw [h2, hb]; rfl
      try simp (disch := first | omega | (simp; done) | fail) [wrap64c, if_pos, if_neg, opAnd, opOr, opXor, opDiff, opShr, opBit, hg1, hf, e0, e1, e5, e7, hlt, hb, h3]
      refine WD_drawC 12 rfl (by kernel_rfl) ?_
      try simp (disch := first | omega | (simp; done) | fail) [wrap64c, if_pos, if_neg, opAnd, opOr, opXor, opDiff, opShr, opBit, hg1, hf, e0, e1, e5, e7, hlt, hb, h3]
      cases hc : M (nOr a (bit i))
      · try simp (disch := first | omega | (simp; done) | fail) [wrap64c, if_pos, if_neg, opAnd, opOr, opXor, opDiff, opShr, opBit, hg1, hf, e0, e1, e5, e7, hlt, hb, h3, hc]
        refine loopK_next _ ?hm ?hf ⟨i + 1, rfl, rfl, (by simp [maskN, hb, hc, e5]), (by simp (disch := first | omega | (simp; done) | fail) [wrap64c, if_pos, if_neg, opAnd, opOr, opXor, opDiff, opShr, opBit, hg1, hf, e0, e1, e5, e7, hlt, hb, h3, hc] <;> omega), (by first | omega | assumption | (simp (disch := first | omega | (simp; done) | fail) [wrap64c, if_pos, if_neg, opAnd, opOr, opXor, opDiff, opShr, opBit, hg1, hf, e0, e1, e5, e7, hlt, hb, h3, hc] <;> omega))⟩
        (case hm => first | omega | (simp; omega))
        (case hf => simp [FrameL, hg1, hf, e0, e1, e5, e7, hlt, hb, h3, hc, f0_0, f1_0])
      · try simp (disch := first | omega | (simp; done) | fail) [wrap64c, if_pos, if_neg, opAnd, opOr, opXor, opDiff, opShr, opBit, hg1, hf, e0, e1, e5, e7, hlt, hb, h3, hc]
        refine loopK_next _ ?hm ?hf ⟨i + 1, rfl, rfl, (by simp [maskN, hb, hc, e5]), (by simp (disch := first | omega | (simp; done) | fail) [wrap64c, if_pos, if_neg, opAnd, opOr, opXor, opDiff, opShr, opBit, hg1, hf, e0, e1, e5, e7, hlt, hb, h3, hc] <;> omega), (by first | omega | assumption | (simp (disch := first | omega | (simp; done) | fail) [wrap64c, if_pos, if_neg, opAnd, opOr, opXor, opDiff, opShr, opBit, hg1, hf, e0, e1, e5, e7, hlt, hb, h3, hc] <;> omega))⟩
        (case hm => first | omega | (simp; omega))
        (case hf => simp [FrameL, hg1, hf, e0, e1, e5, e7, hlt, hb, h3, hc, f0_0, f1_0])
    · have h3 : nAnd (nShr a i) 1 = 1 := by rw [h2, hb]; rfl
      try simp (disch := first | omega | (simp; done) | fail) [wrap64c, if_pos, if_neg, opAnd, opOr, opXor, opDiff, opShr, opBit, hg1, hf, e0, e1, e5, e7, hlt, hb, h3]
      refine WD_drawC 12 rfl (by kernel_rfl) ?_
      try simp (disch := first | omega | (simp; done) | fail) [wrap64c, if_pos, if_neg, opAnd, opOr, opXor, opDiff, opShr, opBit, hg1, hf, e0, e1, e5, e7, hlt, hb, h3]
      refine loopK_next _ ?hm ?hf ⟨i + 1, rfl, rfl, (by simp [maskN, hb, e5]), (by simp (disch := first | omega | (simp; done) | fail) [wrap64c, if_pos, if_neg, opAnd, opOr, opXor, opDiff, opShr, opBit, hg1, hf, e0, e1, e5, e7, hlt, hb, h3] <;> omega), (by first | omega | assumption | (simp (disch := first | omega | (simp; done) | fail) [wrap64c, if_pos, if_neg, opAnd, opOr, opXor, opDiff, opShr, opBit, hg1, hf, e0, e1, e5, e7, hlt, hb, h3] <;> omega))⟩
      (case hm => first | omega | (simp; omega))
      (case hf => simp [FrameL, hg1, hf, e0, e1, e5, e7, hlt, hb, h3, f0_0, f1_0])
  · try simp (disch := first | omega | (simp; done) | fail) [wrap64c, if_pos, if_neg, opAnd, opOr, opXor, opDiff, opShr, opBit, hg1, hf, e0, e1, e5, e7, hlt]
    exact done_ret rfl (by simp [outerN, show i = 7 by omega])
theorem spB_mk {n : Nat} {xs : List Nat} (h1 : 1 ≤ n) (h7 : n ≤ 7) (hs : xs.Pairwise (· < ·)) (hlt : ∀ x ∈ xs, x < bit n) (c4 : fam xs 0 = true) (c5 : fam xs (bit n - 1) = true)
    (hx : ∀ i (h : i < xs.length), (xs[i] ≠ 0 → innerN (fam xs) xs[i] ≠ 0) ∧ ∀ k (h : k < xs.length), fam xs (nOr xs[i] xs[k]) = true) : spB n (toN xs) = true := by
  refine spB_of ⟨h1, h7, hs, hlt, of_decide_eq_true c4, of_decide_eq_true c5, fun x hm => ?_, fun x hm y hn => ?_⟩
  · obtain ⟨i, hi, rfl⟩ := List.getElem_of_mem hm
    exact (hx i hi).1
  · obtain ⟨i, hi, rfl⟩ := List.getElem_of_mem hm
    obtain ⟨k, hk, rfl⟩ := List.getElem_of_mem hn
    exact of_decide_eq_true ((hx i hi).2 k hk)
theorem spB_no {n : Nat} {xs : List Nat} (h : SpGood n xs → False) : spB n (toN xs) = false := spB_false fun n' xs' e1 e2 g => by
  have e3 : n = n' := by omega
  have e4 := toN_inj.1 e2
  subst e3 e4
  exact h g
theorem spB_noX {n : Nat} {X : List Int} (h : Rising X 0 ((bit n : Nat) - 1 : Int) → False) : spB n X = false := spB_false fun n' xs' e1 e2 g => by
  have e3 : n = n' := by omega
  subst e3
  exact h (e2 ▸ g.rising)
theorem spGood_ok (h : Hp) (v : Value) (N : Int) (X : List Int) (hv : Space h v N X) (hl : X.length < 2 ^ 40) : CallOK Try.prog 133 #[v] h (.bool (spB N X)) h := by
  refine callY_P 76 _ [.tmp 2] Try.func133 rfl rfl rfl (by first | rfl | simp) ?_
  obtain ⟨b, rfl, hX⟩ := hv
  refine WD_first ?_
  try simp (disch := first | omega | (simp; done) | fail) [wrap64c, if_pos, if_neg, opAnd, opOr, opXor, opDiff, opShr, opBit]
  refine stopK_heap fun h0 q_h0 => ?_
  refine stopK_go ?_
  have g_h0 : h0.get h.next = .cells [.int .i64 N, b] true true 1 := by simp [q_h0]
  have k_h0 : Adds h h0 := by rw [q_h0]; exact (by first | exact aK | exact kK)
  have n_h0 : h.next < h0.next := by simp [q_h0]; try omega
  have hX0 := hX.keep k_h0.1
  have hL := hX0.lenD
  have K0 := k_h0.1
  try simp (disch := first | omega | (simp; done) | fail) [wrap64c, if_pos, if_neg, opAnd, opOr, opXor, opDiff, opShr, opBit, g_h0, hL]
  refine WD_drawC 23 rfl (by kernel_rfl) ?_
  try simp (disch := first | omega | (simp; done) | fail) [wrap64c, if_pos, if_neg, opAnd, opOr, opXor, opDiff, opShr, opBit, g_h0, hL]
  refine callP_c (by simp) (by simp) ?ha (spItems_ok h0 N) ?hadd ?_
  (case ha => simp (disch := first | omega | (simp; done) | fail) [wrap64c, if_pos, if_neg, opAnd, opOr, opXor, opDiff, opShr, opBit, g_h0, hL])
  (case hadd => first | assumption | exact adds_self _ | (simp; done))
  cases c1 : sizeB N
  · try simp (disch := first | omega | (simp; done) | fail) [wrap64c, if_pos, if_neg, opAnd, opOr, opXor, opDiff, opShr, opBit, g_h0, hL, c1]
    have : spB N X = false := spB_false (fun n xs e1 e2 g => by subst e1; rw [sizeB_of g.n1 g.n7] at c1; cases c1)
    exact done_ret rfl (by simp [this, K0])
  · obtain ⟨n, hN, n1, n7⟩ := sizeB_true c1
    have hb := bit7 n7
    by_cases c2 : (bit n : Int) < (X.length : Int)
    · try simp (disch := first | omega | (simp; done) | fail) [wrap64c, if_pos, if_neg, opAnd, opOr, opXor, opDiff, opShr, opBit, g_h0, hL, c1, hN, c2]
      have : spB N X = false := hN ▸ spB_noX (fun hr => by obtain ⟨xs, e, _, _, hle⟩ := hr.nats; rw [e, toN_length] at c2; omega)
      exact done_ret rfl (by simp [this, K0])
    · try simp (disch := first | omega | (simp; done) | fail) [wrap64c, if_pos, if_neg, opAnd, opOr, opXor, opDiff, opShr, opBit, g_h0, hL, c1, hN, c2]
      refine callP_c (by simp) (by simp) ?ha (l1Rising_ok h0 b X 0 ((bit n : Nat) - 1) hX0) ?hadd ?_
      (case ha => simp (disch := first | omega | (simp; done) | fail) [wrap64c, if_pos, if_neg, opAnd, opOr, opXor, opDiff, opShr, opBit, g_h0, hL, c1, hN, c2])
      (case hadd => first | assumption | exact adds_self _ | (simp; done))
      cases c3 : risB X 0 ((bit n : Nat) - 1 : Int)
      · try simp (disch := first | omega | (simp; done) | fail) [wrap64c, if_pos, if_neg, opAnd, opOr, opXor, opDiff, opShr, opBit, g_h0, hL, c1, hN, c2, c3]
        have : spB N X = false := hN ▸ spB_noX (fun hr => by rw [risB_iff.2 hr] at c3; cases c3)
        exact done_ret rfl (by simp [this, K0])
      · try simp (disch := first | omega | (simp; done) | fail) [wrap64c, if_pos, if_neg, opAnd, opOr, opXor, opDiff, opShr, opBit, g_h0, hL, c1, hN, c2, c3]
        obtain ⟨xs, hXe, hs, hlt, hle⟩ := (risB_true c3).nats
        have hX1 : Ints h0 b (toN xs) := hXe ▸ hX0
        have hgt := toN_get xs
        have hln := toN_length xs
        have hL1 := hX1.lenD
        have hXl : X.length = xs.length := by rw [hXe, toN_length]
        refine WD_drawC 14 rfl (by kernel_rfl) ?_
        try simp (disch := first | omega | (simp; done) | fail) [wrap64c, if_pos, if_neg, opAnd, opOr, opXor, opDiff, opShr, opBit, g_h0, hL, c1, hN, c2, c3, hgt, hL1, hXl]
        refine callP_c (by simp) (by simp) ?ha (spHasN_ok h0 b xs 0 hX1 (by omega) hs) ?hadd ?_
        (case ha => simp (disch := first | omega | (simp; done) | fail) [wrap64c, if_pos, if_neg, opAnd, opOr, opXor, opDiff, opShr, opBit, g_h0, hL, c1, hN, c2, c3, hgt, hL1, hXl])
        (case hadd => first | assumption | exact adds_self _ | (simp; done))
        cases c4 : fam xs 0
        · try simp (disch := first | omega | (simp; done) | fail) [wrap64c, if_pos, if_neg, opAnd, opOr, opXor, opDiff, opShr, opBit, g_h0, hL, c1, hN, c2, c3, hgt, hL1, hXl, c4]
          have : spB N X = false := hN ▸ hXe ▸ spB_no fun g => by have := decide_eq_true g.zero; unfold fam at c4; rw [this] at c4; cases c4
          exact done_ret rfl (by simp [this, K0])
        · have hf : ((bit n : Nat) : Int) - 1 = ((bit n - 1 : Nat) : Int) := by omega
          try simp (disch := first | omega | (simp; done) | fail) [wrap64c, if_pos, if_neg, opAnd, opOr, opXor, opDiff, opShr, opBit, g_h0, hL, c1, hN, c2, c3, hgt, hL1, hXl, c4, hf]
          refine callP_c (by simp) (by simp) ?ha (spHasN_ok h0 b xs (bit n - 1) hX1 (by omega) hs) ?hadd ?_
          (case ha => simp (disch := first | omega | (simp; done) | fail) [wrap64c, if_pos, if_neg, opAnd, opOr, opXor, opDiff, opShr, opBit, g_h0, hL, c1, hN, c2, c3, hgt, hL1, hXl, c4, hf])
          (case hadd => first | assumption | exact adds_self _ | (simp; done))
          cases c5 : fam xs (bit n - 1)
          · try simp (disch := first | omega | (simp; done) | fail) [wrap64c, if_pos, if_neg, opAnd, opOr, opXor, opDiff, opShr, opBit, g_h0, hL, c1, hN, c2, c3, hgt, hL1, hXl, c4, hf, c5]
            have : spB N X = false := hN ▸ hXe ▸ spB_no fun g => by have := decide_eq_true g.full; unfold fam at c5; rw [this] at c5; cases c5
            exact done_ret rfl (by simp [this, K0])
          · try simp (disch := first | omega | (simp; done) | fail) [wrap64c, if_pos, if_neg, opAnd, opOr, opXor, opDiff, opShr, opBit, g_h0, hL, c1, hN, c2, c3, hgt, hL1, hXl, c4, hf, c5]
            refine WD_loopC [1, 45, 46] (fun m tm h' => ∃ j, m = xs.length - j ∧ h0 = h' ∧ tm 47 = .int .i64 (j : Int) ∧ (j ≤ xs.length) ∧ (∀ i (h1 : i < xs.length), i < j → (xs[i] ≠ 0 → innerN (fam xs) xs[i] ≠ 0) ∧ ∀ k (h : k < xs.length), fam xs (nOr xs[i] xs[k]) = true)) _ ⟨0, rfl, rfl, (by simp (disch := first | omega | (simp; done) | fail) [wrap64c, if_pos, if_neg, opAnd, opOr, opXor, opDiff, opShr, opBit, g_h0, hL, c1, hN, c2, c3, hgt, hL1, hXl, c4, hf, c5]), (by first | omega | assumption | (simp (disch := first | omega | (simp; done) | fail) [wrap64c, if_pos, if_neg, opAnd, opOr, opXor, opDiff, opShr, opBit, g_h0, hL, c1, hN, c2, c3, hgt, hL1, hXl, c4, hf, c5] <;> omega)), (by intro i h1 h0; omega)⟩ ?_
            rintro m tm h' hFr ⟨j, rfl, rfl, e47, hj, hx⟩
            simp only [FrameL] at hFr
            obtain ⟨f1_0, f45_0, f46_0, -⟩ := hFr
            try simp (disch := first | omega | (simp; done) | fail) [wrap64c, if_pos, if_neg, opAnd, opOr, opXor, opDiff, opShr, opBit, g_h0, hL, c1, hN, c2, c3, hgt, hL1, hXl, c4, hf, c5] at f1_0 f45_0 f46_0
            have e1 := f1_0
            have e45 := f45_0
            have e46 := f46_0
            by_cases hlj : j < xs.length
            · obtain ⟨o_x, i_x, c_x, cs_x, own_x, ex_x, es_x, q_x, b_x, g_x, l_x, r_x⟩ := hX1.open ((by simp; omega))
              have z_x : ∀ h2 : i_x < cs_x.length, cs_x[i_x] = _ := fun h2 => r_x 0 ((by simp; omega)) h2
              have hxj := hlt _ (List.getElem_mem hlj)
              by_cases z : xs[j] = 0
              · have hne : xs[j] ≠ 0 → innerN (fam xs) xs[j] ≠ 0 := fun q => absurd z q
                have z1 : ¬ (0 : Nat) < xs[j] := by omega
                try simp (disch := first | omega | (simp; done) | fail) [wrap64c, if_pos, if_neg, opAnd, opOr, opXor, opDiff, opShr, opBit, g_h0, hL, c1, hN, c2, c3, hgt, hL1, hXl, c4, hf, c5, e1, e45, e46, e47, hlj, q_x, g_x, l_x, r_x, z_x, z1]
                refine WD_loopC [1, 4, 45, 46, 47, 61, 62] (fun m tm h' => ∃ k, m = xs.length - k ∧ h0 = h' ∧ tm 63 = .int .i64 (k : Int) ∧ (k ≤ xs.length) ∧ (∀ i (h1 : i < xs.length), i < k → fam xs (nOr xs[j] xs[i]) = true)) _ ⟨0, rfl, rfl, (by simp (disch := first | omega | (simp; done) | fail) [wrap64c, if_pos, if_neg, opAnd, opOr, opXor, opDiff, opShr, opBit, g_h0, hL, c1, hN, c2, c3, hgt, hL1, hXl, c4, hf, c5, e1, e45, e46, e47, hlj, q_x, g_x, l_x, r_x, z_x, z1]), (by first | omega | assumption | (simp (disch := first | omega | (simp; done) | fail) [wrap64c, if_pos, if_neg, opAnd, opOr, opXor, opDiff, opShr, opBit, g_h0, hL, c1, hN, c2, c3, hgt, hL1, hXl, c4, hf, c5, e1, e45, e46, e47, hlj, q_x, g_x, l_x, r_x, z_x, z1] <;> omega)), (by intro i h1 h0; omega)⟩ ?_
                rintro m tm h' hFr ⟨k, rfl, rfl, e63, hk, hy⟩
                simp only [FrameL] at hFr
                obtain ⟨f1_1, f4_1, f45_1, f46_1, f47_1, f61_1, f62_1, -⟩ := hFr
                try simp (disch := first | omega | (simp; done) | fail) [wrap64c, if_pos, if_neg, opAnd, opOr, opXor, opDiff, opShr, opBit, g_h0, hL, c1, hN, c2, c3, hgt, hL1, hXl, c4, hf, c5, e1, e45, e46, e47, hlj, q_x, g_x, l_x, r_x, z_x, z1] at f1_1 f4_1 f45_1 f46_1 f47_1 f61_1 f62_1
                have e1 := f1_1
                have e4 := f4_1
                have e45 := f45_1
                have e46 := f46_1
                have e47 := f47_1
                have e61 := f61_1
                have e62 := f62_1
                by_cases hlk : k < xs.length
                · obtain ⟨o_y, i_y, c_y, cs_y, own_y, ex_y, es_y, q_y, b_y, g_y, l_y, r_y⟩ := hX1.open ((by simp; omega))
                  have z_y : ∀ h2 : i_y < cs_y.length, cs_y[i_y] = _ := fun h2 => r_y 0 ((by simp; omega)) h2
                  have hxk := hlt _ (List.getElem_mem hlk)
                  try simp (disch := first | omega | (simp; done) | fail) [wrap64c, if_pos, if_neg, opAnd, opOr, opXor, opDiff, opShr, opBit, g_h0, hL, c1, hN, c2, c3, hgt, hL1, hXl, c4, hf, c5, e1, e45, e46, e47, hlj, q_x, g_x, l_x, r_x, z_x, z1, e4, e61, e62, e63, hlk, q_y, g_y, l_y, r_y, z_y]
                  refine callG_c (by simp) (by simp) ?ha (spHasN_ok h0 b xs (nOr xs[j] xs[k]) hX1 (by omega) hs) ?_
                  (case ha => simp (disch := first | omega | (simp; done) | fail) [wrap64c, if_pos, if_neg, opAnd, opOr, opXor, opDiff, opShr, opBit, g_h0, hL, c1, hN, c2, c3, hgt, hL1, hXl, c4, hf, c5, e1, e45, e46, e47, hlj, q_x, g_x, l_x, r_x, z_x, z1, e4, e61, e62, e63, hlk, q_y, g_y, l_y, r_y, z_y])
                  cases c7 : fam xs (nOr xs[j] xs[k])
                  · try simp (disch := first | omega | (simp; done) | fail) [wrap64c, if_pos, if_neg, opAnd, opOr, opXor, opDiff, opShr, opBit, g_h0, hL, c1, hN, c2, c3, hgt, hL1, hXl, c4, hf, c5, e1, e45, e46, e47, hlj, q_x, g_x, l_x, r_x, z_x, z1, e4, e61, e62, e63, hlk, q_y, g_y, l_y, r_y, z_y, c7]
                    have : spB N X = false := hN ▸ hXe ▸ spB_no fun g => by
                      have := decide_eq_true (g.uni _ (List.getElem_mem hlj) _ (List.getElem_mem hlk)); unfold fam at c7; rw [this] at c7; cases c7
                    exact done_ret rfl (by simp [this, K0])
                  · try simp (disch := first | omega | (simp; done) | fail) [wrap64c, if_pos, if_neg, opAnd, opOr, opXor, opDiff, opShr, opBit, g_h0, hL, c1, hN, c2, c3, hgt, hL1, hXl, c4, hf, c5, e1, e45, e46, e47, hlj, q_x, g_x, l_x, r_x, z_x, z1, e4, e61, e62, e63, hlk, q_y, g_y, l_y, r_y, z_y, c7]
                    refine loopK_next _ ?hm ?hf ⟨k + 1, rfl, rfl, (by simp (disch := first | omega | (simp; done) | fail) [wrap64c, if_pos, if_neg, opAnd, opOr, opXor, opDiff, opShr, opBit, g_h0, hL, c1, hN, c2, c3, hgt, hL1, hXl, c4, hf, c5, e1, e45, e46, e47, hlj, q_x, g_x, l_x, r_x, z_x, z1, e4, e61, e62, e63, hlk, q_y, g_y, l_y, r_y, z_y, c7] <;> omega), (by first | omega | assumption | (simp (disch := first | omega | (simp; done) | fail) [wrap64c, if_pos, if_neg, opAnd, opOr, opXor, opDiff, opShr, opBit, g_h0, hL, c1, hN, c2, c3, hgt, hL1, hXl, c4, hf, c5, e1, e45, e46, e47, hlj, q_x, g_x, l_x, r_x, z_x, z1, e4, e61, e62, e63, hlk, q_y, g_y, l_y, r_y, z_y, c7] <;> omega)), ?c_hy⟩
                    (case hm => first | omega | (simp; omega))
                    (case hf => simp [FrameL, g_h0, hL, c1, hN, c2, c3, hgt, hL1, hXl, c4, hf, c5, e1, e45, e46, e47, hlj, q_x, g_x, l_x, r_x, z_x, z1, e4, e61, e62, e63, hlk, q_y, g_y, l_y, r_y, z_y, c7, f1_1, f4_1, f45_1, f46_1, f47_1, f61_1, f62_1])
                    case c_hy =>
                      exact (fun i h1 hi => by
                        by_cases e : i = k
                        · subst e; exact c7
                        · exact hy i h1 (by omega))
                · try simp (disch := first | omega | (simp; done) | fail) [wrap64c, if_pos, if_neg, opAnd, opOr, opXor, opDiff, opShr, opBit, g_h0, hL, c1, hN, c2, c3, hgt, hL1, hXl, c4, hf, c5, e1, e45, e46, e47, hlj, q_x, g_x, l_x, r_x, z_x, z1, e4, e61, e62, e63, hlk]
                  refine loopK_next _ ?hm ?hf ⟨j + 1, rfl, rfl, (by simp (disch := first | omega | (simp; done) | fail) [wrap64c, if_pos, if_neg, opAnd, opOr, opXor, opDiff, opShr, opBit, g_h0, hL, c1, hN, c2, c3, hgt, hL1, hXl, c4, hf, c5, e1, e45, e46, e47, hlj, q_x, g_x, l_x, r_x, z_x, z1, e4, e61, e62, e63, hlk] <;> omega), (by first | omega | assumption | (simp (disch := first | omega | (simp; done) | fail) [wrap64c, if_pos, if_neg, opAnd, opOr, opXor, opDiff, opShr, opBit, g_h0, hL, c1, hN, c2, c3, hgt, hL1, hXl, c4, hf, c5, e1, e45, e46, e47, hlj, q_x, g_x, l_x, r_x, z_x, z1, e4, e61, e62, e63, hlk] <;> omega)), ?c_hx⟩
                  (case hm => first | omega | (simp; omega))
                  (case hf => simp [FrameL, g_h0, hL, c1, hN, c2, c3, hgt, hL1, hXl, c4, hf, c5, e1, e45, e46, e47, hlj, q_x, g_x, l_x, r_x, z_x, z1, e4, e61, e62, e63, hlk, f1_0, f45_0, f46_0])
                  case c_hx =>
                    exact (fun i h1 hi => by
                      by_cases e : i = j
                      · subst e; exact ⟨hne, fun k hk' => hy k hk' (by omega)⟩
                      · exact hx i h1 (by omega))
              · have z1 : 0 < xs[j] := by omega
                have hin := maskN_lt (fun i => xs[j].testBit i && fam xs (nXor xs[j] (bit i))) 7
                try simp (disch := first | omega | (simp; done) | fail) [wrap64c, if_pos, if_neg, opAnd, opOr, opXor, opDiff, opShr, opBit, g_h0, hL, c1, hN, c2, c3, hgt, hL1, hXl, c4, hf, c5, e1, e45, e46, e47, hlj, q_x, g_x, l_x, r_x, z_x, z1]
                refine callG_c (by simp) (by simp) ?ha (spInner_ok h0 b xs xs[j] hX1 (by omega) hs (by omega)) ?_
                (case ha => simp (disch := first | omega | (simp; done) | fail) [wrap64c, if_pos, if_neg, opAnd, opOr, opXor, opDiff, opShr, opBit, g_h0, hL, c1, hN, c2, c3, hgt, hL1, hXl, c4, hf, c5, e1, e45, e46, e47, hlj, q_x, g_x, l_x, r_x, z_x, z1])
                by_cases c6 : innerN (fam xs) xs[j] = 0
                · try simp (disch := first | omega | (simp; done) | fail) [wrap64c, if_pos, if_neg, opAnd, opOr, opXor, opDiff, opShr, opBit, g_h0, hL, c1, hN, c2, c3, hgt, hL1, hXl, c4, hf, c5, e1, e45, e46, e47, hlj, q_x, g_x, l_x, r_x, z_x, z1, c6]
                  have : spB N X = false := hN ▸ hXe ▸ spB_no fun g => g.inn _ (List.getElem_mem hlj) z c6
                  exact done_ret rfl (by simp [this, K0])
                · have hne : xs[j] ≠ 0 → innerN (fam xs) xs[j] ≠ 0 := fun _ => c6
                  try simp (disch := first | omega | (simp; done) | fail) [wrap64c, if_pos, if_neg, opAnd, opOr, opXor, opDiff, opShr, opBit, g_h0, hL, c1, hN, c2, c3, hgt, hL1, hXl, c4, hf, c5, e1, e45, e46, e47, hlj, q_x, g_x, l_x, r_x, z_x, z1, c6]
                  refine WD_loopC [1, 4, 45, 46, 47, 61, 62] (fun m tm h' => ∃ k, m = xs.length - k ∧ h0 = h' ∧ tm 63 = .int .i64 (k : Int) ∧ (k ≤ xs.length) ∧ (∀ i (h1 : i < xs.length), i < k → fam xs (nOr xs[j] xs[i]) = true)) _ ⟨0, rfl, rfl, (by simp (disch := first | omega | (simp; done) | fail) [wrap64c, if_pos, if_neg, opAnd, opOr, opXor, opDiff, opShr, opBit, g_h0, hL, c1, hN, c2, c3, hgt, hL1, hXl, c4, hf, c5, e1, e45, e46, e47, hlj, q_x, g_x, l_x, r_x, z_x, z1, c6]), (by first | omega | assumption | (simp (disch := first | omega | (simp; done) | fail) [wrap64c, if_pos, if_neg, opAnd, opOr, opXor, opDiff, opShr, opBit, g_h0, hL, c1, hN, c2, c3, hgt, hL1, hXl, c4, hf, c5, e1, e45, e46, e47, hlj, q_x, g_x, l_x, r_x, z_x, z1, c6] <;> omega)), (by intro i h1 h0; omega)⟩ ?_
                  rintro m tm h' hFr ⟨k, rfl, rfl, e63, hk, hy⟩
                  simp only [FrameL] at hFr
                  obtain ⟨f1_2, f4_2, f45_2, f46_2, f47_2, f61_2, f62_2, -⟩ := hFr
                  try simp (disch := first | omega | (simp; done) | fail) [wrap64c, if_pos, if_neg, opAnd, opOr, opXor, opDiff, opShr, opBit, g_h0, hL, c1, hN, c2, c3, hgt, hL1, hXl, c4, hf, c5, e1, e45, e46, e47, hlj, q_x, g_x, l_x, r_x, z_x, z1, c6] at f1_2 f4_2 f45_2 f46_2 f47_2 f61_2 f62_2
                  have e1 := f1_2
                  have e4 := f4_2
                  have e45 := f45_2
                  have e46 := f46_2
                  have e47 := f47_2
                  have e61 := f61_2
                  have e62 := f62_2
                  by_cases hlk : k < xs.length
                  · obtain ⟨o_y, i_y, c_y, cs_y, own_y, ex_y, es_y, q_y, b_y, g_y, l_y, r_y⟩ := hX1.open ((by simp; omega))
                    have z_y : ∀ h2 : i_y < cs_y.length, cs_y[i_y] = _ := fun h2 => r_y 0 ((by simp; omega)) h2
                    have hxk := hlt _ (List.getElem_mem hlk)
                    try simp (disch := first | omega | (simp; done) | fail) [wrap64c, if_pos, if_neg, opAnd, opOr, opXor, opDiff, opShr, opBit, g_h0, hL, c1, hN, c2, c3, hgt, hL1, hXl, c4, hf, c5, e1, e45, e46, e47, hlj, q_x, g_x, l_x, r_x, z_x, z1, c6, e4, e61, e62, e63, hlk, q_y, g_y, l_y, r_y, z_y]
                    refine callG_c (by simp) (by simp) ?ha (spHasN_ok h0 b xs (nOr xs[j] xs[k]) hX1 (by omega) hs) ?_
                    (case ha => simp (disch := first | omega | (simp; done) | fail) [wrap64c, if_pos, if_neg, opAnd, opOr, opXor, opDiff, opShr, opBit, g_h0, hL, c1, hN, c2, c3, hgt, hL1, hXl, c4, hf, c5, e1, e45, e46, e47, hlj, q_x, g_x, l_x, r_x, z_x, z1, c6, e4, e61, e62, e63, hlk, q_y, g_y, l_y, r_y, z_y])
                    cases c7 : fam xs (nOr xs[j] xs[k])
                    · try simp (disch := first | omega | (simp; done) | fail) [wrap64c, if_pos, if_neg, opAnd, opOr, opXor, opDiff, opShr, opBit, g_h0, hL, c1, hN, c2, c3, hgt, hL1, hXl, c4, hf, c5, e1, e45, e46, e47, hlj, q_x, g_x, l_x, r_x, z_x, z1, c6, e4, e61, e62, e63, hlk, q_y, g_y, l_y, r_y, z_y, c7]
                      have : spB N X = false := hN ▸ hXe ▸ spB_no fun g => by
                        have := decide_eq_true (g.uni _ (List.getElem_mem hlj) _ (List.getElem_mem hlk)); unfold fam at c7; rw [this] at c7; cases c7
                      exact done_ret rfl (by simp [this, K0])
                    · try simp (disch := first | omega | (simp; done) | fail) [wrap64c, if_pos, if_neg, opAnd, opOr, opXor, opDiff, opShr, opBit, g_h0, hL, c1, hN, c2, c3, hgt, hL1, hXl, c4, hf, c5, e1, e45, e46, e47, hlj, q_x, g_x, l_x, r_x, z_x, z1, c6, e4, e61, e62, e63, hlk, q_y, g_y, l_y, r_y, z_y, c7]
                      refine loopK_next _ ?hm ?hf ⟨k + 1, rfl, rfl, (by simp (disch := first | omega | (simp; done) | fail) [wrap64c, if_pos, if_neg, opAnd, opOr, opXor, opDiff, opShr, opBit, g_h0, hL, c1, hN, c2, c3, hgt, hL1, hXl, c4, hf, c5, e1, e45, e46, e47, hlj, q_x, g_x, l_x, r_x, z_x, z1, c6, e4, e61, e62, e63, hlk, q_y, g_y, l_y, r_y, z_y, c7] <;> omega), (by first | omega | assumption | (simp (disch := first | omega | (simp; done) | fail) [wrap64c, if_pos, if_neg, opAnd, opOr, opXor, opDiff, opShr, opBit, g_h0, hL, c1, hN, c2, c3, hgt, hL1, hXl, c4, hf, c5, e1, e45, e46, e47, hlj, q_x, g_x, l_x, r_x, z_x, z1, c6, e4, e61, e62, e63, hlk, q_y, g_y, l_y, r_y, z_y, c7] <;> omega)), ?c_hy⟩
                      (case hm => first | omega | (simp; omega))
                      (case hf => simp [FrameL, g_h0, hL, c1, hN, c2, c3, hgt, hL1, hXl, c4, hf, c5, e1, e45, e46, e47, hlj, q_x, g_x, l_x, r_x, z_x, z1, c6, e4, e61, e62, e63, hlk, q_y, g_y, l_y, r_y, z_y, c7, f1_2, f4_2, f45_2, f46_2, f47_2, f61_2, f62_2])
                      case c_hy =>
                        exact (fun i h1 hi => by
                          by_cases e : i = k
                          · subst e; exact c7
                          · exact hy i h1 (by omega))
                  · try simp (disch := first | omega | (simp; done) | fail) [wrap64c, if_pos, if_neg, opAnd, opOr, opXor, opDiff, opShr, opBit, g_h0, hL, c1, hN, c2, c3, hgt, hL1, hXl, c4, hf, c5, e1, e45, e46, e47, hlj, q_x, g_x, l_x, r_x, z_x, z1, c6, e4, e61, e62, e63, hlk]
                    refine loopK_next _ ?hm ?hf ⟨j + 1, rfl, rfl, (by simp (disch := first | omega | (simp; done) | fail) [wrap64c, if_pos, if_neg, opAnd, opOr, opXor, opDiff, opShr, opBit, g_h0, hL, c1, hN, c2, c3, hgt, hL1, hXl, c4, hf, c5, e1, e45, e46, e47, hlj, q_x, g_x, l_x, r_x, z_x, z1, c6, e4, e61, e62, e63, hlk] <;> omega), (by first | omega | assumption | (simp (disch := first | omega | (simp; done) | fail) [wrap64c, if_pos, if_neg, opAnd, opOr, opXor, opDiff, opShr, opBit, g_h0, hL, c1, hN, c2, c3, hgt, hL1, hXl, c4, hf, c5, e1, e45, e46, e47, hlj, q_x, g_x, l_x, r_x, z_x, z1, c6, e4, e61, e62, e63, hlk] <;> omega)), ?c_hx⟩
                    (case hm => first | omega | (simp; omega))
                    (case hf => simp [FrameL, g_h0, hL, c1, hN, c2, c3, hgt, hL1, hXl, c4, hf, c5, e1, e45, e46, e47, hlj, q_x, g_x, l_x, r_x, z_x, z1, c6, e4, e61, e62, e63, hlk, f1_0, f45_0, f46_0])
                    case c_hx =>
                      exact (fun i h1 hi => by
                        by_cases e : i = j
                        · subst e; exact ⟨hne, fun k hk' => hy k hk' (by omega)⟩
                        · exact hx i h1 (by omega))
            · try simp (disch := first | omega | (simp; done) | fail) [wrap64c, if_pos, if_neg, opAnd, opOr, opXor, opDiff, opShr, opBit, g_h0, hL, c1, hN, c2, c3, hgt, hL1, hXl, c4, hf, c5, e1, e45, e46, e47, hlj]
              have : spB N X = true := hN ▸ hXe ▸ spB_mk n1 n7 hs hlt c4 c5 fun i h1 => hx i h1 (by omega)
              exact done_ret rfl (by simp [this, K0])
end Go.Proofs.Ytnncipcldbopgaa
namespace Go.Proofs.Ytnncipcldbopgaa
set_option linter.unusedSimpArgs false
set_option linter.unusedVariables false
set_option maxHeartbeats 4000000
open Go Go.Eng
attribute [local irreducible] WD RunD PreD Runs CallOK
theorem Space.mk {h : Hp} {b : Value} {N : Int} {X : List Int} (hX : Ints h b X) : Space h (.agg #[.int .i64 N, b]) N X := ⟨b, rfl, hX⟩
theorem isSpace_ok (h : Hp) (v : Value) (N : Int) (X : List Int) (hv : Space h v N X) (hl : X.length < 2 ^ 40) : CallOK Try.prog 38 #[v] h (.bool (spB N X)) h := by
  refine callY_P 99 _ [.tmp 2] Try.func38 rfl rfl rfl (by first | rfl | simp) ?_
  obtain ⟨b, rfl, hX⟩ := hv
  refine WD_first ?_
  try simp (disch := first | omega | (simp; done) | fail) [wrap64c, if_pos, if_neg, opAnd, opOr, opXor, opDiff, opShr, opBit]
  refine stopK_heap fun h0 q_h0 => ?_
  refine stopK_go ?_
  have g_h0 : h0.get h.next = .cells [.int .i64 N, b] true true 1 := by simp [q_h0]
  have k_h0 : Adds h h0 := by rw [q_h0]; exact (by first | exact aK | exact kK)
  have n_h0 : h.next < h0.next := by simp [q_h0]; try omega
  have hX0 := hX.keep k_h0.1
  have hL := hX0.lenD
  have K0 := k_h0.1
  try simp (disch := first | omega | (simp; done) | fail) [wrap64c, if_pos, if_neg, opAnd, opOr, opXor, opDiff, opShr, opBit, g_h0, hL]
  refine WD_drawC 11 rfl (by kernel_rfl) ?_
  try simp (disch := first | omega | (simp; done) | fail) [wrap64c, if_pos, if_neg, opAnd, opOr, opXor, opDiff, opShr, opBit, g_h0, hL]
  refine callP_c (by simp) (by simp) ?ha (isSize_ok h0 N) ?hadd ?_
  (case ha => simp (disch := first | omega | (simp; done) | fail) [wrap64c, if_pos, if_neg, opAnd, opOr, opXor, opDiff, opShr, opBit, g_h0, hL])
  (case hadd => first | assumption | exact adds_self _ | (simp; done))
  cases c1 : sizeB N
  · try simp (disch := first | omega | (simp; done) | fail) [wrap64c, if_pos, if_neg, opAnd, opOr, opXor, opDiff, opShr, opBit, g_h0, hL, c1]
    have : spB N X = false := spB_false (fun n xs e1 e2 g => by subst e1; rw [sizeB_of g.n1 g.n7] at c1; cases c1)
    exact done_ret rfl (by simp [this, K0])
  · obtain ⟨n, hN, n1, n7⟩ := sizeB_true c1
    have hb := bit7 n7
    by_cases c2 : (bit n : Int) < (X.length : Int)
    · try simp (disch := first | omega | (simp; done) | fail) [wrap64c, if_pos, if_neg, opAnd, opOr, opXor, opDiff, opShr, opBit, g_h0, hL, c1, hN, c2]
      have : spB N X = false := hN ▸ spB_noX (fun hr => by obtain ⟨xs, e, _, _, hle⟩ := hr.nats; rw [e, toN_length] at c2; omega)
      exact done_ret rfl (by simp [this, K0])
    · try simp (disch := first | omega | (simp; done) | fail) [wrap64c, if_pos, if_neg, opAnd, opOr, opXor, opDiff, opShr, opBit, g_h0, hL, c1, hN, c2]
      refine WD_loopC [1, 24, 25] (fun m tm h' => ∃ j, m = X.length - j ∧ h0 = h' ∧ tm 26 = .int .i64 (j : Int) ∧ (j ≤ X.length) ∧ (∀ i (h1 : i < X.length), i < j → (0 ≤ X[i] ∧ X[i] ≤ ((bit n : Nat) : Int) - 1) ∧ (0 < i → X[i - 1] < X[i]))) _ ⟨0, rfl, rfl, (by simp (disch := first | omega | (simp; done) | fail) [wrap64c, if_pos, if_neg, opAnd, opOr, opXor, opDiff, opShr, opBit, g_h0, hL, c1, hN, c2]), (by first | omega | assumption | (simp (disch := first | omega | (simp; done) | fail) [wrap64c, if_pos, if_neg, opAnd, opOr, opXor, opDiff, opShr, opBit, g_h0, hL, c1, hN, c2] <;> omega)), (by intro i h1 h0; omega)⟩ ?_
      rintro m tm h' hFr ⟨j, rfl, rfl, e26, hj, hx⟩
      simp only [FrameL] at hFr
      obtain ⟨f1_0, f24_0, f25_0, -⟩ := hFr
      try simp (disch := first | omega | (simp; done) | fail) [wrap64c, if_pos, if_neg, opAnd, opOr, opXor, opDiff, opShr, opBit, g_h0, hL, c1, hN, c2] at f1_0 f24_0 f25_0
      have e1 := f1_0
      have e24 := f24_0
      have e25 := f25_0
      by_cases hlt : j < X.length
      · obtain ⟨o_x, i_x, c_x, cs_x, own_x, ex_x, es_x, q_x, b_x, g_x, l_x, r_x⟩ := hX0.open ((by omega))
        have z_x : ∀ h2 : i_x < cs_x.length, cs_x[i_x] = _ := fun h2 => r_x 0 ((by omega)) h2
        try simp (disch := first | omega | (simp; done) | fail) [wrap64c, if_pos, if_neg, opAnd, opOr, opXor, opDiff, opShr, opBit, g_h0, hL, c1, hN, c2, e1, e24, e25, e26, hlt, q_x, g_x, l_x, r_x, z_x]
        refine callG_c (by simp) (by simp) ?ha (isSet_ok h0 n X[j] (by omega)) ?_
        (case ha => simp (disch := first | omega | (simp; done) | fail) [wrap64c, if_pos, if_neg, opAnd, opOr, opXor, opDiff, opShr, opBit, g_h0, hL, c1, hN, c2, e1, e24, e25, e26, hlt, q_x, g_x, l_x, r_x, z_x])
        cases c : setB n X[j]
        · try simp (disch := first | omega | (simp; done) | fail) [wrap64c, if_pos, if_neg, opAnd, opOr, opXor, opDiff, opShr, opBit, g_h0, hL, c1, hN, c2, e1, e24, e25, e26, hlt, q_x, g_x, l_x, r_x, z_x, c]
          have : spB N X = false := hN ▸ spB_noX (fun hr => by
            have h1 := (ris_at.1 hr j hlt).1
            have h2 : setB n X[j] = true := setB_iff.2 (by omega)
            rw [h2] at c; cases c)
          exact done_ret rfl (by simp [this, K0])
        · have hc := setB_iff.1 c
          by_cases hp : 0 < j
          · have hp' : ((j : Int) - 1) = ((j - 1 : Nat) : Int) := by omega
            by_cases hd : X[j - 1] < X[j]
            · have hd2 : ¬ X[j] ≤ X[j - 1] := by omega
              try simp (disch := first | omega | (simp; done) | fail) [wrap64c, if_pos, if_neg, opAnd, opOr, opXor, opDiff, opShr, opBit, g_h0, hL, c1, hN, c2, e1, e24, e25, e26, hlt, q_x, g_x, l_x, r_x, z_x, c, hp, hp', hd2]
              refine loopK_next _ ?hm ?hf ⟨j + 1, rfl, rfl, (by simp (disch := first | omega | (simp; done) | fail) [wrap64c, if_pos, if_neg, opAnd, opOr, opXor, opDiff, opShr, opBit, g_h0, hL, c1, hN, c2, e1, e24, e25, e26, hlt, q_x, g_x, l_x, r_x, z_x, c, hp, hp', hd2] <;> omega), (by first | omega | assumption | (simp (disch := first | omega | (simp; done) | fail) [wrap64c, if_pos, if_neg, opAnd, opOr, opXor, opDiff, opShr, opBit, g_h0, hL, c1, hN, c2, e1, e24, e25, e26, hlt, q_x, g_x, l_x, r_x, z_x, c, hp, hp', hd2] <;> omega)), ?c_hx⟩
              (case hm => first | omega | (simp; omega))
              (case hf => simp [FrameL, g_h0, hL, c1, hN, c2, e1, e24, e25, e26, hlt, q_x, g_x, l_x, r_x, z_x, c, hp, hp', hd2, f1_0, f24_0, f25_0])
              case c_hx =>
                exact (fun i h1 hi' => by
                  by_cases e : i = j
                  · subst e; exact ⟨by omega, fun _ => hd⟩
                  · exact hx i h1 (by omega))
            · have hd2 : X[j] ≤ X[j - 1] := by omega
              try simp (disch := first | omega | (simp; done) | fail) [wrap64c, if_pos, if_neg, opAnd, opOr, opXor, opDiff, opShr, opBit, g_h0, hL, c1, hN, c2, e1, e24, e25, e26, hlt, q_x, g_x, l_x, r_x, z_x, c, hp, hp', hd2]
              have : spB N X = false := hN ▸ spB_noX (fun hr => hd ((ris_at.1 hr j hlt).2 hp))
              exact done_ret rfl (by simp [this, K0])
          · try simp (disch := first | omega | (simp; done) | fail) [wrap64c, if_pos, if_neg, opAnd, opOr, opXor, opDiff, opShr, opBit, g_h0, hL, c1, hN, c2, e1, e24, e25, e26, hlt, q_x, g_x, l_x, r_x, z_x, c, hp]
            refine loopK_next _ ?hm ?hf ⟨j + 1, rfl, rfl, (by simp (disch := first | omega | (simp; done) | fail) [wrap64c, if_pos, if_neg, opAnd, opOr, opXor, opDiff, opShr, opBit, g_h0, hL, c1, hN, c2, e1, e24, e25, e26, hlt, q_x, g_x, l_x, r_x, z_x, c, hp] <;> omega), (by first | omega | assumption | (simp (disch := first | omega | (simp; done) | fail) [wrap64c, if_pos, if_neg, opAnd, opOr, opXor, opDiff, opShr, opBit, g_h0, hL, c1, hN, c2, e1, e24, e25, e26, hlt, q_x, g_x, l_x, r_x, z_x, c, hp] <;> omega)), ?c_hx⟩
            (case hm => first | omega | (simp; omega))
            (case hf => simp [FrameL, g_h0, hL, c1, hN, c2, e1, e24, e25, e26, hlt, q_x, g_x, l_x, r_x, z_x, c, hp, f1_0, f24_0, f25_0])
            case c_hx =>
              exact (fun i h1 hi' => by
                by_cases e : i = j
                · subst e; exact ⟨by omega, fun q => absurd q hp⟩
                · exact hx i h1 (by omega))
      · try simp (disch := first | omega | (simp; done) | fail) [wrap64c, if_pos, if_neg, opAnd, opOr, opXor, opDiff, opShr, opBit, g_h0, hL, c1, hN, c2, e1, e24, e25, e26, hlt]
        obtain ⟨xs, hXe, hs, hlt', hle⟩ := (ris_at.2 fun i h1 => hx i h1 (by omega) : Rising X 0 _).nats
        have hX1 : Ints h0 b (toN xs) := hXe ▸ hX0
        have hgt := toN_get xs
        have hln := toN_length xs
        have hXl : X.length = xs.length := by rw [hXe, toN_length]
        have h128 : ∀ x ∈ xs, x < 128 := fun x hx => by have := hlt' x hx; omega
        obtain ⟨_, h1, hc1, o1, rfl, ha1, ho1, ho2, hg1⟩ := family_ok h0 (.agg #[.int .i64 (n : Int), b]) n xs (.mk hX1) h128 (by omega)
        refine callG_c (by simp) (by simp) ?ha (hc1) ?_
        (case ha => simp (disch := first | omega | (simp; done) | fail) [wrap64c, if_pos, if_neg, opAnd, opOr, opXor, opDiff, opShr, opBit, g_h0, hL, c1, hN, c2, e1, e24, e25, e26, hlt, hgt, hXl, hg1])
        have g1 : h1.get h.next = .cells [.int .i64 N, b] true true 1 := by rw [ha1.1.2 _ (by omega)]; exact g_h0
        have hX2 := hX1.keep ha1.1
        have hL1 := hX2.lenD
        have hf := famC_getD (fam xs)
        have hf2 := famC_at (fam xs)
        have K1 := K0.trans ha1.1
        try simp (disch := first | omega | (simp; done) | fail) [wrap64c, if_pos, if_neg, opAnd, opOr, opXor, opDiff, opShr, opBit, g_h0, hL, c1, hN, c2, e1, e24, e25, e26, hlt, hgt, hXl, hg1, g1, hL1, hf, hf2]
        refine WD_drawC 14 rfl (by kernel_rfl) ?_
        try simp (disch := first | omega | (simp; done) | fail) [wrap64c, if_pos, if_neg, opAnd, opOr, opXor, opDiff, opShr, opBit, g_h0, hL, c1, hN, c2, e1, e24, e25, e26, hlt, hgt, hXl, hg1, g1, hL1, hf, hf2]
        cases c4 : fam xs 0
        · try simp (disch := first | omega | (simp; done) | fail) [wrap64c, if_pos, if_neg, opAnd, opOr, opXor, opDiff, opShr, opBit, g_h0, hL, c1, hN, c2, e1, e24, e25, e26, hlt, hgt, hXl, hg1, g1, hL1, hf, hf2, c4]
          have : spB N X = false := hN ▸ hXe ▸ spB_no fun g => by have := decide_eq_true g.zero; unfold fam at c4; rw [this] at c4; cases c4
          exact done_ret rfl (by simp [this, K1])
        · try simp (disch := first | omega | (simp; done) | fail) [wrap64c, if_pos, if_neg, opAnd, opOr, opXor, opDiff, opShr, opBit, g_h0, hL, c1, hN, c2, e1, e24, e25, e26, hlt, hgt, hXl, hg1, g1, hL1, hf, hf2, c4]
          refine callP_c (by simp) (by simp) ?ha (all_ok h1 (.agg #[.int .i64 (n : Int), b]) n _ (.mk hX2) (by omega)) ?hadd ?_
          (case ha => simp (disch := first | omega | (simp; done) | fail) [wrap64c, if_pos, if_neg, opAnd, opOr, opXor, opDiff, opShr, opBit, g_h0, hL, c1, hN, c2, e1, e24, e25, e26, hlt, hgt, hXl, hg1, g1, hL1, hf, hf2, c4])
          (case hadd => first | assumption | exact adds_self _ | (simp; done))
          have hbl : bit n - 1 < 128 := by omega
          cases c5 : fam xs (bit n - 1)
          · try simp (disch := first | omega | (simp; done) | fail) [wrap64c, if_pos, if_neg, opAnd, opOr, opXor, opDiff, opShr, opBit, g_h0, hL, c1, hN, c2, e1, e24, e25, e26, hlt, hgt, hXl, hg1, g1, hL1, hf, hf2, c4, c5]
            have : spB N X = false := hN ▸ hXe ▸ spB_no fun g => by have := decide_eq_true g.full; unfold fam at c5; rw [this] at c5; cases c5
            exact done_ret rfl (by simp [this, K1])
          · try simp (disch := first | omega | (simp; done) | fail) [wrap64c, if_pos, if_neg, opAnd, opOr, opXor, opDiff, opShr, opBit, g_h0, hL, c1, hN, c2, e1, e24, e25, e26, hlt, hgt, hXl, hg1, g1, hL1, hf, hf2, c4, c5]
            refine WD_loopC [1, 5, 68, 69] (fun m tm h' => ∃ j, m = xs.length - j ∧ h1 = h' ∧ tm 70 = .int .i64 (j : Int) ∧ (j ≤ xs.length) ∧ (∀ i (h1 : i < xs.length), i < j → (xs[i] ≠ 0 → innerN (fam xs) xs[i] ≠ 0) ∧ ∀ k (h : k < xs.length), fam xs (nOr xs[i] xs[k]) = true)) _ ⟨0, rfl, rfl, (by simp (disch := first | omega | (simp; done) | fail) [wrap64c, if_pos, if_neg, opAnd, opOr, opXor, opDiff, opShr, opBit, g_h0, hL, c1, hN, c2, e1, e24, e25, e26, hlt, hgt, hXl, hg1, g1, hL1, hf, hf2, c4, c5]), (by first | omega | assumption | (simp (disch := first | omega | (simp; done) | fail) [wrap64c, if_pos, if_neg, opAnd, opOr, opXor, opDiff, opShr, opBit, g_h0, hL, c1, hN, c2, e1, e24, e25, e26, hlt, hgt, hXl, hg1, g1, hL1, hf, hf2, c4, c5] <;> omega)), (by intro i h1 h0; omega)⟩ ?_
            rintro m tm h' hFr ⟨j, rfl, rfl, e70, hj, hx⟩
            simp only [FrameL] at hFr
            obtain ⟨f1_1, f5_1, f68_1, f69_1, -⟩ := hFr
            try simp (disch := first | omega | (simp; done) | fail) [wrap64c, if_pos, if_neg, opAnd, opOr, opXor, opDiff, opShr, opBit, g_h0, hL, c1, hN, c2, e1, e24, e25, e26, hlt, hgt, hXl, hg1, g1, hL1, hf, hf2, c4, c5] at f1_1 f5_1 f68_1 f69_1
            have e1 := f1_1
            have e5 := f5_1
            have e68 := f68_1
            have e69 := f69_1
            by_cases hlj : j < xs.length
            · obtain ⟨o_x, i_x, c_x, cs_x, own_x, ex_x, es_x, q_x, b_x, g_x, l_x, r_x⟩ := hX2.open ((by simp; omega))
              have z_x : ∀ h2 : i_x < cs_x.length, cs_x[i_x] = _ := fun h2 => r_x 0 ((by simp; omega)) h2
              have hxj := h128 _ (List.getElem_mem hlj)
              by_cases z : xs[j] = 0
              · have hne : xs[j] ≠ 0 → innerN (fam xs) xs[j] ≠ 0 := fun q => absurd z q
                have z1 : ((xs[j] : Int) != 0) = false := by simp [z]
                try simp (disch := first | omega | (simp; done) | fail) [wrap64c, if_pos, if_neg, opAnd, opOr, opXor, opDiff, opShr, opBit, g_h0, hL, c1, hN, c2, e1, e24, e25, e26, hlt, hgt, hXl, hg1, g1, hL1, hf, hf2, c4, c5, e5, e68, e69, e70, hlj, q_x, g_x, l_x, r_x, z_x, z1]
                refine WD_loopC [1, 5, 7, 68, 69, 70, 83, 84] (fun m tm h' => ∃ k, m = xs.length - k ∧ h1 = h' ∧ tm 85 = .int .i64 (k : Int) ∧ (k ≤ xs.length) ∧ (∀ i (h1 : i < xs.length), i < k → fam xs (nOr xs[j] xs[i]) = true)) _ ⟨0, rfl, rfl, (by simp (disch := first | omega | (simp; done) | fail) [wrap64c, if_pos, if_neg, opAnd, opOr, opXor, opDiff, opShr, opBit, g_h0, hL, c1, hN, c2, e1, e24, e25, e26, hlt, hgt, hXl, hg1, g1, hL1, hf, hf2, c4, c5, e5, e68, e69, e70, hlj, q_x, g_x, l_x, r_x, z_x, z1]), (by first | omega | assumption | (simp (disch := first | omega | (simp; done) | fail) [wrap64c, if_pos, if_neg, opAnd, opOr, opXor, opDiff, opShr, opBit, g_h0, hL, c1, hN, c2, e1, e24, e25, e26, hlt, hgt, hXl, hg1, g1, hL1, hf, hf2, c4, c5, e5, e68, e69, e70, hlj, q_x, g_x, l_x, r_x, z_x, z1] <;> omega)), (by intro i h1 h0; omega)⟩ ?_
                rintro m tm h' hFr ⟨k, rfl, rfl, e85, hk, hy⟩
                simp only [FrameL] at hFr
                obtain ⟨f1_2, f5_2, f7_2, f68_2, f69_2, f70_2, f83_2, f84_2, -⟩ := hFr
                try simp (disch := first | omega | (simp; done) | fail) [wrap64c, if_pos, if_neg, opAnd, opOr, opXor, opDiff, opShr, opBit, g_h0, hL, c1, hN, c2, e1, e24, e25, e26, hlt, hgt, hXl, hg1, g1, hL1, hf, hf2, c4, c5, e5, e68, e69, e70, hlj, q_x, g_x, l_x, r_x, z_x, z1] at f1_2 f5_2 f7_2 f68_2 f69_2 f70_2 f83_2 f84_2
                have e1 := f1_2
                have e5 := f5_2
                have e7 := f7_2
                have e68 := f68_2
                have e69 := f69_2
                have e70 := f70_2
                have e83 := f83_2
                have e84 := f84_2
                by_cases hlk : k < xs.length
                · obtain ⟨o_y, i_y, c_y, cs_y, own_y, ex_y, es_y, q_y, b_y, g_y, l_y, r_y⟩ := hX2.open ((by simp; omega))
                  have z_y : ∀ h2 : i_y < cs_y.length, cs_y[i_y] = _ := fun h2 => r_y 0 ((by simp; omega)) h2
                  have hxk := h128 _ (List.getElem_mem hlk)
                  have hor := nOr128 hxj hxk
                  cases c7 : fam xs (nOr xs[j] xs[k])
                  · try simp (disch := first | omega | (simp; done) | fail) [wrap64c, if_pos, if_neg, opAnd, opOr, opXor, opDiff, opShr, opBit, g_h0, hL, c1, hN, c2, e1, e24, e25, e26, hlt, hgt, hXl, hg1, g1, hL1, hf, hf2, c4, c5, e5, e68, e69, e70, hlj, q_x, g_x, l_x, r_x, z_x, z1, e7, e83, e84, e85, hlk, q_y, g_y, l_y, r_y, z_y, c7]
                    have : spB N X = false := hN ▸ hXe ▸ spB_no fun g => by
                      have := decide_eq_true (g.uni _ (List.getElem_mem hlj) _ (List.getElem_mem hlk)); unfold fam at c7; rw [this] at c7; cases c7
                    exact done_ret rfl (by simp [this, K1])
                  · try simp (disch := first | omega | (simp; done) | fail) [wrap64c, if_pos, if_neg, opAnd, opOr, opXor, opDiff, opShr, opBit, g_h0, hL, c1, hN, c2, e1, e24, e25, e26, hlt, hgt, hXl, hg1, g1, hL1, hf, hf2, c4, c5, e5, e68, e69, e70, hlj, q_x, g_x, l_x, r_x, z_x, z1, e7, e83, e84, e85, hlk, q_y, g_y, l_y, r_y, z_y, c7]
                    refine loopK_next _ ?hm ?hf ⟨k + 1, rfl, rfl, (by simp (disch := first | omega | (simp; done) | fail) [wrap64c, if_pos, if_neg, opAnd, opOr, opXor, opDiff, opShr, opBit, g_h0, hL, c1, hN, c2, e1, e24, e25, e26, hlt, hgt, hXl, hg1, g1, hL1, hf, hf2, c4, c5, e5, e68, e69, e70, hlj, q_x, g_x, l_x, r_x, z_x, z1, e7, e83, e84, e85, hlk, q_y, g_y, l_y, r_y, z_y, c7] <;> omega), (by first | omega | assumption | (simp (disch := first | omega | (simp; done) | fail) [wrap64c, if_pos, if_neg, opAnd, opOr, opXor, opDiff, opShr, opBit, g_h0, hL, c1, hN, c2, e1, e24, e25, e26, hlt, hgt, hXl, hg1, g1, hL1, hf, hf2, c4, c5, e5, e68, e69, e70, hlj, q_x, g_x, l_x, r_x, z_x, z1, e7, e83, e84, e85, hlk, q_y, g_y, l_y, r_y, z_y, c7] <;> omega)), ?c_hy⟩
                    (case hm => first | omega | (simp; omega))
                    (case hf => simp [FrameL, g_h0, hL, c1, hN, c2, e1, e24, e25, e26, hlt, hgt, hXl, hg1, g1, hL1, hf, hf2, c4, c5, e5, e68, e69, e70, hlj, q_x, g_x, l_x, r_x, z_x, z1, e7, e83, e84, e85, hlk, q_y, g_y, l_y, r_y, z_y, c7, f1_2, f5_2, f7_2, f68_2, f69_2, f70_2, f83_2, f84_2])
                    case c_hy =>
                      exact (fun i h1 hi => by
                        by_cases e : i = k
                        · subst e; exact c7
                        · exact hy i h1 (by omega))
                · try simp (disch := first | omega | (simp; done) | fail) [wrap64c, if_pos, if_neg, opAnd, opOr, opXor, opDiff, opShr, opBit, g_h0, hL, c1, hN, c2, e1, e24, e25, e26, hlt, hgt, hXl, hg1, g1, hL1, hf, hf2, c4, c5, e5, e68, e69, e70, hlj, q_x, g_x, l_x, r_x, z_x, z1, e7, e83, e84, e85, hlk]
                  refine loopK_next _ ?hm ?hf ⟨j + 1, rfl, rfl, (by simp (disch := first | omega | (simp; done) | fail) [wrap64c, if_pos, if_neg, opAnd, opOr, opXor, opDiff, opShr, opBit, g_h0, hL, c1, hN, c2, e1, e24, e25, e26, hlt, hgt, hXl, hg1, g1, hL1, hf, hf2, c4, c5, e5, e68, e69, e70, hlj, q_x, g_x, l_x, r_x, z_x, z1, e7, e83, e84, e85, hlk] <;> omega), (by first | omega | assumption | (simp (disch := first | omega | (simp; done) | fail) [wrap64c, if_pos, if_neg, opAnd, opOr, opXor, opDiff, opShr, opBit, g_h0, hL, c1, hN, c2, e1, e24, e25, e26, hlt, hgt, hXl, hg1, g1, hL1, hf, hf2, c4, c5, e5, e68, e69, e70, hlj, q_x, g_x, l_x, r_x, z_x, z1, e7, e83, e84, e85, hlk] <;> omega)), ?c_hx⟩
                  (case hm => first | omega | (simp; omega))
                  (case hf => simp [FrameL, g_h0, hL, c1, hN, c2, e1, e24, e25, e26, hlt, hgt, hXl, hg1, g1, hL1, hf, hf2, c4, c5, e5, e68, e69, e70, hlj, q_x, g_x, l_x, r_x, z_x, z1, e7, e83, e84, e85, hlk, f1_1, f5_1, f68_1, f69_1])
                  case c_hx =>
                    exact (fun i h1 hi => by
                      by_cases e : i = j
                      · subst e; exact ⟨hne, fun k hk' => hy k hk' (by omega)⟩
                      · exact hx i h1 (by omega))
              · have z1 : ((xs[j] : Int) != 0) = true := by simp [z]
                have hin := maskN_lt (fun i => xs[j].testBit i && fam xs (nXor xs[j] (bit i))) 7
                try simp (disch := first | omega | (simp; done) | fail) [wrap64c, if_pos, if_neg, opAnd, opOr, opXor, opDiff, opShr, opBit, g_h0, hL, c1, hN, c2, e1, e24, e25, e26, hlt, hgt, hXl, hg1, g1, hL1, hf, hf2, c4, c5, e5, e68, e69, e70, hlj, q_x, g_x, l_x, r_x, z_x, z1]
                refine callG_c (by simp) (by simp) ?ha (imInner_ok h1 o1 (fam xs) _ _ _ xs[j] ho2 hg1 (by omega)) ?_
                (case ha => simp (disch := first | omega | (simp; done) | fail) [wrap64c, if_pos, if_neg, opAnd, opOr, opXor, opDiff, opShr, opBit, g_h0, hL, c1, hN, c2, e1, e24, e25, e26, hlt, hgt, hXl, hg1, g1, hL1, hf, hf2, c4, c5, e5, e68, e69, e70, hlj, q_x, g_x, l_x, r_x, z_x, z1])
                by_cases c6 : innerN (fam xs) xs[j] = 0
                · try simp (disch := first | omega | (simp; done) | fail) [wrap64c, if_pos, if_neg, opAnd, opOr, opXor, opDiff, opShr, opBit, g_h0, hL, c1, hN, c2, e1, e24, e25, e26, hlt, hgt, hXl, hg1, g1, hL1, hf, hf2, c4, c5, e5, e68, e69, e70, hlj, q_x, g_x, l_x, r_x, z_x, z1, c6]
                  have : spB N X = false := hN ▸ hXe ▸ spB_no fun g => g.inn _ (List.getElem_mem hlj) z c6
                  exact done_ret rfl (by simp [this, K1])
                · have hne : xs[j] ≠ 0 → innerN (fam xs) xs[j] ≠ 0 := fun _ => c6
                  try simp (disch := first | omega | (simp; done) | fail) [wrap64c, if_pos, if_neg, opAnd, opOr, opXor, opDiff, opShr, opBit, g_h0, hL, c1, hN, c2, e1, e24, e25, e26, hlt, hgt, hXl, hg1, g1, hL1, hf, hf2, c4, c5, e5, e68, e69, e70, hlj, q_x, g_x, l_x, r_x, z_x, z1, c6]
                  refine WD_loopC [1, 5, 7, 68, 69, 70, 83, 84] (fun m tm h' => ∃ k, m = xs.length - k ∧ h1 = h' ∧ tm 85 = .int .i64 (k : Int) ∧ (k ≤ xs.length) ∧ (∀ i (h1 : i < xs.length), i < k → fam xs (nOr xs[j] xs[i]) = true)) _ ⟨0, rfl, rfl, (by simp (disch := first | omega | (simp; done) | fail) [wrap64c, if_pos, if_neg, opAnd, opOr, opXor, opDiff, opShr, opBit, g_h0, hL, c1, hN, c2, e1, e24, e25, e26, hlt, hgt, hXl, hg1, g1, hL1, hf, hf2, c4, c5, e5, e68, e69, e70, hlj, q_x, g_x, l_x, r_x, z_x, z1, c6]), (by first | omega | assumption | (simp (disch := first | omega | (simp; done) | fail) [wrap64c, if_pos, if_neg, opAnd, opOr, opXor, opDiff, opShr, opBit, g_h0, hL, c1, hN, c2, e1, e24, e25, e26, hlt, hgt, hXl, hg1, g1, hL1, hf, hf2, c4, c5, e5, e68, e69, e70, hlj, q_x, g_x, l_x, r_x, z_x, z1, c6] <;> omega)), (by intro i h1 h0; omega)⟩ ?_
                  rintro m tm h' hFr ⟨k, rfl, rfl, e85, hk, hy⟩
                  simp only [FrameL] at hFr
                  obtain ⟨f1_3, f5_3, f7_3, f68_3, f69_3, f70_3, f83_3, f84_3, -⟩ := hFr
                  try simp (disch := first | omega | (simp; done) | fail) [wrap64c, if_pos, if_neg, opAnd, opOr, opXor, opDiff, opShr, opBit, g_h0, hL, c1, hN, c2, e1, e24, e25, e26, hlt, hgt, hXl, hg1, g1, hL1, hf, hf2, c4, c5, e5, e68, e69, e70, hlj, q_x, g_x, l_x, r_x, z_x, z1, c6] at f1_3 f5_3 f7_3 f68_3 f69_3 f70_3 f83_3 f84_3
                  have e1 := f1_3
                  have e5 := f5_3
                  have e7 := f7_3
                  have e68 := f68_3
                  have e69 := f69_3
                  have e70 := f70_3
                  have e83 := f83_3
                  have e84 := f84_3
                  by_cases hlk : k < xs.length
                  · obtain ⟨o_y, i_y, c_y, cs_y, own_y, ex_y, es_y, q_y, b_y, g_y, l_y, r_y⟩ := hX2.open ((by simp; omega))
                    have z_y : ∀ h2 : i_y < cs_y.length, cs_y[i_y] = _ := fun h2 => r_y 0 ((by simp; omega)) h2
                    have hxk := h128 _ (List.getElem_mem hlk)
                    have hor := nOr128 hxj hxk
                    cases c7 : fam xs (nOr xs[j] xs[k])
                    · try simp (disch := first | omega | (simp; done) | fail) [wrap64c, if_pos, if_neg, opAnd, opOr, opXor, opDiff, opShr, opBit, g_h0, hL, c1, hN, c2, e1, e24, e25, e26, hlt, hgt, hXl, hg1, g1, hL1, hf, hf2, c4, c5, e5, e68, e69, e70, hlj, q_x, g_x, l_x, r_x, z_x, z1, c6, e7, e83, e84, e85, hlk, q_y, g_y, l_y, r_y, z_y, c7]
                      have : spB N X = false := hN ▸ hXe ▸ spB_no fun g => by
                        have := decide_eq_true (g.uni _ (List.getElem_mem hlj) _ (List.getElem_mem hlk)); unfold fam at c7; rw [this] at c7; cases c7
                      exact done_ret rfl (by simp [this, K1])
                    · try simp (disch := first | omega | (simp; done) | fail) [wrap64c, if_pos, if_neg, opAnd, opOr, opXor, opDiff, opShr, opBit, g_h0, hL, c1, hN, c2, e1, e24, e25, e26, hlt, hgt, hXl, hg1, g1, hL1, hf, hf2, c4, c5, e5, e68, e69, e70, hlj, q_x, g_x, l_x, r_x, z_x, z1, c6, e7, e83, e84, e85, hlk, q_y, g_y, l_y, r_y, z_y, c7]
                      refine loopK_next _ ?hm ?hf ⟨k + 1, rfl, rfl, (by simp (disch := first | omega | (simp; done) | fail) [wrap64c, if_pos, if_neg, opAnd, opOr, opXor, opDiff, opShr, opBit, g_h0, hL, c1, hN, c2, e1, e24, e25, e26, hlt, hgt, hXl, hg1, g1, hL1, hf, hf2, c4, c5, e5, e68, e69, e70, hlj, q_x, g_x, l_x, r_x, z_x, z1, c6, e7, e83, e84, e85, hlk, q_y, g_y, l_y, r_y, z_y, c7] <;> omega), (by first | omega | assumption | (simp (disch := first | omega | (simp; done) | fail) [wrap64c, if_pos, if_neg, opAnd, opOr, opXor, opDiff, opShr, opBit, g_h0, hL, c1, hN, c2, e1, e24, e25, e26, hlt, hgt, hXl, hg1, g1, hL1, hf, hf2, c4, c5, e5, e68, e69, e70, hlj, q_x, g_x, l_x, r_x, z_x, z1, c6, e7, e83, e84, e85, hlk, q_y, g_y, l_y, r_y, z_y, c7] <;> omega)), ?c_hy⟩
                      (case hm => first | omega | (simp; omega))
                      (case hf => simp [FrameL, g_h0, hL, c1, hN, c2, e1, e24, e25, e26, hlt, hgt, hXl, hg1, g1, hL1, hf, hf2, c4, c5, e5, e68, e69, e70, hlj, q_x, g_x, l_x, r_x, z_x, z1, c6, e7, e83, e84, e85, hlk, q_y, g_y, l_y, r_y, z_y, c7, f1_3, f5_3, f7_3, f68_3, f69_3, f70_3, f83_3, f84_3])
                      case c_hy =>
                        exact (fun i h1 hi => by
                          by_cases e : i = k
                          · subst e; exact c7
                          · exact hy i h1 (by omega))
                  · try simp (disch := first | omega | (simp; done) | fail) [wrap64c, if_pos, if_neg, opAnd, opOr, opXor, opDiff, opShr, opBit, g_h0, hL, c1, hN, c2, e1, e24, e25, e26, hlt, hgt, hXl, hg1, g1, hL1, hf, hf2, c4, c5, e5, e68, e69, e70, hlj, q_x, g_x, l_x, r_x, z_x, z1, c6, e7, e83, e84, e85, hlk]
                    refine loopK_next _ ?hm ?hf ⟨j + 1, rfl, rfl, (by simp (disch := first | omega | (simp; done) | fail) [wrap64c, if_pos, if_neg, opAnd, opOr, opXor, opDiff, opShr, opBit, g_h0, hL, c1, hN, c2, e1, e24, e25, e26, hlt, hgt, hXl, hg1, g1, hL1, hf, hf2, c4, c5, e5, e68, e69, e70, hlj, q_x, g_x, l_x, r_x, z_x, z1, c6, e7, e83, e84, e85, hlk] <;> omega), (by first | omega | assumption | (simp (disch := first | omega | (simp; done) | fail) [wrap64c, if_pos, if_neg, opAnd, opOr, opXor, opDiff, opShr, opBit, g_h0, hL, c1, hN, c2, e1, e24, e25, e26, hlt, hgt, hXl, hg1, g1, hL1, hf, hf2, c4, c5, e5, e68, e69, e70, hlj, q_x, g_x, l_x, r_x, z_x, z1, c6, e7, e83, e84, e85, hlk] <;> omega)), ?c_hx⟩
                    (case hm => first | omega | (simp; omega))
                    (case hf => simp [FrameL, g_h0, hL, c1, hN, c2, e1, e24, e25, e26, hlt, hgt, hXl, hg1, g1, hL1, hf, hf2, c4, c5, e5, e68, e69, e70, hlj, q_x, g_x, l_x, r_x, z_x, z1, c6, e7, e83, e84, e85, hlk, f1_1, f5_1, f68_1, f69_1])
                    case c_hx =>
                      exact (fun i h1 hi => by
                        by_cases e : i = j
                        · subst e; exact ⟨hne, fun k hk' => hy k hk' (by omega)⟩
                        · exact hx i h1 (by omega))
            · try simp (disch := first | omega | (simp; done) | fail) [wrap64c, if_pos, if_neg, opAnd, opOr, opXor, opDiff, opShr, opBit, g_h0, hL, c1, hN, c2, e1, e24, e25, e26, hlt, hgt, hXl, hg1, g1, hL1, hf, hf2, c4, c5, e5, e68, e69, e70, hlj]
              have : spB N X = true := hN ▸ hXe ▸ spB_mk n1 n7 hs hlt' c4 c5 fun i h1 => hx i h1 (by omega)
              exact done_ret rfl (by simp [this, K1])
noncomputable def setSB (N : Int) (X : List Int) (a : Int) : Bool := spB N X && decide (0 ≤ a ∧ a < ((2 ^ N.toNat : Nat) : Int))
noncomputable def oneB (N : Int) (X : List Int) (a : Int) : Bool := spB N X && decide (a ∈ X)
end Go.Proofs.Ytnncipcldbopgaa
namespace Go.Proofs.Ytnncipcldbopgaa
set_option linter.unusedSimpArgs false
set_option linter.unusedVariables false
set_option maxHeartbeats 4000000
open Go Go.Eng
attribute [local irreducible] WD RunD PreD Runs CallOK
def renL (names : List Nat) : List Nat → Nat → Nat
  | [], o => o
  | i :: l, o => renL names l (nOr o (bit (names.getD i 0)))
def famK (M : Nat → Bool) (k : Nat) : List Nat := (List.range k).filter M
theorem famK_succ (M : Nat → Bool) (k : Nat) : famK M (k + 1) = if M k = true then famK M k ++ [k] else famK M k := by
  unfold famK
  rw [List.range_succ, List.filter_append]
  by_cases h : M k = true <;> simp [h]
theorem famK_len (M : Nat → Bool) (k : Nat) : (famK M k).length ≤ k := by
  unfold famK
  have := List.length_filter_le M (List.range k)
  simpa using this
end Go.Proofs.Ytnncipcldbopgaa
namespace Go.Proofs.Ytnncipcldbopgaa
set_option linter.unusedSimpArgs false
set_option linter.unusedVariables false
set_option maxHeartbeats 4000000
open Go Go.Eng
attribute [local irreducible] WD RunD PreD Runs CallOK
theorem IntsA.putB {n : Nat} {h : Hp} {v : Value} {xs : List Int} (hs : IntsA n h v xs) {o : Nat} (ho : o < n) (x : AObj) : IntsA n (h.put o x) v xs := by
  rcases hs with ⟨a, b⟩ | ⟨p, ex, a, b, c, d⟩
  · exact .inl ⟨a, b⟩
  · exact .inr ⟨p, ex, a, b, c, by simp [Hp.put, show p ≠ o by omega]; exact d⟩
end Go.Proofs.Ytnncipcldbopgaa
namespace Go.Proofs.Ytnncipcldbopgaa
set_option linter.unusedSimpArgs false
set_option linter.unusedVariables false
set_option maxHeartbeats 4000000
open Go Go.Eng
attribute [local irreducible] WD RunD PreD Runs CallOK
end Go.Proofs.Ytnncipcldbopgaa
namespace Go.Proofs.Ytnncipcldbopgaa
set_option linter.unusedSimpArgs false
set_option linter.unusedVariables false
set_option maxHeartbeats 4000000
open Go Go.Eng
attribute [local irreducible] WD RunD PreD Runs CallOK
theorem wr_trans2 {S T : Nat → Prop} {a b c : Hp} (k : Wr S a b) (l : Wr T b c) (hst : ∀ o, o < a.next → T o → S o) : Wr S a c where
  upd := ⟨Nat.le_trans k.upd.1 l.upd.1, fun o ho hs => (l.upd.2 o (Nat.lt_of_lt_of_le ho k.upd.1) (fun ht => hs (hst o ho ht))).trans (k.upd.2 o ho hs)⟩
  own o ho hs hl := by
    by_cases ht : T o
    · rcases l.own o (Nat.lt_of_lt_of_le ho k.upd.1) ht hl with h1 | h1
      · exact .inl h1
      · rw [h1] at hl ⊢
        exact k.own o ho hs hl
    · have h1 := l.upd.2 o (Nat.lt_of_lt_of_le ho k.upd.1) ht
      rw [h1] at hl ⊢
      exact k.own o ho hs hl
  new o h1 h2 hl := by
    by_cases hb : o < b.next
    · by_cases ht : T o
      · rcases l.own o hb ht hl with h3 | h3
        · exact h3
        · rw [h3] at hl ⊢
          exact k.new o h1 hb hl
      · have h3 := l.upd.2 o hb ht
        rw [h3] at hl ⊢
        exact k.new o h1 hb hl
    · exact l.new o (by omega) h2 hl
def objOf : Value → Option Nat
  | .slice (some ⟨o, _, _⟩) _ _ => some o
  | _ => none
@[simp] theorem objOf_nil (n c : Nat) : objOf (.slice none n c) = none := rfl
@[simp] theorem objOf_mk (o i n c : Nat) : objOf (.slice (some ⟨o, i, none⟩) n c) = some o := rfl
def WS (B : Nat) (h : Hp) (v : Value) (W : List Nat) : Prop :=
  (v = .slice none 0 0 ∧ W = []) ∨
    ∃ p cs ex, v = .slice (some ⟨p, 0, none⟩) W.length cs.length ∧ B ≤ p ∧ p < h.next ∧ h.get p = .cells cs true ex 1 ∧ (W.length ≤ cs.length ∧ cs.length < 2 ^ 50) ∧ cs.take W.length = (toN W).map (.int .i64)
theorem WS.nil (B : Nat) (h : Hp) : WS B h (.slice none 0 0) [] := .inl ⟨rfl, rfl⟩
theorem WS.nt {B : Nat} {h : Hp} {v : Value} {W : List Nat} (hs : WS B h v W) : notTup v = true := by
  rcases hs with ⟨rfl, rfl⟩ | ⟨p, cs, ex, rfl, _⟩ <;> rfl
theorem WS.cs {B : Nat} {h : Hp} {v : Value} {W : List Nat} (hs : WS B h v W) : v.cells = #[v] := by
  rcases hs with ⟨rfl, rfl⟩ | ⟨p, cs, ex, rfl, _⟩ <;> rfl
theorem WS.ints {B : Nat} {h : Hp} {v : Value} {W : List Nat} (hs : WS B h v W) : Ints h v (toN W) := by
  rcases hs with ⟨rfl, rfl⟩ | ⟨p, cs, ex, rfl, hB, hp, hg, hl, ht⟩
  · exact (IntsO.nil (fun _ => False) h).ints
  · have e : W.length = (toN W).length := by simp [toN]
    rw [e]
    refine Sl.mk hp hg (by omega) (by omega) fun k hk => ?_
    have h1 : (cs.take W.length)[k]? = ((toN W).map (Value.int .i64))[k]? := by rw [ht]
    rw [List.getElem?_take, if_pos (by omega), List.getElem?_map, List.getElem?_eq_getElem hk] at h1
    exact ⟨_, h1, rfl⟩
theorem WS.keep {B : Nat} {h h' : Hp} {v : Value} {W : List Nat} (hs : WS B h v W) (hn : h.next ≤ h'.next) (hk : ∀ o, objOf v = some o → h'.get o = h.get o) : WS B h' v W := by
  rcases hs with ⟨rfl, rfl⟩ | ⟨p, cs, ex, rfl, hB, hp, hg, hl, ht⟩
  · exact .inl ⟨rfl, rfl⟩
  · exact .inr ⟨p, cs, ex, rfl, hB, by omega, by rw [hk p rfl]; exact hg, hl, ht⟩
theorem WS.obj {B : Nat} {h : Hp} {v : Value} {W : List Nat} (hs : WS B h v W) {o : Nat} (ho : objOf v = some o) : B ≤ o ∧ o < h.next := by
  rcases hs with ⟨rfl, rfl⟩ | ⟨p, cs, ex, rfl, hB, hp, hg, hl, ht⟩
  · cases ho
  · cases ho; exact ⟨hB, hp⟩
theorem appW {B : Nat} {h : Hp} {v : Value} {W : List Nat} (hs : WS B h v W) (x : Nat) (hl : W.length < 2 ^ 40) (hn : B ≤ h.next) :
    ∃ v' h', appendD Try.prog 24 24 v (.slice (some ⟨h.next, 0, none⟩) 1 1) (h.alloc (.cells [.int .i64 (x : Int)] true true 1)) = some (v', h') ∧ WS B h' v' (W ++ [x]) ∧
      Wr (fun o => objOf v = some o) h h' ∧ h.next < h'.next ∧ (objOf v' = objOf v ∨ ∃ p, objOf v' = some p ∧ h.next ≤ p) := by
  have hsrc : srcV (h.alloc (.cells [.int .i64 (x : Int)] true true 1)) 1 (.slice (some ⟨h.next, 0, none⟩) 1 1) = some (1, [.int .i64 (x : Int)]) := by simp [srcV, srcW]
  have h1 := ty_elT_24
  have h2 := ty_szT_3
  have h3 := ty_zeroT_3
  have h4 := ty_byT_3
  have h5 : srcT Try.prog 24 = true := by simp
  have W0 : Wr (fun o => objOf v = some o) h (h.alloc (.cells [.int .i64 (x : Int)] true true 1)) := .of_adds (by first | exact aK | exact kK)
  rcases hs with ⟨rfl, rfl⟩ | ⟨p, cs, ex, rfl, hB, hp, hg, hlc, ht⟩
  · refine ⟨.slice (some ⟨h.next + 1, 0, none⟩) 1 1, (h.alloc (.cells [.int .i64 (x : Int)] true true 1)).alloc (.cells [.int .i64 (x : Int)] true false 1), ?_, .inr ⟨h.next + 1, [.int .i64 (x : Int)], false, by simp, by omega, by simp, by simp, by simp, by simp [toN]⟩, .of_adds (by first | exact aK | exact kK), by simp, .inr ⟨_, rfl, by omega⟩⟩
    simp only [appendD, h1, h2, h3, h4, hsrc, h5]
    simp [Value.cells]
  · have hgp : (h.alloc (.cells [.int .i64 (x : Int)] true true 1)).get p = .cells cs true ex 1 := by simp [Nat.ne_of_lt hp, hg]
    by_cases hc : W.length + 1 ≤ cs.length
    · refine ⟨.slice (some ⟨p, 0, none⟩) (W.length + 1) cs.length, (h.alloc (.cells [.int .i64 (x : Int)] true true 1)).put p (.cells (putCells cs W.length [.int .i64 (x : Int)]) true ex 1), ?_, .inr ⟨p, _, ex, ?_, hB, by simp; omega, by simp; rfl, ?_, ?_⟩, W0.put rfl (fun _ => rfl), by simp, .inl rfl⟩
      · simp only [appendD, h1, h2, h3, h4, hsrc, h5]
        simp only [hgp]; simp [Value.cells, hc]
      · rw [putCells_length (by simpa using hc)]; simp
      · rw [putCells_length (by simpa using hc)]; exact ⟨by simpa using hc, hlc.2⟩
      · simp only [putCells, List.length_append, List.length_singleton, List.take_append, List.take_take, List.length_take]
        rw [toN_snoc, List.map_append, ← ht]
        have e1 : min (W.length + 1) W.length = W.length := by omega
        have e2 : min W.length cs.length = W.length := by omega
        rw [e1, e2]
        simp
    · have e : cs.length = W.length := by omega
      have ht' : cs = (toN W).map (.int .i64) := by rw [← ht, List.take_of_length_le (by omega)]
      have hbb : W.length + 1 ≤ 140737488355328 := by omega
      have hW1 : Wr (fun o => objOf (.slice (some ⟨p, 0, none⟩) W.length cs.length) = some o) h (growHp (h.alloc (.cells [.int .i64 (x : Int)] true true 1)) p ex (.cells (cs ++ [.int .i64 (x : Int)]) true false 1)) := by
        cases ex with
        | true => exact W0.trans (.of_adds (by simp [growHp]))
        | false => exact (W0.put (o := p) rfl (x := .dead) (fun hf => by cases hf)).trans (.of_adds (by simp [growHp]))
      have hgr : (growHp (h.alloc (.cells [.int .i64 (x : Int)] true true 1)) p ex (.cells (cs ++ [.int .i64 (x : Int)]) true false 1)).next = h.next + 2 ∧ (growHp (h.alloc (.cells [.int .i64 (x : Int)] true true 1)) p ex (.cells (cs ++ [.int .i64 (x : Int)]) true false 1)).get (h.next + 1) = .cells (cs ++ [.int .i64 (x : Int)]) true false 1 := by
        cases ex <;> simp [growHp]
      refine ⟨.slice (some ⟨h.next + 1, 0, none⟩) (W.length + 1) (W.length + 1), growHp (h.alloc (.cells [.int .i64 (x : Int)] true true 1)) p ex (.cells (cs ++ [.int .i64 (x : Int)]) true false 1), ?_, .inr ⟨h.next + 1, cs ++ [.int .i64 (x : Int)], false, by simp [e], by omega, by rw [hgr.1]; omega, hgr.2, by simp [e]; omega, ?_⟩, hW1, by rw [hgr.1]; omega, .inr ⟨_, rfl, by omega⟩⟩
      · simp only [appendD, h1, h2, h3, h4, hsrc, h5]
        have hta : cs.take W.length = cs := List.take_of_length_le (by omega)
        have hbb8 : (W.length + 1) * 8 ≤ 140737488355328 := by omega
        rw [e]; simp only [hgp]; simp [Value.cells, hc, e, hta, hbb8]
      · rw [toN_snoc, List.map_append, ht']
        rw [List.take_of_length_le (by simp [toN])]; simp
end Go.Proofs.Ytnncipcldbopgaa
namespace Go.Proofs.Ytnncipcldbopgaa
set_option linter.unusedSimpArgs false
set_option linter.unusedVariables false
set_option maxHeartbeats 4000000
open Go Go.Eng
attribute [local irreducible] WD RunD PreD Runs CallOK
structure WA where
  os : Nat
  od : Nat
  fo : Nat
  oF : Nat
  ow : Nat
  og : Nat
  on : Nat
  B : Nat
def pt (o : Nat) : Value := .pointer (some ⟨o, 0, none⟩)
def WA.cap (A : WA) : Array Value := #[.pointer (some ⟨A.os, 0, none⟩), .pointer (some ⟨A.od, 0, none⟩), .pointer (some ⟨A.ow, 0, none⟩), .pointer (some ⟨A.og, 0, none⟩), .pointer (some ⟨A.oF, 0, none⟩), .pointer (some ⟨A.on, 0, none⟩)]
structure WSt (base : Nat) (S : Nat → Prop) (A : WA) (n : Nat) (M : Nat → Bool) (b : Value) (X : List Int) (dv : Value) (h : Hp) (W : List Nat) (v : Value) : Prop where
  ord : base ≤ A.os ∧ A.os < A.od ∧ A.od < A.fo ∧ A.fo < A.oF ∧ A.oF < A.ow ∧ A.ow < A.og ∧ A.og < A.on ∧ A.on < A.B ∧ A.B ≤ h.next
  gs : h.get A.os = .cells [.int .i64 (n : Int), b] true true 1
  ib : IntsF (fun x => x < base ∧ ¬ S x) h b X
  gd : h.get A.od = .cells [dv] true true 1
  gF : h.get A.fo = .cells (famC M) true true 1
  gf : h.get A.oF = .cells [.pointer (some ⟨A.fo, 0, none⟩)] true true 1
  gw : h.get A.ow = .cells [v] true true 1
  gg : h.get A.og = .cells [.bool true] true true 1
  gn : h.get A.on = .cells [.func (.func 248) #[] #[.pointer (some ⟨A.os, 0, none⟩), .pointer (some ⟨A.od, 0, none⟩), .pointer (some ⟨A.ow, 0, none⟩), .pointer (some ⟨A.og, 0, none⟩), .pointer (some ⟨A.oF, 0, none⟩), .pointer (some ⟨A.on, 0, none⟩)]] true true 1
  ws : WS A.B h v W
theorem WSt.keep {base : Nat} {S : Nat → Prop} {A : WA} {n : Nat} {M : Nat → Bool} {b : Value} {X : List Int} {dv : Value} {h h' : Hp} {W : List Nat} {v : Value} (k : WSt base S A n M b X dv h W v) (hS : ∀ o, S o → o < base) {T : Nat → Prop} (hT : ∀ o, T o → A.B ≤ o ∧ objOf v ≠ some o) (w : Wr (fun o => S o ∨ T o) h h') : WSt base S A n M b X dv h' W v := by
  obtain ⟨o1, o2, o3, o4, o5, o6, o7, o8, o9⟩ := k.ord
  have hn := w.upd.1
  have hg : ∀ o, base ≤ o → o < A.B → h'.get o = h.get o := fun o h1 h2 => w.upd.2 o (by omega) fun hs => by
    rcases hs with hs | hs
    · have := hS o hs; omega
    · have := hT o hs; omega
  exact {
    ord := ⟨o1, o2, o3, o4, o5, o6, o7, o8, by omega⟩
    gs := by rw [hg _ (by omega) (by omega)]; exact k.gs
    ib := k.ib.same ⟨hn, fun q hq hl => w.upd.2 q hl fun hs => by
      rcases hs with hs | hs
      · exact hq.2 hs
      · have := hT q hs; have := hq.1; omega⟩
    gd := by rw [hg _ (by omega) (by omega)]; exact k.gd
    gF := by rw [hg _ (by omega) (by omega)]; exact k.gF
    gf := by rw [hg _ (by omega) (by omega)]; exact k.gf
    gw := by rw [hg _ (by omega) (by omega)]; exact k.gw
    gg := by rw [hg _ (by omega) (by omega)]; exact k.gg
    gn := by rw [hg _ (by omega) (by omega)]; exact k.gn
    ws := k.ws.keep hn fun o ho => w.upd.2 o (k.ws.obj ho).2 fun hs => by
      rcases hs with hs | hs
      · have := hS o hs; have := (k.ws.obj ho).1; omega
      · exact (hT o hs).2 ho }
theorem WSt.put {base : Nat} {S : Nat → Prop} {A : WA} {n : Nat} {M : Nat → Bool} {b : Value} {X : List Int} {dv : Value} {h h' h2 : Hp} {W W' : List Nat} {v v' : Value} (k : WSt base S A n M b X dv h W v) (hS : ∀ o, S o → o < base)
    (w : Wr (fun o => objOf v = some o) h h') (hw : WS A.B h' v' W') (he : h2 = h'.put A.ow (.cells [v'] true true 1)) : WSt base S A n M b X dv h2 W' v' := by
  subst he
  obtain ⟨o1, o2, o3, o4, o5, o6, o7, o8, o9⟩ := k.ord
  have hn := w.upd.1
  have hg : ∀ o, o < A.B → o ≠ A.ow → (h'.put A.ow (.cells [v'] true true 1)).get o = h.get o := fun o h1 h2 => by
    simp [h2]
    exact w.upd.2 o (by omega) fun hs => by have := (k.ws.obj hs).1; omega
  exact {
    ord := ⟨o1, o2, o3, o4, o5, o6, o7, o8, by simp; omega⟩
    gs := by rw [hg _ (by omega) (by omega)]; exact k.gs
    ib := k.ib.same ⟨by simp; exact hn, fun q hq hl => hg q (by omega) (by omega)⟩
    gd := by rw [hg _ (by omega) (by omega)]; exact k.gd
    gF := by rw [hg _ (by omega) (by omega)]; exact k.gF
    gf := by rw [hg _ (by omega) (by omega)]; exact k.gf
    gw := by simp
    gg := by rw [hg _ (by omega) (by omega)]; exact k.gg
    gn := by rw [hg _ (by omega) (by omega)]; exact k.gn
    ws := hw.keep (by simp) fun o ho => by simp [show o ≠ A.ow by have := (hw.obj ho).1; omega] }
theorem WSt.putG {base : Nat} {S : Nat → Prop} {A : WA} {n : Nat} {M : Nat → Bool} {b : Value} {X : List Int} {dv : Value} {h h2 : Hp} {W : List Nat} {v : Value} (k : WSt base S A n M b X dv h W v)
    (he : h2 = h.put A.og (.cells [.bool true] true true 1)) : WSt base S A n M b X dv h2 W v := by
  subst he
  obtain ⟨o1, o2, o3, o4, o5, o6, o7, o8, o9⟩ := k.ord
  have hg : ∀ o, o ≠ A.og → (h.put A.og (.cells [.bool true] true true 1)).get o = h.get o := fun o h2 => by simp [h2]
  exact {
    ord := ⟨o1, o2, o3, o4, o5, o6, o7, o8, by simp; omega⟩
    gs := by rw [hg _ (by omega)]; exact k.gs
    ib := k.ib.same ⟨by simp, fun q hq hl => hg q (by omega)⟩
    gd := by rw [hg _ (by omega)]; exact k.gd
    gF := by rw [hg _ (by omega)]; exact k.gF
    gf := by rw [hg _ (by omega)]; exact k.gf
    gw := by rw [hg _ (by omega)]; exact k.gw
    gg := by simp
    gn := by rw [hg _ (by omega)]; exact k.gn
    ws := k.ws.keep (by simp) fun o ho => by simp [show o ≠ A.og by have := (k.ws.obj ho).1; omega] }
section
variable {σ : Type} (P : σ → (Nat → Prop) → Hp → Prop) (step : σ → List Nat → σ) (Good : List Nat → Prop) (base : Nat) (S : Nat → Prop) (fid : Nat) (dc : Array Value)
structure Doer : Prop where
  stab : ∀ s T h h', P s T h → base ≤ h.next → h.next ≤ h'.next → (∀ o, o < h.next → (o < base ∨ T o) → h'.get o = h.get o) → P s T h'
  run : ∀ s T h w v, P s T h → base ≤ h.next → Ints h v (toN w) → Good w → ∃ h', CallOK Try.prog fid (#[v] ++ dc) h (.bool true) h' ∧ Wr (fun o => S o ∨ T o) h h' ∧ ∃ T', P (step s w) T' h' ∧ ∀ o, T' o → (T o ∨ h.next ≤ o) ∧ o < h'.next
  low : ∀ o, S o → o < base
  fn : fnOK Try.prog fid = true
end
theorem next_ok {σ : Type} (P : σ → (Nat → Prop) → Hp → Prop) (step : σ → List Nat → σ) (Good : List Nat → Prop) (base : Nat) (S : Nat → Prop) (fid : Nat) (dc : Array Value) (D : Doer P step Good base S fid dc) (A : WA) (n : Nat) (xs : List Nat) (g : SpGood n xs) (b : Value) (X : List Int) :
    ∀ (k : Nat) (h : Hp) (W : List Nat) (set : Nat) (v : Value) (s : σ) (T : Nat → Prop), WSt base S A n (fam xs) b X (.func (.func fid) #[] dc) h W v → P s T h → (∀ o, T o → (A.B ≤ o ∧ o < h.next) ∧ objOf v ≠ some o) → set ∈ xs → pcN set + k = n → W.length + k = n → (∀ w ∈ wordsF (fam xs) n k W set, Good w) →
    ∃ u h', CallOK Try.prog 248 #[.int .i64 (set : Int), .pointer (some ⟨A.os, 0, none⟩), .pointer (some ⟨A.od, 0, none⟩), .pointer (some ⟨A.ow, 0, none⟩), .pointer (some ⟨A.og, 0, none⟩), .pointer (some ⟨A.oF, 0, none⟩), .pointer (some ⟨A.on, 0, none⟩)] h u h' ∧ ∃ v' T',
      WSt base S A n (fam xs) b X (.func (.func fid) #[] dc) h' W v' ∧ P ((wordsF (fam xs) n k W set).foldl step s) T' h' ∧ (∀ o, T' o → (A.B ≤ o ∧ o < h'.next) ∧ objOf v' ≠ some o) ∧ (∀ o, T' o → T o ∨ h.next ≤ o) ∧ Wr (fun o => S o ∨ T o ∨ o = A.ow ∨ o = A.og ∨ objOf v = some o) h h' ∧ (objOf v' = objOf v ∨ ∃ p, objOf v' = some p ∧ h.next ≤ p) := by
  intro k
  induction k with
  | zero =>
    intro h W set v s T hw hP hT hset hk hWk hgood
    refine callY_L (args := [.int .i64 (set : Int), .pointer (some ⟨A.os, 0, none⟩), .pointer (some ⟨A.od, 0, none⟩), .pointer (some ⟨A.ow, 0, none⟩), .pointer (some ⟨A.og, 0, none⟩), .pointer (some ⟨A.oF, 0, none⟩), .pointer (some ⟨A.on, 0, none⟩)]) 44 _ [] Try.func248 rfl rfl rfl ?_
    have hsa : set = bit n - 1 := (pcN_lt g.n7 (g.lt set hset)).2 (by omega)
    have hgs := hw.gs
    have hgd := hw.gd
    have hgw := hw.gw
    have hfn := D.fn
    have n7 := g.n7
    try simp (disch := first | omega | (simp; done) | fail) [wrap64c, if_pos, if_neg, opAnd, opOr, opXor, opDiff, opShr, opBit, hgs, hgd, hgw, hfn]
    refine callG_c (by simp) (by simp) ?ha (all_ok h (.agg #[.int .i64 (n : Int), b]) n X (.mk hw.ib.ints) (by omega)) ?_
    (case ha => simp (disch := first | omega | (simp; done) | fail) [wrap64c, if_pos, if_neg, opAnd, opOr, opXor, opDiff, opShr, opBit, hgs, hgd, hgw, hfn])
    have hn := hw.ord
    try simp (disch := first | omega | (simp; done) | fail) [wrap64c, if_pos, if_neg, opAnd, opOr, opXor, opDiff, opShr, opBit, hgs, hgd, hgw, hfn, hsa]
    obtain ⟨h1, hc1, W1, T1, P1, hT1⟩ := D.run s T h W v hP (by omega) hw.ws.ints (hgood W (by simp [wordsF]))
    refine callG_f (fst := #[]) (cap := dc) (by simp) (by simp) ?hf ?hk ?ha (hc1) ?_
    (case hf => simp (disch := first | omega | (simp; done) | fail) [wrap64c, if_pos, if_neg, opAnd, opOr, opXor, opDiff, opShr, opBit, hgs, hgd, hgw, hfn]; try rfl)
    (case hk => simp (disch := first | omega | (simp; done) | fail) [wrap64c, if_pos, if_neg, opAnd, opOr, opXor, opDiff, opShr, opBit, hgs, hgd, hgw, hfn])
    (case ha => simp (disch := first | omega | (simp; done) | fail) [wrap64c, if_pos, if_neg, opAnd, opOr, opXor, opDiff, opShr, opBit, hgs, hgd, hgw, hfn])
    have hw1 := hw.keep D.low (fun o ho => ⟨(hT o ho).1.1, (hT o ho).2⟩) W1
    have hgg := hw1.gg
    try simp (disch := first | omega | (simp; done) | fail) [wrap64c, if_pos, if_neg, opAnd, opOr, opXor, opDiff, opShr, opBit, hgs, hgd, hgw, hfn, hgg, putCells]
    have hw2 := hw1.putG (h2 := h1.put A.og (.cells [.bool true] true true 1)) rfl
    have hT2 : ∀ o, T1 o → A.B ≤ o := fun o ho => by
      rcases (hT1 o ho).1 with h1 | h1
      · exact (hT o h1).1.1
      · omega
    refine done_ret rfl ⟨v, T1, hw2, ?_, fun o ho => ⟨⟨hT2 o ho, (hT1 o ho).2⟩, fun e => ?_⟩, fun o ho => (hT1 o ho).1, ?_, .inl rfl⟩
    · exact D.stab _ T1 h1 _ P1 (by have := W1.upd.1; omega) (by simp) fun o _ ho => by
        have : o ≠ A.og := by
          rcases ho with ho | ho
          · omega
          · have := hT2 o ho; omega
        simp [this]
    · rcases (hT1 o ho).1 with h1 | h1
      · exact (hT o h1).2 e
      · have := (hw.ws.obj e).2; omega
    · exact (W1.mono fun o _ hs => hs.elim .inl fun h => .inr (.inl h)).put (.inr (.inr (.inr (.inl rfl)))) (fun _ => rfl)
  | succ k ih =>
    intro h W set v s T hw hP hT hset hk hWk hgood
    refine callY_L (args := [.int .i64 (set : Int), .pointer (some ⟨A.os, 0, none⟩), .pointer (some ⟨A.od, 0, none⟩), .pointer (some ⟨A.ow, 0, none⟩), .pointer (some ⟨A.og, 0, none⟩), .pointer (some ⟨A.oF, 0, none⟩), .pointer (some ⟨A.on, 0, none⟩)]) 44 _ [] Try.func248 rfl rfl rfl ?_
    have hsa : set ≠ bit n - 1 := fun e => by have := pcN_full g.n7; rw [← e] at this; omega
    have hs7 := g.lt7 set hset
    have hn := hw.ord
    have hgs := hw.gs
    have hgf := hw.gf
    have n7 := g.n7
    have hbn := bit7 n7
    have hsb : ((set : Int) == ((bit n - 1 : Nat) : Int)) = false := by simp; omega
    try simp (disch := first | omega | (simp; done) | fail) [wrap64c, if_pos, if_neg, opAnd, opOr, opXor, opDiff, opShr, opBit, hgs, hgf, hsb]
    refine callG_c (by simp) (by simp) ?ha (all_ok h (.agg #[.int .i64 (n : Int), b]) n X (.mk hw.ib.ints) (by omega)) ?_
    (case ha => simp (disch := first | omega | (simp; done) | fail) [wrap64c, if_pos, if_neg, opAnd, opOr, opXor, opDiff, opShr, opBit, hgs, hgf, hsb])
    try simp (disch := first | omega | (simp; done) | fail) [wrap64c, if_pos, if_neg, opAnd, opOr, opXor, opDiff, opShr, opBit, hgs, hgf, hsb]
    refine callG_c (by simp) (by simp) ?ha (imOuter_ok h A.fo (fam xs) true true 1 set (by omega) hw.gF hs7) ?_
    (case ha => simp (disch := first | omega | (simp; done) | fail) [wrap64c, if_pos, if_neg, opAnd, opOr, opXor, opDiff, opShr, opBit, hgs, hgf, hsb])
    rw [g.outer7 set]
    have hol := outerN_lt (fam xs) n set
    obtain ⟨q, h2, hc2, ha2, hi2, _⟩ := items_ok h (outerN (fam xs) n set) (by omega)
    try simp (disch := first | omega | (simp; done) | fail) [wrap64c, if_pos, if_neg, opAnd, opOr, opXor, opDiff, opShr, opBit, hgs, hgf, hsb]
    refine callG_c (by simp) (by simp) ?ha (hc2) ?_
    (case ha => simp (disch := first | omega | (simp; done) | fail) [wrap64c, if_pos, if_neg, opAnd, opOr, opXor, opDiff, opShr, opBit, hgs, hgf, hsb])
    obtain ⟨I, hI⟩ : ∃ I, I = itemsN (outerN (fam xs) n set) := ⟨_, rfl⟩
    have hIl : I.length ≤ 7 := by rw [hI]; exact items_len _
    rw [← hI] at hi2
    have hM2 := hi2.ints.lenD
    have hgt := toN_get I
    have hln := toN_length I
    have n2 := ha2.1.1
    have W2 : Wr (fun o => S o ∨ T o) h h2 := .of_adds ha2
    have hw2 := hw.keep D.low (fun o ho => ⟨(hT o ho).1.1, (hT o ho).2⟩) W2
    have P2 := D.stab _ T h h2 hP (by omega) ha2.1.1 fun o ho _ => ha2.1.2 o ho
    try simp (disch := first | omega | (simp; done) | fail) [wrap64c, if_pos, if_neg, opAnd, opOr, opXor, opDiff, opShr, opBit, hgs, hgf, hsb, hM2, hgt]
    refine WD_loopC [0, 3, 4, 6, 20, 21] (fun m tm h' => ∃ j u s1 T1, m = I.length - j ∧ tm 22 = .int .i64 (j : Int) ∧ (j ≤ I.length) ∧ (WSt base S A n (fam xs) b X (.func (.func fid) #[] dc) h' W u) ∧ (P s1 T1 h') ∧ (∀ o, T1 o → (A.B ≤ o ∧ o < h'.next) ∧ objOf u ≠ some o) ∧ (∀ o, T1 o → T o ∨ h2.next ≤ o) ∧ (s1 = ((I.take j).flatMap fun i => wordsF (fam xs) n k (W ++ [i]) (nOr set (bit i))).foldl step s) ∧ (Wr (fun o => S o ∨ T o ∨ o = A.ow ∨ o = A.og ∨ objOf v = some o) h2 h') ∧ (objOf u = objOf v ∨ ∃ p, objOf u = some p ∧ h2.next ≤ p)) _ ⟨0, v, s, T, rfl, (by simp (disch := first | omega | (simp; done) | fail) [wrap64c, if_pos, if_neg, opAnd, opOr, opXor, opDiff, opShr, opBit, hgs, hgf, hsb, hM2, hgt]), (by first | omega | assumption | (simp (disch := first | omega | (simp; done) | fail) [wrap64c, if_pos, if_neg, opAnd, opOr, opXor, opDiff, opShr, opBit, hgs, hgf, hsb, hM2, hgt] <;> omega)), hw2, P2, (fun o ho => ⟨⟨(hT o ho).1.1, by have := (hT o ho).1.2; omega⟩, (hT o ho).2⟩), (fun o ho => .inl ho), rfl, (Wr.refl _ _), (.inl rfl)⟩ ?_
    rintro m tm h' hFr ⟨j, u, s1, T1, rfl, e22, hj, hww, hPP, hT1, hT2, hs1, hWr, ho⟩
    simp only [FrameL] at hFr
    obtain ⟨f0_0, f3_0, f4_0, f6_0, f20_0, f21_0, -⟩ := hFr
    try simp (disch := first | omega | (simp; done) | fail) [wrap64c, if_pos, if_neg, opAnd, opOr, opXor, opDiff, opShr, opBit, hgs, hgf, hsb, hM2, hgt] at f0_0 f3_0 f4_0 f6_0 f20_0 f21_0
    have e0 := f0_0
    have e3 := f3_0
    have e4 := f4_0
    have e6 := f6_0
    have e20 := f20_0
    have e21 := f21_0
    have hn3 := hWr.upd.1
    by_cases hlt : j < I.length
    · have hvI : Ints h' q (toN I) := (hi2.same (hWr.upd.same fun x hx hx' => by
        unfold Btw at hx
        rcases hx' with hx' | hx' | hx' | hx' | hx'
        · have := D.low x hx'; omega
        · have := (hT x hx').1.2; omega
        · omega
        · omega
        · have := (hw.ws.obj hx').2; omega)).ints
      obtain ⟨o_x, i_x, c_x, cs_x, own_x, ex_x, es_x, q_x, b_x, g_x, l_x, r_x⟩ := hvI.open ((by omega))
      have z_x : ∀ h2 : i_x < cs_x.length, cs_x[i_x] = _ := fun h2 => r_x 0 ((by omega)) h2
      obtain ⟨i, hi⟩ : ∃ i, i = I[j] := ⟨_, rfl⟩
      have hi' := hi.symm
      have hmi : i ∈ itemsN (outerN (fam xs) n set) := by rw [← hI, hi]; exact List.getElem_mem hlt
      obtain ⟨hin, hib, hix⟩ := g.learn hmi
      have hb7 := bit_lt7 (show i < 7 by omega)
      have hor := nOr128 (b := bit i) hs7 (by omega)
      have hgg := hww.gg
      have hgw := hww.gw
      have hgn := hww.gn
      have hn4 := hww.ord
      have htk : (I.take (j + 1)).flatMap (fun i => wordsF (fam xs) n k (W ++ [i]) (nOr set (bit i))) = ((I.take j).flatMap fun i => wordsF (fam xs) n k (W ++ [i]) (nOr set (bit i))) ++ wordsF (fam xs) n k (W ++ [i]) (nOr set (bit i)) := by
        rw [List.take_succ_eq_append_getElem hlt, List.flatMap_append, ← hi]; simp
      obtain ⟨u3, h3, hap, hws3, W3, hn5, ho3⟩ := appW hww.ws i (by omega) (by omega)
      have nt3 := hws3.nt
      have cs3 := hws3.cs
      have g3w : h3.get A.ow = .cells [u] true true 1 := by rw [W3.upd.2 _ (by omega) (fun e => by have := (hww.ws.obj e).1; omega)]; exact hww.gw
      try simp (disch := first | omega | (simp; done) | fail) [wrap64c, if_pos, if_neg, opAnd, opOr, opXor, opDiff, opShr, opBit, hgs, hgf, hsb, hM2, hgt, e0, e3, e4, e6, e20, e21, e22, hlt, q_x, g_x, l_x, r_x, z_x, hi', hgg, hgw, hgn, nt3, cs3, hap, putCells, g3w]
      have hw4 := hww.put D.low W3 hws3 (h2 := h3.put A.ow (.cells [u3] true true 1)) rfl
      have W4 : Wr (fun o => S o ∨ T o ∨ o = A.ow ∨ o = A.og ∨ objOf u = some o) h' (h3.put A.ow (.cells [u3] true true 1)) := (W3.mono fun o _ e => .inr (.inr (.inr (.inr e)))).put (.inr (.inr (.inl rfl))) fun _ => rfl
      have P4 := D.stab _ T1 h' (h3.put A.ow (.cells [u3] true true 1)) hPP (by omega) (by simp; omega) fun o hlo ho => by
        have h1 : o ≠ A.ow ∧ objOf u ≠ some o := by
          rcases ho with ho | ho
          · exact ⟨by omega, fun e => by have := (hww.ws.obj e).1; omega⟩
          · exact ⟨by have := (hT1 o ho).1.1; omega, (hT1 o ho).2⟩
        simp [h1.1]
        exact W3.upd.2 _ hlo h1.2
      obtain ⟨h4, hh4⟩ : ∃ h4, h4 = h3.put A.ow (.cells [u3] true true 1) := ⟨_, rfl⟩
      rw [← hh4] at hw4 W4 P4
      have hn6 : h4.next = h3.next := by rw [hh4]; simp
      rw [← hh4]
      have hgn4 := hw4.gn
      refine WD_drawC 5 rfl (by kernel_rfl) ?_
      try simp (disch := first | omega | (simp; done) | fail) [wrap64c, if_pos, if_neg, opAnd, opOr, opXor, opDiff, opShr, opBit, hgs, hgf, hsb, hM2, hgt, e0, e3, e4, e6, e20, e21, e22, hlt, q_x, g_x, l_x, r_x, z_x, hi', hgg, hgw, hgn, nt3, cs3, hgn4]
      have hT4 : ∀ o, T1 o → (A.B ≤ o ∧ o < h4.next) ∧ objOf u3 ≠ some o := fun o ho => by
        refine ⟨⟨(hT1 o ho).1.1, by have := (hT1 o ho).1.2; omega⟩, fun e => ?_⟩
        rcases ho3 with ho3 | ⟨p, ho3, hp⟩
        · exact (hT1 o ho).2 (ho3 ▸ e)
        · rw [ho3] at e; cases e; have := (hT1 o ho).1.2; omega
      obtain ⟨_, h5, hc5, u5, T5, hw5, P5, hT5, hT6, W5, ho5⟩ := ih h4 (W ++ [i]) (nOr set (bit i)) u3 s1 T1 hw4 P4 hT4 hix (by rw [pcN_or hs7 (by omega) hib]; omega) (by simp; omega) (fun w hm => hgood w (by
        rw [wordsF, List.mem_flatMap]; exact ⟨i, hmi, hm⟩))
      refine callG_f (fst := #[]) (cap := #[.pointer (some ⟨A.os, 0, none⟩), .pointer (some ⟨A.od, 0, none⟩), .pointer (some ⟨A.ow, 0, none⟩), .pointer (some ⟨A.og, 0, none⟩), .pointer (some ⟨A.oF, 0, none⟩), .pointer (some ⟨A.on, 0, none⟩)]) (by simp) (by simp) ?hf ?hk ?ha (hc5) ?_
      (case hf => simp (disch := first | omega | (simp; done) | fail) [wrap64c, if_pos, if_neg, opAnd, opOr, opXor, opDiff, opShr, opBit, hgs, hgf, hsb, hM2, hgt, e0, e3, e4, e6, e20, e21, e22, hlt, q_x, g_x, l_x, r_x, z_x, hi', hgg, hgw, hgn, nt3, cs3, hgn4]; try rfl)
      (case hk => simp (disch := first | omega | (simp; done) | fail) [wrap64c, if_pos, if_neg, opAnd, opOr, opXor, opDiff, opShr, opBit, hgs, hgf, hsb, hM2, hgt, e0, e3, e4, e6, e20, e21, e22, hlt, q_x, g_x, l_x, r_x, z_x, hi', hgg, hgw, hgn, nt3, cs3, hgn4])
      (case ha => simp (disch := first | omega | (simp; done) | fail) [wrap64c, if_pos, if_neg, opAnd, opOr, opXor, opDiff, opShr, opBit, hgs, hgf, hsb, hM2, hgt, e0, e3, e4, e6, e20, e21, e22, hlt, q_x, g_x, l_x, r_x, z_x, hi', hgg, hgw, hgn, nt3, cs3, hgn4])
      have hgw5 := hw5.gw
      rcases hw5.ws with ⟨_, e⟩ | ⟨p5, c5, x5, e5, q1, q2, q3, q4, q5⟩
      · simp at e
      · have hl5 : (W ++ [i]).length = W.length + 1 := by simp
        rw [hl5] at e5 q4 q5
        subst e5
        have n8 := W5.upd.1
        have hw7 : WS A.B h5 (.slice (some ⟨p5, 0, none⟩) W.length c5.length) W := .inr ⟨p5, c5, x5, rfl, q1, q2, q3, by omega, by
          have := congrArg (List.take W.length) q5
          rw [List.take_take, show min W.length (W.length + 1) = W.length by omega, toN_snoc, List.map_append, List.take_left' (by simp [toN])] at this
          exact this⟩
        have hw8 := hw5.put D.low (Wr.refl _ _) hw7 (h2 := h5.put A.ow (.cells [.slice (some ⟨p5, 0, none⟩) W.length c5.length] true true 1)) rfl
        have hle5 := q4.1
        have n9 := hw5.ord
        try simp (disch := first | omega | (simp; done) | fail) [wrap64c, if_pos, if_neg, opAnd, opOr, opXor, opDiff, opShr, opBit, hgs, hgf, hsb, hM2, hgt, e0, e3, e4, e6, e20, e21, e22, hlt, q_x, g_x, l_x, r_x, z_x, hi', hgg, hgw, hgn, nt3, cs3, hgn4, hgw5, putCells]
        refine loopK_next _ ?hm ?hf ⟨j + 1, .slice (some ⟨p5, 0, none⟩) W.length c5.length, (wordsF (fam xs) n k (W ++ [i]) (nOr set (bit i))).foldl step s1, T5, rfl, (by simp (disch := first | omega | (simp; done) | fail) [wrap64c, if_pos, if_neg, opAnd, opOr, opXor, opDiff, opShr, opBit, hgs, hgf, hsb, hM2, hgt, e0, e3, e4, e6, e20, e21, e22, hlt, q_x, g_x, l_x, r_x, z_x, hi', hgg, hgw, hgn, nt3, cs3, hgn4, hgw5] <;> omega), (by first | omega | assumption | (simp (disch := first | omega | (simp; done) | fail) [wrap64c, if_pos, if_neg, opAnd, opOr, opXor, opDiff, opShr, opBit, hgs, hgf, hsb, hM2, hgt, e0, e3, e4, e6, e20, e21, e22, hlt, q_x, g_x, l_x, r_x, z_x, hi', hgg, hgw, hgn, nt3, cs3, hgn4, hgw5] <;> omega)), hw8, ?c_hPP, (fun o ho => ⟨⟨(hT5 o ho).1.1, by simp; exact (hT5 o ho).1.2⟩, (hT5 o ho).2⟩), ?c_hT2, (by rw [htk, List.foldl_append, hs1]), ?c_hWr, ?c_ho⟩
        (case hm => first | omega | (simp; omega))
        (case hf => simp [FrameL, hgs, hgf, hsb, hM2, hgt, e0, e3, e4, e6, e20, e21, e22, hlt, q_x, g_x, l_x, r_x, z_x, hi', hgg, hgw, hgn, nt3, cs3, hgn4, hgw5, f0_0, f3_0, f4_0, f6_0, f20_0, f21_0])
        case c_hPP =>
          exact (D.stab _ T5 h5 _ P5 (by omega) (by simp) fun o _ ho => by
            have : o ≠ A.ow := by
              rcases ho with ho | ho
              · omega
              · have := (hT5 o ho).1.1; omega
            simp [this])
        case c_hT2 =>
          exact (fun o ho => by
            rcases hT6 o ho with h1 | h1
            · exact hT2 o h1
            · exact .inr (by omega))
        case c_hWr =>
          exact (by
            refine ((wr_trans2 (wr_trans2 hWr W4 ?_) W5 ?_)).put (.inr (.inr (.inl rfl))) fun _ => rfl
            · rintro o ho1 (e | e | e | e | e)
              · exact .inl e
              · exact .inr (.inl e)
              · exact .inr (.inr (.inl e))
              · exact .inr (.inr (.inr (.inl e)))
              · rcases ho with ho | ⟨p, ho, hp⟩
                · exact .inr (.inr (.inr (.inr (ho ▸ e))))
                · rw [ho] at e; cases e; omega
            · rintro o ho1 (e | e | e | e | e)
              · exact .inl e
              · rcases hT2 o e with h1 | h1
                · exact .inr (.inl h1)
                · omega
              · exact .inr (.inr (.inl e))
              · exact .inr (.inr (.inr (.inl e)))
              · rcases ho3 with ho3 | ⟨p, ho3, hp⟩
                · rw [ho3] at e
                  rcases ho with ho | ⟨p, ho, hp⟩
                  · exact .inr (.inr (.inr (.inr (ho ▸ e))))
                  · rw [ho] at e; cases e; omega
                · rw [ho3] at e; cases e; omega)
        case c_ho =>
          exact (by
            show some p5 = _ ∨ ∃ p, some p5 = some p ∧ _
            rcases ho5 with ho5 | ⟨p, ho5, hp⟩
            · rw [objOf_mk] at ho5
              rw [ho5]
              rcases ho3 with ho3 | ⟨p, ho3, hp⟩
              · rw [ho3]; exact ho
              · exact .inr ⟨p, ho3, by omega⟩
            · rw [objOf_mk] at ho5
              exact .inr ⟨p, ho5, by omega⟩)
    · have hje : I.take j = I := List.take_of_length_le (by omega)
      rw [hje] at hs1
      try simp (disch := first | omega | (simp; done) | fail) [wrap64c, if_pos, if_neg, opAnd, opOr, opXor, opDiff, opShr, opBit, hgs, hgf, hsb, hM2, hgt, e0, e3, e4, e6, e20, e21, e22, hlt]
      refine done_end rfl ⟨u, T1, hww, ?_, hT1, fun o ho => ?_, ?_, ?_⟩
      · rw [hs1, hI] at hPP
        exact hPP
      · rcases hT2 o ho with h1 | h1
        · exact .inl h1
        · exact .inr (by omega)
      · exact (W2.mono fun o _ hs => hs.elim .inl fun h => .inr (.inl h)).trans hWr
      · rcases ho with ho | ⟨p, ho, hp⟩
        · exact .inl ho
        · exact .inr ⟨p, ho, by omega⟩
end Go.Proofs.Ytnncipcldbopgaa
namespace Go.Proofs.Ytnncipcldbopgaa
set_option linter.unusedSimpArgs false
set_option linter.unusedVariables false
set_option maxHeartbeats 4000000
open Go Go.Eng
attribute [local irreducible] WD RunD PreD Runs CallOK
theorem those_ok (fid : Nat) (cap : Array Value) (p : Nat → Bool) (n : Nat) (hn : n ≤ 7) (P : Hp → Prop) (base : Nat) (hstab : ∀ h h', P h → base ≤ h.next → h.next ≤ h'.next → (∀ o, o < base → h'.get o = h.get o) → P h')
    (hf : ∀ h (a : Nat), P h → base ≤ h.next → a < bit n → CallOK Try.prog fid (#[.int .i64 (a : Int)] ++ cap) h (.bool (p a)) h) (hfn : fnOK Try.prog fid = true) (h : Hp) (hP : P h) (hb : base ≤ h.next) :
    ∃ v' h', CallOK Try.prog 253 #[.int .i64 (n : Int), .func (.func fid) #[] cap] h v' h' ∧ Adds h h' ∧ SpaceO (Btw h.next h'.next) h' v' n (toN (famK p (bit n))) := by
  refine callY_L (args := [.int .i64 (n : Int), .func (.func fid) #[] cap]) 25 _ [.cell 4 26] Try.func253 rfl rfl rfl ?_
  have hb7 := bit7 hn
  have hfn1 := hfn
  try simp (disch := first | omega | (simp; done) | fail) [wrap64c, if_pos, if_neg, opAnd, opOr, opXor, opDiff, opShr, opBit, hfn1, putCells]
  first | refine WY_heap fun h0 q_h0 => ?_ | refine callG_heap fun h0 q_h0 => ?_ | refine callP_heap fun h0 q_h0 => ?_ | refine callS_heap fun h0 q_h0 => ?_ | refine RY_heap fun h0 q_h0 => ?_ | refine PY_heap fun h0 q_h0 => ?_ | refine SY_heap fun h0 q_h0 => ?_ | refine doneY_heap fun h0 q_h0 => ?_ | refine loopK_heap fun h0 q_h0 => ?_ | refine thenY_heap fun h0 q_h0 => ?_ | refine thenM_heap fun h0 q_h0 => ?_
  have k0 : Adds h h0 := by rw [q_h0]; exact (by first | exact aK | exact kK)
  have n0 : h0.next = h.next + 2 := by simp [q_h0]
  have g1 : h0.get h.next = .cells [.int .i64 0, .slice none 0 0] true true 1 := by simp [q_h0]
  have g2 : h0.get (h.next + 1) = .cells [.int .i64 (n : Int), .slice none 0 0] true true 1 := by simp [q_h0]
  try simp (disch := first | omega | (simp; done) | fail) [wrap64c, if_pos, if_neg, opAnd, opOr, opXor, opDiff, opShr, opBit, hfn1]
  refine WD_loopC [1, 4, 5, 10] (fun m tm h' => ∃ k u, m = bit n - k ∧ tm 11 = .int .i64 (k : Int) ∧ (k ≤ bit n) ∧ (Adds h h') ∧ (h0.next ≤ h'.next) ∧ (h'.get h.next = .cells [.int .i64 0, .slice none 0 0] true true 1) ∧ (h'.get (h.next + 1) = .cells [.int .i64 (n : Int), u] true true 1) ∧ (IntsA h0.next h' u (toN (famK p k)))) _ ⟨0, .slice none 0 0, rfl, (by simp (disch := first | omega | (simp; done) | fail) [wrap64c, if_pos, if_neg, opAnd, opOr, opXor, opDiff, opShr, opBit, hfn1]), (by first | omega | assumption | (simp (disch := first | omega | (simp; done) | fail) [wrap64c, if_pos, if_neg, opAnd, opOr, opXor, opDiff, opShr, opBit, hfn1] <;> omega)), k0, (Nat.le_refl _), g1, g2, (by simp [famK, toN]; exact IntsA.nil _ _)⟩ ?_
  rintro m tm h' hFr ⟨k, u, rfl, e11, hk, ha, ha0, hg1, hg2, hu⟩
  simp only [FrameL] at hFr
  obtain ⟨f1_0, f4_0, f5_0, f10_0, -⟩ := hFr
  try simp (disch := first | omega | (simp; done) | fail) [wrap64c, if_pos, if_neg, opAnd, opOr, opXor, opDiff, opShr, opBit, hfn1] at f1_0 f4_0 f5_0 f10_0
  have e1 := f1_0
  have e4 := f4_0
  have e5 := f5_0
  have e10 := f10_0
  have P1 := hstab h h' hP hb ha.1.1 fun o ho => ha.1.2 o (by omega)
  have hb1 : base ≤ h'.next := by have := ha.1.1; omega
  by_cases hlt : k < bit n
  · have hs := famK_succ p k
    have hle := famK_len p k
    try simp (disch := first | omega | (simp; done) | fail) [wrap64c, if_pos, if_neg, opAnd, opOr, opXor, opDiff, opShr, opBit, hfn1, e1, e4, e5, e10, e11, hg1, hg2, hlt]
    refine callG_f (fst := #[]) (cap := cap) (by simp) (by simp) ?hf ?hk ?ha (hf h' k P1 hb1 hlt) ?_
    (case hf => simp (disch := first | omega | (simp; done) | fail) [wrap64c, if_pos, if_neg, opAnd, opOr, opXor, opDiff, opShr, opBit, hfn1, e1, e4, e5, e10, e11, hg1, hg2, hlt]; try rfl)
    (case hk => simp (disch := first | omega | (simp; done) | fail) [wrap64c, if_pos, if_neg, opAnd, opOr, opXor, opDiff, opShr, opBit, hfn1, e1, e4, e5, e10, e11, hg1, hg2, hlt])
    (case ha => simp (disch := first | omega | (simp; done) | fail) [wrap64c, if_pos, if_neg, opAnd, opOr, opXor, opDiff, opShr, opBit, hfn1, e1, e4, e5, e10, e11, hg1, hg2, hlt])
    cases hc : p k
    · rw [if_neg (by simp [hc])] at hs
      try simp (disch := first | omega | (simp; done) | fail) [wrap64c, if_pos, if_neg, opAnd, opOr, opXor, opDiff, opShr, opBit, hfn1, e1, e4, e5, e10, e11, hg1, hg2, hlt, hc]
      refine loopK_next _ ?hm ?hf ⟨k + 1, u, rfl, (by simp (disch := first | omega | (simp; done) | fail) [wrap64c, if_pos, if_neg, opAnd, opOr, opXor, opDiff, opShr, opBit, hfn1, e1, e4, e5, e10, e11, hg1, hg2, hlt, hc] <;> omega), (by first | omega | assumption | (simp (disch := first | omega | (simp; done) | fail) [wrap64c, if_pos, if_neg, opAnd, opOr, opXor, opDiff, opShr, opBit, hfn1, e1, e4, e5, e10, e11, hg1, hg2, hlt, hc] <;> omega)), (by first | omega | assumption | (simp (disch := first | omega | (simp; done) | fail) [wrap64c, if_pos, if_neg, opAnd, opOr, opXor, opDiff, opShr, opBit, hfn1, e1, e4, e5, e10, e11, hg1, hg2, hlt, hc] <;> omega)), (by first | omega | assumption | (simp (disch := first | omega | (simp; done) | fail) [wrap64c, if_pos, if_neg, opAnd, opOr, opXor, opDiff, opShr, opBit, hfn1, e1, e4, e5, e10, e11, hg1, hg2, hlt, hc] <;> omega)), (by first | omega | assumption | (simp (disch := first | omega | (simp; done) | fail) [wrap64c, if_pos, if_neg, opAnd, opOr, opXor, opDiff, opShr, opBit, hfn1, e1, e4, e5, e10, e11, hg1, hg2, hlt, hc] <;> omega)), (by first | omega | assumption | (simp (disch := first | omega | (simp; done) | fail) [wrap64c, if_pos, if_neg, opAnd, opOr, opXor, opDiff, opShr, opBit, hfn1, e1, e4, e5, e10, e11, hg1, hg2, hlt, hc] <;> omega)), (by rw [hs]; exact hu)⟩
      (case hm => first | omega | (simp; omega))
      (case hf => simp [FrameL, hfn1, e1, e4, e5, e10, e11, hg1, hg2, hlt, hc, f1_0, f4_0, f5_0, f10_0])
    · rw [if_pos hc] at hs
      have ntu := (hu.own (by simp; omega)).nt
      have csu := (hu.own (by simp; omega)).cs
      try simp (disch := first | omega | (simp; done) | fail) [wrap64c, if_pos, if_neg, opAnd, opOr, opXor, opDiff, opShr, opBit, hfn1, e1, e4, e5, e10, e11, hg1, hg2, hlt, hc, ntu, csu]
      obtain ⟨u2, h2, hap, hu2, ha2, hn2, hs2⟩ := appI hu (k : Int) (by simp; omega) ha0 ha (by omega)
      have gq : h2.get (h.next + 1) = .cells [.int .i64 (n : Int), u] true true 1 := by rw [hs2 _ (by omega) (by omega)]; exact hg2
      have gq1 : h2.get h.next = .cells [.int .i64 0, .slice none 0 0] true true 1 := by rw [hs2 _ (by omega) (by omega)]; exact hg1
      have nt2 := (hu2.own (by simp; omega)).nt
      have cs2 := (hu2.own (by simp; omega)).cs
      try simp (disch := first | omega | (simp; done) | fail) [wrap64c, if_pos, if_neg, opAnd, opOr, opXor, opDiff, opShr, opBit, hfn1, e1, e4, e5, e10, e11, hg1, hg2, hlt, hc, ntu, csu, gq, gq1, nt2, cs2, hap, putCells]
      refine loopK_next _ ?hm ?hf ⟨k + 1, u2, rfl, (by simp (disch := first | omega | (simp; done) | fail) [wrap64c, if_pos, if_neg, opAnd, opOr, opXor, opDiff, opShr, opBit, hfn1, e1, e4, e5, e10, e11, hg1, hg2, hlt, hc, ntu, csu, gq, gq1, nt2, cs2] <;> omega), (by first | omega | assumption | (simp (disch := first | omega | (simp; done) | fail) [wrap64c, if_pos, if_neg, opAnd, opOr, opXor, opDiff, opShr, opBit, hfn1, e1, e4, e5, e10, e11, hg1, hg2, hlt, hc, ntu, csu, gq, gq1, nt2, cs2] <;> omega)), (by first | exact aK | exact kK), (by simp; omega), (by simp [gq1]), (by simp), (by rw [hs, toN_snoc]; exact IntsA.putB hu2 (by omega) _)⟩
      (case hm => first | omega | (simp; omega))
      (case hf => simp [FrameL, hfn1, e1, e4, e5, e10, e11, hg1, hg2, hlt, hc, ntu, csu, gq, gq1, nt2, cs2, f1_0, f4_0, f5_0, f10_0])
  · have e : k = bit n := by omega
    subst e
    have hle := famK_len p (bit n)
    have ntu := (hu.own (by simp; omega)).nt
    have csu := (hu.own (by simp; omega)).cs
    try simp (disch := first | omega | (simp; done) | fail) [wrap64c, if_pos, if_neg, opAnd, opOr, opXor, opDiff, opShr, opBit, hfn1, e1, e4, e5, e10, e11, hg1, hg2, hlt, ntu, csu, putCells]
    have hn1 := ha.1.1
    refine done_ret (by simp [putCells, e4]; rfl) ⟨(by first | exact aK | exact kK), u, by simp, ?_⟩
    exact ((IntsA.putB hu (show h.next < h0.next by omega) _).own (by simp; omega)).sub fun o ho => ⟨by have := ho.1; omega, by have := ho.2; simpa using this⟩
theorem cloneNil_ok (h : Hp) : CallOK Try.prog 247 #[.slice none 0 0] h (.slice none 0 0) h := by
  refine callY_P 8 _ [.tmp 2] Try.func247 rfl rfl rfl (by first | rfl | simp) ?_
  try simp (disch := first | omega | (simp; done) | fail) [wrap64c, if_pos, if_neg, opAnd, opOr, opXor, opDiff, opShr, opBit, Try.underlying24]
  exact done_ret rfl (by simp)
theorem setOfNil_ok (h : Hp) (v : Value) (N : Int) (xs : List Nat) (hv : Space h v N (toN xs)) (hx : ∀ x ∈ xs, x < 128) (hl : xs.length < 2 ^ 40) :
    CallOK Try.prog 249 #[v, .slice none 0 0] h (.tuple #[.int .i64 0, .bool true]) h := by
  refine callY_P 48 _ [.tmp 4, .tmp 5] Try.func249 rfl rfl rfl (by first | rfl | simp) ?_
  obtain ⟨b, rfl, hX⟩ := hv
  refine WD_first ?_
  try simp (disch := first | omega | (simp; done) | fail) [wrap64c, if_pos, if_neg, opAnd, opOr, opXor, opDiff, opShr, opBit]
  refine stopK_heap fun h0 q_h0 => ?_
  refine stopK_go ?_
  have g_h0 : h0.get h.next = .cells [.int .i64 N, b] true true 1 := by simp [q_h0]
  have k_h0 : Adds h h0 := by rw [q_h0]; exact (by first | exact aK | exact kK)
  have n_h0 : h.next < h0.next := by simp [q_h0]; try omega
  try simp (disch := first | omega | (simp; done) | fail) [wrap64c, if_pos, if_neg, opAnd, opOr, opXor, opDiff, opShr, opBit, g_h0]
  obtain ⟨_, h1, hc1, o, rfl, ha1, hr⟩ := family_ok h0 (.agg #[.int .i64 N, b]) N xs (.mk (hX.keep k_h0.1)) hx hl
  refine callG_c (by simp) (by simp) ?ha (hc1) ?_
  (case ha => simp (disch := first | omega | (simp; done) | fail) [wrap64c, if_pos, if_neg, opAnd, opOr, opXor, opDiff, opShr, opBit, g_h0])
  try simp (disch := first | omega | (simp; done) | fail) [wrap64c, if_pos, if_neg, opAnd, opOr, opXor, opDiff, opShr, opBit, g_h0]
  refine WD_loopC [2, 6, 12, 13] (fun m tm h' => m = 0 ∧ h1 = h' ∧ tm 7 = .int .i64 0 ∧ tm 14 = .int .i64 0) _ ⟨rfl, rfl, (by simp (disch := first | omega | (simp; done) | fail) [wrap64c, if_pos, if_neg, opAnd, opOr, opXor, opDiff, opShr, opBit, g_h0]), (by simp (disch := first | omega | (simp; done) | fail) [wrap64c, if_pos, if_neg, opAnd, opOr, opXor, opDiff, opShr, opBit, g_h0])⟩ ?_
  rintro m tm h' hFr ⟨rfl, rfl, e7, e14⟩
  simp only [FrameL] at hFr
  obtain ⟨f2_0, f6_0, f12_0, f13_0, -⟩ := hFr
  try simp (disch := first | omega | (simp; done) | fail) [wrap64c, if_pos, if_neg, opAnd, opOr, opXor, opDiff, opShr, opBit, g_h0] at f2_0 f6_0 f12_0 f13_0
  have e2 := f2_0
  have e6 := f6_0
  have e12 := f12_0
  have e13 := f13_0
  try simp (disch := first | omega | (simp; done) | fail) [wrap64c, if_pos, if_neg, opAnd, opOr, opXor, opDiff, opShr, opBit, g_h0, e2, e6, e7, e12, e13, e14]
  exact done_ret rfl (by simp [(k_h0.trans ha1).1])
theorem words_ok {σ : Type} (P : σ → (Nat → Prop) → Hp → Prop) (step : σ → List Nat → σ) (Good : List Nat → Prop) (base : Nat) (S : Nat → Prop) (fid : Nat) (dc : Array Value) (D : Doer P step Good base S fid dc) (n : Nat) (xs : List Nat) (g : SpGood n xs) (h : Hp) (b : Value) (s : σ)
    (hb : IntsF (fun x => x < base ∧ ¬ S x) h b (toN xs)) (hP : P s (fun _ => False) h) (hbase : base ≤ h.next) (hgood : ∀ w ∈ wordsF (fam xs) n n [] 0, Good w) :
    ∃ u h', CallOK Try.prog 203 #[.agg #[.int .i64 (n : Int), b], .slice none 0 0, .func (.func fid) #[] dc] h u h' ∧ Wr S h h' ∧ ∃ T, P ((wordsF (fam xs) n n [] 0).foldl step s) T h' ∧ ∀ o, T o → h.next ≤ o ∧ o < h'.next := by
  refine callY_L (args := [.agg #[.int .i64 (n : Int), b], .slice none 0 0, .func (.func fid) #[] dc]) 26 _ [] Try.func203 rfl rfl rfl ?_
  have hl7 := g.len7
  try simp (disch := first | omega | (simp; done) | fail) [wrap64c, if_pos, if_neg, opAnd, opOr, opXor, opDiff, opShr, opBit]
  first | refine WY_heap fun h0 q_h0 => ?_ | refine callG_heap fun h0 q_h0 => ?_ | refine callP_heap fun h0 q_h0 => ?_ | refine callS_heap fun h0 q_h0 => ?_ | refine RY_heap fun h0 q_h0 => ?_ | refine PY_heap fun h0 q_h0 => ?_ | refine SY_heap fun h0 q_h0 => ?_ | refine doneY_heap fun h0 q_h0 => ?_ | refine loopK_heap fun h0 q_h0 => ?_ | refine thenY_heap fun h0 q_h0 => ?_ | refine thenM_heap fun h0 q_h0 => ?_
  have k0 : Adds h h0 := by rw [q_h0]; exact (by first | exact aK | exact kK)
  have n0 : h0.next = h.next + 2 := by simp [q_h0]
  have g1 : h0.get h.next = .cells [.int .i64 (n : Int), b] true true 1 := by simp [q_h0]
  have g2 : h0.get (h.next + 1) = .cells [.func (.func fid) #[] dc] true true 1 := by simp [q_h0]
  obtain ⟨_, h1, hc1, fo, rfl, ha1, hfo1, hfo2, hgf⟩ := family_ok h0 (.agg #[.int .i64 (n : Int), b]) n xs (.mk (hb.ints.keep k0.1)) g.lt7 (by omega)
  try simp (disch := first | omega | (simp; done) | fail) [wrap64c, if_pos, if_neg, opAnd, opOr, opXor, opDiff, opShr, opBit]
  refine callG_c (by simp) (by simp) ?ha (hc1) ?_
  (case ha => simp (disch := first | omega | (simp; done) | fail) [wrap64c, if_pos, if_neg, opAnd, opOr, opXor, opDiff, opShr, opBit])
  try simp (disch := first | omega | (simp; done) | fail) [wrap64c, if_pos, if_neg, opAnd, opOr, opXor, opDiff, opShr, opBit]
  refine callG_c (by simp) (by simp) ?ha (cloneNil_ok h1) ?_
  (case ha => simp (disch := first | omega | (simp; done) | fail) [wrap64c, if_pos, if_neg, opAnd, opOr, opXor, opDiff, opShr, opBit])
  have n1 := ha1.1.1
  have g11 : h1.get h.next = .cells [.int .i64 (n : Int), b] true true 1 := by rw [ha1.1.2 _ (by omega)]; exact g1
  have g21 : h1.get (h.next + 1) = .cells [.func (.func fid) #[] dc] true true 1 := by rw [ha1.1.2 _ (by omega)]; exact g2
  try simp (disch := first | omega | (simp; done) | fail) [wrap64c, if_pos, if_neg, opAnd, opOr, opXor, opDiff, opShr, opBit, putCells]
  first | refine WY_heap fun h2 q_h2 => ?_ | refine callG_heap fun h2 q_h2 => ?_ | refine callP_heap fun h2 q_h2 => ?_ | refine callS_heap fun h2 q_h2 => ?_ | refine RY_heap fun h2 q_h2 => ?_ | refine PY_heap fun h2 q_h2 => ?_ | refine SY_heap fun h2 q_h2 => ?_ | refine doneY_heap fun h2 q_h2 => ?_ | refine loopK_heap fun h2 q_h2 => ?_ | refine thenY_heap fun h2 q_h2 => ?_ | refine thenM_heap fun h2 q_h2 => ?_
  have k2 : Adds h1 h2 := by rw [q_h2]; exact (by first | exact aK | exact kK)
  have n2 : h2.next = h1.next + 4 := by simp [q_h2]
  have hn0 := (k0.trans ha1).1.1
  have A2 := (k0.trans ha1).trans k2
  have hw : WSt base S ⟨h.next, h.next + 1, fo, h1.next, h1.next + 1, h1.next + 2, h1.next + 3, h1.next + 4⟩ n (fam xs) b (toN xs) (.func (.func fid) #[] dc) h2 [] (.slice none 0 0) := by
    constructor
    · dsimp only; omega
    · dsimp only; rw [k2.1.2 _ (by omega)]; exact g11
    · exact hb.keep A2.1
    · dsimp only; rw [k2.1.2 _ (by omega)]; exact g21
    · dsimp only; rw [k2.1.2 _ (by omega)]; exact hgf
    · simp [q_h2, show ¬ h1.next = h1.next + 1 + 2 by omega]
    · simp [q_h2]
    · simp [q_h2]
    · simp [q_h2]
    · exact WS.nil _ _
  have g22 : h2.get h.next = .cells [.int .i64 (n : Int), b] true true 1 := hw.gs
  have gn := hw.gn
  try simp (disch := first | omega | (simp; done) | fail) [wrap64c, if_pos, if_neg, opAnd, opOr, opXor, opDiff, opShr, opBit, g22, gn, g11]
  refine callG_c (by simp) (by simp) ?ha (setOfNil_ok h2 (.agg #[.int .i64 (n : Int), b]) n xs (.mk (hb.ints.keep A2.1)) g.lt7 (by omega)) ?_
  (case ha => simp (disch := first | omega | (simp; done) | fail) [wrap64c, if_pos, if_neg, opAnd, opOr, opXor, opDiff, opShr, opBit, g22, gn])
  try simp (disch := first | omega | (simp; done) | fail) [wrap64c, if_pos, if_neg, opAnd, opOr, opXor, opDiff, opShr, opBit, g22, gn]
  have P2 := D.stab s _ h h2 hP hbase A2.1.1 fun o ho _ => A2.1.2 o ho
  have hpc : pcN 0 = 0 := rfl
  obtain ⟨u, h3, hc3, v3, T3, hw3, P3, hT3, hT4, W3, _⟩ := next_ok P step Good base S fid dc D ⟨h.next, h.next + 1, fo, h1.next, h1.next + 1, h1.next + 2, h1.next + 3, h1.next + 4⟩ n xs g b (toN xs) n h2 [] 0 (.slice none 0 0) s (fun _ => False) hw P2 (fun _ hf => hf.elim) g.zero (by omega) (by simp) hgood
  refine callG_f (fst := #[]) (cap := #[.pointer (some ⟨h.next, 0, none⟩), .pointer (some ⟨h.next + 1, 0, none⟩), .pointer (some ⟨h1.next + 1, 0, none⟩), .pointer (some ⟨h1.next + 2, 0, none⟩), .pointer (some ⟨h1.next, 0, none⟩), .pointer (some ⟨h1.next + 3, 0, none⟩)]) (by simp) (by simp) ?hf ?hk ?ha (hc3) ?_
  (case hf => simp (disch := first | omega | (simp; done) | fail) [wrap64c, if_pos, if_neg, opAnd, opOr, opXor, opDiff, opShr, opBit, g22, gn]; try rfl)
  (case hk => simp (disch := first | omega | (simp; done) | fail) [wrap64c, if_pos, if_neg, opAnd, opOr, opXor, opDiff, opShr, opBit, g22, gn])
  (case ha => simp (disch := first | omega | (simp; done) | fail) [wrap64c, if_pos, if_neg, opAnd, opOr, opXor, opDiff, opShr, opBit, g22, gn])
  try simp (disch := first | omega | (simp; done) | fail) [wrap64c, if_pos, if_neg, opAnd, opOr, opXor, opDiff, opShr, opBit, g22, gn]
  refine done_end rfl ⟨wr_trans2 (.of_adds A2) W3 ?_, T3, P3, fun o ho => ⟨?_, (hT3 o ho).1.2⟩⟩
  · rintro o ho (e | e | e | e | e)
    · exact e
    · exact e.elim
    · dsimp only at e; omega
    · dsimp only at e; omega
    · cases e
  · rcases hT4 o ho with h1 | h1
    · exact h1.elim
    · omega
end Go.Proofs.Ytnncipcldbopgaa
namespace Go.Eng
def chunk (m : Nat) (cs : List Value) (k : Nat) : List Value := (cs.drop (k * m)).take m
theorem chunk_app1 {m : Nat} {a b : List Value} {n k : Nat} (ha : a.length = n * m) (hk : k < n) : chunk m (a ++ b) k = chunk m a k := by
  unfold chunk
  have h1 : k * m + m ≤ n * m := by
    have := Nat.mul_le_mul_right m (show k + 1 ≤ n from hk)
    rwa [Nat.add_mul, Nat.one_mul] at this
  rw [List.drop_append_of_le_length (by omega), List.take_append_of_le_length (by simp; omega)]
theorem chunk_app2 {m : Nat} {a b : List Value} {n k : Nat} (ha : a.length = n * m) (hk : n ≤ k) : chunk m (a ++ b) k = chunk m b (k - n) := by
  unfold chunk
  have h1 : n * m ≤ k * m := Nat.mul_le_mul_right m hk
  rw [List.drop_append, List.drop_eq_nil_of_le (by omega), List.nil_append, ha, Nat.sub_mul]
def ObjIn : Value → Nat → Prop
  | .slice (some ⟨o, _, _⟩) _ _, x => o = x
  | _, _ => False
structure Steady {α : Type} (R : (Nat → Prop) → Hp → List Value → α → Prop) : Prop where
  mono : ∀ F G h h' u x, R F h u x → (∀ o, F o → G o) → Same F h h' → R G h' u x
  low : ∀ F h u x, R F h u x → R (fun o => F o ∧ o < h.next) h u x
section
variable {α : Type} {m : Nat} {R : (Nat → Prop) → Hp → List Value → α → Prop}
def GL (m : Nat) (R : (Nat → Prop) → Hp → List Value → α → Prop) (n : Nat) (h : Hp) (v : Value) (L : List α) : Prop :=
  (L = [] ∧ v = .slice none 0 0) ∨ ∃ o ex cs, v = .slice (some ⟨o, 0, none⟩) L.length L.length ∧ n ≤ o ∧ o < h.next ∧ h.get o = .cells cs true ex m ∧ cs.length = L.length * m ∧ ∀ k (hk : k < L.length), R (fun x => n ≤ x ∧ x ≠ o) h (chunk m cs k) L[k]
theorem GL.nil (n : Nat) (h : Hp) : GL m R n h (.slice none 0 0) [] := .inl ⟨rfl, rfl⟩
theorem GL.lit {n : Nat} {h : Hp} {o : Nat} {ex : Bool} (h1 : n ≤ o) (h2 : o < h.next) (h3 : h.get o = .cells [] true ex m) : GL m R n h (.slice (some ⟨o, 0, none⟩) 0 0) [] :=
  .inr ⟨o, ex, [], rfl, h1, h2, h3, by simp, fun k hk => absurd hk (by simp)⟩
theorem GL.nt {n : Nat} {h : Hp} {v : Value} {L : List α} (hs : GL m R n h v L) : notTup v = true := by
  rcases hs with ⟨rfl, rfl⟩ | ⟨o, ex, cs, rfl, _⟩ <;> rfl
theorem GL.same {n : Nat} {h h' : Hp} (hR : Steady R) {v : Value} {L : List α} (hs : GL m R n h v L) (hk : Same (fun x => n ≤ x) h h') : GL m R n h' v L := by
  rcases hs with ⟨rfl, rfl⟩ | ⟨o, ex, cs, rfl, h1, h2, h3, h4, h5⟩
  · exact .inl ⟨rfl, rfl⟩
  · exact .inr ⟨o, ex, cs, rfl, h1, Nat.lt_of_lt_of_le h2 hk.1, by rw [hk.2 o h1 h2]; exact h3, h4, fun k hk' => hR.mono _ _ h h' _ _ (h5 k hk') (fun _ h => h) ⟨hk.1, fun x hx hl => hk.2 x hx.1 hl⟩⟩
theorem GL.keep {n : Nat} {h h' : Hp} (hR : Steady R) {v : Value} {L : List α} (hs : GL m R n h v L) (hk : Keeps h h') : GL m R n h' v L := hs.same hR (.of_keeps hk)
theorem GL.obj {n : Nat} {h : Hp} {v : Value} {L : List α} (hs : GL m R n h v L) {o : Nat} (ho : ObjIn v o) : n ≤ o ∧ o < h.next := by
  rcases hs with ⟨rfl, rfl⟩ | ⟨p, ex, cs, rfl, h1, h2, _⟩
  · exact ho.elim
  · cases ho; exact ⟨h1, h2⟩
theorem GL.append2 {P : Program} {n : Nat} {h0 h : Hp} {v y : Value} {L K : List α} {t t' e b : Nat} {z : Value} {ys : List Value} {F : Nat → Prop} (hR : Steady R) (hs : GL m R n h v L)
    (hsrc : srcV h m y = some (K.length, ys)) (hyl : ys.length = K.length * m) (hy : ∀ k (hk : k < K.length), R F h (chunk m ys k) K[k]) (hF : ∀ x, F x → n ≤ x ∧ x < h.next ∧ ¬ ObjIn v x)
    (h1 : elT P t = some e) (h2 : szT P e = some m) (h3 : zeroT P e = some z) (hz : z.cells.size = m) (h4 : byT P e = some b) (hb : b ≠ 0) (hb8 : b ≤ 64) (h5 : srcT P t' = true) (hl : L.length + K.length < 2 ^ 40)
    (hn : n ≤ h.next) (hA : Adds h0 h) (h0n : h0.next ≤ n) :
    ∃ v' h', appendD P t t' v y h = some (v', h') ∧ GL m R n h' v' (L ++ K) ∧ Adds h0 h' ∧ h.next ≤ h'.next ∧ (∀ o, o < h.next → ¬ ObjIn v o → h'.get o = h.get o) ∧ ∀ o, ObjIn v' o → ObjIn v o ∨ h.next ≤ o := by
  by_cases hy0 : K.length = 0
  · have := List.length_eq_zero_iff.1 hy0
    subst this
    refine ⟨v, h, ?_, by simpa using hs, hA, Nat.le_refl _, fun _ _ _ => rfl, fun o ho => .inl ho⟩
    simp only [appendD, h1, h2, h3, h4, hsrc, h5]
    rcases hs with ⟨rfl, rfl⟩ | ⟨o, ex, cs, rfl, g1, g2, g3⟩ <;> simp [hb, hz]
  have hbb : (L.length + K.length) * b ≤ 140737488355328 := Nat.le_trans (Nat.mul_le_mul (Nat.le_of_lt hl) hb8) (by decide)
  have hbb1 : K.length * b ≤ 140737488355328 := Nat.le_trans (Nat.mul_le_mul_right _ (by omega)) hbb
  have hne : K ≠ [] := fun e => hy0 (by rw [e]; rfl)
  rcases hs with ⟨rfl, rfl⟩ | ⟨o, ex, cs, rfl, g1, g2, g3, g4, g5⟩
  · refine ⟨.slice (some ⟨h.next, 0, none⟩) K.length K.length, h.alloc (.cells ys true false m), ?_, .inr ⟨h.next, false, ys, rfl, hn, Nat.lt_succ_self _, by simp, hyl, fun k hk => ?_⟩, by simp [hA], Nat.le_succ _, fun o ho _ => by simp [Nat.ne_of_lt ho], fun o ho => .inr (by cases ho; exact Nat.le_refl _)⟩
    · simp only [appendD, h1, h2, h3, h4, hsrc, h5]
      simp [hb, hbb1, hne, hz]
    · exact hR.mono _ _ h _ _ _ (hy k hk) (fun x hx => ⟨(hF x hx).1, by have := (hF x hx).2.1; omega⟩) (.of_keeps (Keeps.alloc _ _))
  · have hmm : (L.length + K.length) * m = L.length * m + K.length * m := Nat.add_mul _ _ _
    have hcs : (cs.drop 0).take (L.length * m) = cs := by rw [List.drop_zero, List.take_of_length_le (by omega)]
    have hsame : ∀ G : Nat → Prop, (∀ x, G x → x ≠ o ∧ x < h.next) → Same G h (growHp h o ex (.cells (cs ++ ys) true false m)) := fun G hG => by
      refine ⟨by cases ex <;> simp [growHp], fun x hx hl => ?_⟩
      have e1 : x ≠ h.next := by have := (hG x hx).2; omega
      have e2 : x ≠ o := (hG x hx).1
      cases ex <;> simp [growHp, e1, e2]
    have hgo : (growHp h o ex (.cells (cs ++ ys) true false m)).get h.next = .cells (cs ++ ys) true false m := by cases ex <;> simp [growHp]
    have hgn : (growHp h o ex (.cells (cs ++ ys) true false m)).next = h.next + 1 := by cases ex <;> simp [growHp]
    refine ⟨.slice (some ⟨h.next, 0, none⟩) (L.length + K.length) (L.length + K.length), growHp h o ex (.cells (cs ++ ys) true false m), ?_, .inr ⟨h.next, false, cs ++ ys, by simp, hn, by rw [hgn]; exact Nat.lt_succ_self _, hgo, by simp [g4, hyl, hmm], fun k hk => ?_⟩, hA.grow (by omega) (fun _ => rfl), by rw [hgn]; exact Nat.le_succ _, fun i hi hin => ?_, fun i hi => .inr (by cases hi; exact Nat.le_refl _)⟩
    · simp only [appendD, h1, h2, h3, h4, hsrc, h5, g3]
      simp only [Nat.zero_add, g4, Nat.le_refl, if_true, hcs, hz]
      simp [hb, hbb, hne, show ¬ (L.length + K.length ≤ L.length) by omega]
    · simp only [List.length_append] at hk
      by_cases hkl : k < L.length
      · rw [chunk_app1 g4 hkl, List.getElem_append_left hkl]
        have h6 := g5 k hkl
        -- what the old elements read is not the new object
        have h7 : R (fun x => (n ≤ x ∧ x ≠ o) ∧ x < h.next) h (chunk m cs k) L[k] → R (fun x => n ≤ x ∧ x ≠ h.next) (growHp h o ex (.cells (cs ++ ys) true false m)) (chunk m cs k) L[k] := fun q =>
          hR.mono _ _ h _ _ _ q (fun x hx => ⟨hx.1.1, by have := hx.2; omega⟩) (hsame _ fun x hx => ⟨hx.1.2, hx.2⟩)
        exact h7 (hR.low _ _ _ _ h6)
      · rw [chunk_app2 g4 (by omega), List.getElem_append_right (by omega)]
        exact hR.mono _ _ h _ _ _ (hy (k - L.length) (by omega)) (fun x hx => ⟨(hF x hx).1, by have := (hF x hx).2.1; omega⟩) (hsame _ fun x hx => ⟨fun e => (hF x hx).2.2 e.symm, (hF x hx).2.1⟩)
    · have e1 : i ≠ h.next := by omega
      have e2 : i ≠ o := fun e => hin e.symm
      cases ex <;> simp [growHp, e1, e2]
theorem GL.append {P : Program} {n : Nat} {h0 h : Hp} {v y : Value} {L K : List α} {t t' e b : Nat} {z : Value} {ys : List Value} {F : Nat → Prop} (hR : Steady R) (hs : GL m R n h v L)
    (hsrc : srcV h m y = some (K.length, ys)) (hyl : ys.length = K.length * m) (hy : ∀ k (hk : k < K.length), R F h (chunk m ys k) K[k]) (hF : ∀ x, F x → n ≤ x ∧ x < h.next ∧ ¬ ObjIn v x)
    (h1 : elT P t = some e) (h2 : szT P e = some m) (h3 : zeroT P e = some z) (hz : z.cells.size = m) (h4 : byT P e = some b) (hb : b ≠ 0) (hb8 : b ≤ 64) (h5 : srcT P t' = true) (hl : L.length + K.length < 2 ^ 40)
    (hn : n ≤ h.next) (hA : Adds h0 h) (h0n : h0.next ≤ n) :
    ∃ v' h', appendD P t t' v y h = some (v', h') ∧ GL m R n h' v' (L ++ K) ∧ Adds h0 h' ∧ h.next ≤ h'.next ∧ ∀ o, o < h.next → o < n → h'.get o = h.get o := by
  obtain ⟨v', h', g1, g2, g3, g4, g5, _⟩ := GL.append2 (P := P) (t := t) (t' := t') (y := y) hR hs hsrc hyl hy hF h1 h2 h3 hz h4 hb hb8 h5 hl hn hA h0n
  exact ⟨v', h', g1, g2, g3, g4, fun o ho hon => g5 o ho fun hob => by have := (hs.obj hob).1; omega⟩
end
section
variable {α : Type} {m : Nat} {R : (Nat → Prop) → Hp → List Value → α → Prop}
end
theorem SlF.low {α : Type} {F : Nat → Prop} {R R' : Hp → Value → α → Prop} {h : Hp} (hR : ∀ u x, R h u x → R' h u x) {v : Value} {xs : List α} (hs : SlF F R h v xs) : SlF (fun o => F o ∧ o < h.next) R' h v xs := by
  obtain ⟨s, c, e, hc, hc', hx⟩ := hs
  refine ⟨s, c, e, hc, hc', fun k x hk' => ?_⟩
  obtain ⟨o, i, cs, own, ex, es, h1, hf, h2, h3, h4, h5⟩ := hx k x hk'
  exact ⟨o, i, cs, own, ex, es, h1, ⟨hf, h2⟩, h2, h3, h4, hR _ _ h5⟩
theorem IntsF.low {F : Nat → Prop} {h : Hp} {v : Value} {xs : List Int} (hs : IntsF F h v xs) : IntsF (fun o => F o ∧ o < h.next) h v xs := SlF.low (R := isInt) (R' := isInt) (fun _ _ h => h) hs
theorem IRowsF.low {F : Nat → Prop} {h : Hp} {v : Value} {xs : List (List Int)} (hs : IRowsF F h v xs) : IRowsF (fun o => F o ∧ o < h.next) h v xs := SlF.low (R := IntsF F) (R' := IntsF _) (fun _ _ h => h.low) hs
def rowR (F : Nat → Prop) (h : Hp) (u : List Value) (xs : List Int) : Prop := ∃ v, u = [v] ∧ IntsF F h v xs
def RowsG (n : Nat) (h : Hp) (v : Value) (L : List (List Int)) : Prop := GL 1 rowR n h v L
end Go.Eng
namespace Go.Proofs.Ytnncipcldbopgaa
set_option linter.unusedSimpArgs false
set_option linter.unusedVariables false
set_option maxHeartbeats 4000000
open Go Go.Eng
attribute [local irreducible] WD RunD PreD Runs CallOK
section
variable {σ : Type} (P : σ → (Nat → Prop) → Hp → Prop) (step : σ → List Nat → σ) (Good : List Nat → Prop) (base : Nat) (S : Nat → Prop) (fid : Nat) (dc : Array Value)
structure DoerN : Prop where
  stab : ∀ s T h h', P s T h → base ≤ h.next → h.next ≤ h'.next → (∀ o, o < h.next → (o < base ∨ T o) → h'.get o = h.get o) → P s T h'
  run : ∀ s T h w v, P s T h → base ≤ h.next → Ints h v (toN w) → Good w → ∃ u h', CallOK Try.prog fid (#[v] ++ dc) h u h' ∧ Wr (fun o => S o ∨ T o) h h' ∧ ∃ T', P (step s w) T' h' ∧ ∀ o, T' o → (T o ∨ h.next ≤ o) ∧ o < h'.next
  low : ∀ o, S o → o < base
  fn : fnOK Try.prog fid = true
end
end Go.Proofs.Ytnncipcldbopgaa
namespace Go.Proofs.Ytnncipcldbopgaa
set_option linter.unusedSimpArgs false
set_option linter.unusedVariables false
set_option maxHeartbeats 4000000
open Go Go.Eng
attribute [local irreducible] WD RunD PreD Runs CallOK
end Go.Proofs.Ytnncipcldbopgaa
namespace Go.Proofs.Ytnncipcldbopgaa
set_option linter.unusedSimpArgs false
set_option linter.unusedVariables false
set_option maxHeartbeats 4000000
open Go Go.Eng
attribute [local irreducible] WD RunD PreD Runs CallOK
def SrtB (k : Nat) (l : List Nat) : Prop := l.Pairwise (· < ·) ∧ ∀ a ∈ l, a < k
end Go.Proofs.Ytnncipcldbopgaa
namespace Go.Proofs.Ytnncipcldbopgaa
set_option linter.unusedSimpArgs false
set_option linter.unusedVariables false
set_option maxHeartbeats 4000000
open Go Go.Eng
attribute [local irreducible] WD RunD PreD Runs CallOK
def lineS (n i j : Nat) : Nat := ndiff (bit n - 1) (bit j - bit i)
end Go.Proofs.Ytnncipcldbopgaa
namespace Go.Proofs.Ytnncipcldbopgaa
set_option linter.unusedSimpArgs false
set_option linter.unusedVariables false
set_option maxHeartbeats 4000000
open Go Go.Eng
attribute [local irreducible] WD RunD PreD Runs CallOK
def idxF (q : List Int → Bool) (L : List (List Int)) : Int := if L.any q = true then (L.findIdx q : Int) else -1
theorem idxF_pos (q : List Int → Bool) (L : List (List Int)) : decide (0 ≤ idxF q L) = L.any q := by
  unfold idxF
  cases h : L.any q
  · simp
  · simp
theorem indexRows_ok (h : Hp) (v : Value) (L : List (List Int)) (hv : IRows h v L) (f : Nat) (cap : Array Value) (q : List Int → Bool) (hfn : fnOK Try.prog f = true)
    (hf : ∀ u x, Ints h u x → x ∈ L → CallOK Try.prog f (#[u] ++ cap) h (.bool (q x)) h) :
    CallOK Try.prog 268 #[v, .func (.func f) #[] cap] h (.int .i64 (idxF q L)) h := by
  have hfn1 := hfn
  refine callY_P 19 _ [.tmp 4] Try.func268 rfl rfl rfl (by first | rfl | simp) ?_
  have hs := hv.len
  have hL := hv.lenD
  try simp (disch := first | omega | (simp; done) | fail) [wrap64c, if_pos, if_neg, opAnd, opOr, opXor, opDiff, opShr, opBit, hfn1, hL]
  refine WD_loopC [0, 1, 7] (fun m tm h' => ∃ j, m = L.length - j ∧ h = h' ∧ tm 8 = .int .i64 (j : Int) ∧ (j ≤ L.length) ∧ (∀ i (hi : i < L.length), i < j → q L[i] = false)) _ ⟨0, rfl, rfl, (by simp (disch := first | omega | (simp; done) | fail) [wrap64c, if_pos, if_neg, opAnd, opOr, opXor, opDiff, opShr, opBit, hfn1, hL]), (by first | omega | assumption | (simp (disch := first | omega | (simp; done) | fail) [wrap64c, if_pos, if_neg, opAnd, opOr, opXor, opDiff, opShr, opBit, hfn1, hL] <;> omega)), (fun i hi h0 => by omega)⟩ ?_
  rintro m tm h' hFr ⟨j, rfl, rfl, e8, hj, hx⟩
  simp only [FrameL] at hFr
  obtain ⟨f0_0, f1_0, f7_0, -⟩ := hFr
  try simp (disch := first | omega | (simp; done) | fail) [wrap64c, if_pos, if_neg, opAnd, opOr, opXor, opDiff, opShr, opBit, hfn1, hL] at f0_0 f1_0 f7_0
  have e0 := f0_0
  have e1 := f1_0
  have e7 := f7_0
  by_cases hlt : j < L.length
  · obtain ⟨o_x, i_x, c_x, cs_x, own_x, ex_x, es_x, us_x, q_x, b_x, g_x, l_x, r_x, R_x⟩ := hv.open ((by omega))
    have z_x : ∀ h2 : i_x < cs_x.length, cs_x[i_x] = _ := fun h2 => r_x 0 ((by omega)) h2
    try simp (disch := first | omega | (simp; done) | fail) [wrap64c, if_pos, if_neg, opAnd, opOr, opXor, opDiff, opShr, opBit, hfn1, hL, e0, e1, e7, e8, hlt, q_x, g_x, l_x, r_x, z_x]
    refine callG_f (fst := #[]) (cap := cap) (by simp) (by simp) ?hf ?hk ?ha (hf (us_x j) L[j] (R_x j hlt) (List.getElem_mem hlt)) ?_
    (case hf => simp (disch := first | omega | (simp; done) | fail) [wrap64c, if_pos, if_neg, opAnd, opOr, opXor, opDiff, opShr, opBit, hfn1, hL, e0, e1, e7, e8, hlt, q_x, g_x, l_x, r_x, z_x]; try rfl)
    (case hk => simp (disch := first | omega | (simp; done) | fail) [wrap64c, if_pos, if_neg, opAnd, opOr, opXor, opDiff, opShr, opBit, hfn1, hL, e0, e1, e7, e8, hlt, q_x, g_x, l_x, r_x, z_x])
    (case ha => simp (disch := first | omega | (simp; done) | fail) [wrap64c, if_pos, if_neg, opAnd, opOr, opXor, opDiff, opShr, opBit, hfn1, hL, e0, e1, e7, e8, hlt, q_x, g_x, l_x, r_x, z_x])
    cases hq : q L[j]
    · try simp (disch := first | omega | (simp; done) | fail) [wrap64c, if_pos, if_neg, opAnd, opOr, opXor, opDiff, opShr, opBit, hfn1, hL, e0, e1, e7, e8, hlt, q_x, g_x, l_x, r_x, z_x, hq]
      refine loopK_next _ ?hm ?hf ⟨j + 1, rfl, rfl, (by simp (disch := first | omega | (simp; done) | fail) [wrap64c, if_pos, if_neg, opAnd, opOr, opXor, opDiff, opShr, opBit, hfn1, hL, e0, e1, e7, e8, hlt, q_x, g_x, l_x, r_x, z_x, hq] <;> omega), (by first | omega | assumption | (simp (disch := first | omega | (simp; done) | fail) [wrap64c, if_pos, if_neg, opAnd, opOr, opXor, opDiff, opShr, opBit, hfn1, hL, e0, e1, e7, e8, hlt, q_x, g_x, l_x, r_x, z_x, hq] <;> omega)), ?c_hx⟩
      (case hm => first | omega | (simp; omega))
      (case hf => simp [FrameL, hfn1, hL, e0, e1, e7, e8, hlt, q_x, g_x, l_x, r_x, z_x, hq, f0_0, f1_0, f7_0])
      case c_hx =>
        exact (fun i hi h1 => by
          by_cases e : i = j
          · subst e; exact hq
          · exact hx i hi (by omega))
    · have hi : idxF q L = (j : Int) := by
        unfold idxF
        rw [if_pos (List.any_eq_true.2 ⟨_, List.getElem_mem hlt, hq⟩)]
        rw [(List.findIdx_eq hlt).2 ⟨hq, fun k hk => hx k (by omega) hk⟩]
      try simp (disch := first | omega | (simp; done) | fail) [wrap64c, if_pos, if_neg, opAnd, opOr, opXor, opDiff, opShr, opBit, hfn1, hL, e0, e1, e7, e8, hlt, q_x, g_x, l_x, r_x, z_x, hq]
      exact done_ret rfl (by simp [hi])
  · have hi : idxF q L = -1 := by
      unfold idxF
      rw [if_neg]
      intro h1
      obtain ⟨x, hx1, hx2⟩ := List.any_eq_true.1 h1
      obtain ⟨k, hk, rfl⟩ := List.getElem_of_mem hx1
      rw [hx k hk (by omega)] at hx2; cases hx2
    try simp (disch := first | omega | (simp; done) | fail) [wrap64c, if_pos, if_neg, opAnd, opOr, opXor, opDiff, opShr, opBit, hfn1, hL, e0, e1, e7, e8, hlt]
    exact done_ret rfl (by simp [hi])
theorem containsRows_ok (h : Hp) (v : Value) (L : List (List Int)) (hv : IRows h v L) (f : Nat) (cap : Array Value) (q : List Int → Bool) (hfn : fnOK Try.prog f = true)
    (hf : ∀ u x, Ints h u x → x ∈ L → CallOK Try.prog f (#[u] ++ cap) h (.bool (q x)) h) :
    CallOK Try.prog 251 #[v, .func (.func f) #[] cap] h (.bool (L.any q)) h := by
  refine callY_P 9 _ [.tmp 4] Try.func251 rfl rfl rfl (by first | rfl | simp) ?_
  try simp (disch := first | omega | (simp; done) | fail) [wrap64c, if_pos, if_neg, opAnd, opOr, opXor, opDiff, opShr, opBit]
  refine callG_c (by simp) (by simp) ?ha (indexRows_ok h v L hv f cap q hfn hf) ?_
  (case ha => simp (disch := first | omega | (simp; done) | fail) [wrap64c, if_pos, if_neg, opAnd, opOr, opXor, opDiff, opShr, opBit])
  have e := idxF_pos q L
  try simp (disch := first | omega | (simp; done) | fail) [wrap64c, if_pos, if_neg, opAnd, opOr, opXor, opDiff, opShr, opBit, e]
  exact done_ret rfl (by simp)
def pairB (N : Int) (x : List Int) : Bool := decide (x.length = 2) && (decide (0 ≤ x.getD 0 0 ∧ x.getD 0 0 ≤ N - 1) && (decide (0 ≤ x.getD 1 0 ∧ x.getD 1 0 ≤ N - 1) && !decide (x.getD 0 0 = x.getD 1 0)))
def pairsB (N : Int) (L : List (List Int)) : Bool := decide (L.length ≤ 40) && !L.any fun x => !pairB N x
theorem pairBad_ok (h : Hp) (o : Nat) (v : Value) (x : List Int) (N : Int) (hN : -1000 ≤ N ∧ N ≤ 1000) (hg : h.get o = .cells [.int .i64 N] true true 1) (hv : Ints h v x) :
    CallOK Try.prog 252 #[v, .pointer (some ⟨o, 0, none⟩)] h (.bool (!pairB N x)) h := by
  refine callY_P 34 _ [.tmp 3] Try.func252 rfl rfl rfl (by first | rfl | simp) ?_
  have hL := hv.lenD
  have hg1 := hg
  try simp (disch := first | omega | (simp; done) | fail) [wrap64c, if_pos, if_neg, opAnd, opOr, opXor, opDiff, opShr, opBit, hL, hg1]
  refine WD_drawC 30 rfl (by kernel_rfl) ?_
  by_cases h2 : x.length = 2
  · obtain ⟨a, b, rfl⟩ : ∃ a b, x = [a, b] := by
      match x, h2 with
      | [a, b], _ => exact ⟨a, b, rfl⟩
    obtain ⟨o_y, i_y, c_y, cs_y, own_y, ex_y, es_y, q_y, b_y, g_y, l_y, r_y⟩ := hv.open ((by simp))
    have z_y : ∀ h2 : i_y < cs_y.length, cs_y[i_y] = _ := fun h2 => r_y 0 ((by simp)) h2
    have z2_y := r_y 1 (by simp)
    try simp (disch := first | omega | (simp; done) | fail) [wrap64c, if_pos, if_neg, opAnd, opOr, opXor, opDiff, opShr, opBit, hL, hg1, q_y, g_y, l_y, r_y, z_y, z2_y]
    refine callP_c (by simp) (by simp) ?ha (within_ok h a 0 (N - 1)) ?hadd ?_
    (case ha => simp (disch := first | omega | (simp; done) | fail) [wrap64c, if_pos, if_neg, opAnd, opOr, opXor, opDiff, opShr, opBit, hL, hg1, q_y, g_y, l_y, r_y, z_y, z2_y])
    (case hadd => first | assumption | exact adds_self _ | (simp; done))
    cases c1 : decide (0 ≤ a ∧ a ≤ N - 1)
    · try simp (disch := first | omega | (simp; done) | fail) [wrap64c, if_pos, if_neg, opAnd, opOr, opXor, opDiff, opShr, opBit, hL, hg1, q_y, g_y, l_y, r_y, z_y, z2_y, c1]
      exact done_ret rfl (by simp [pairB, c1])
    · try simp (disch := first | omega | (simp; done) | fail) [wrap64c, if_pos, if_neg, opAnd, opOr, opXor, opDiff, opShr, opBit, hL, hg1, q_y, g_y, l_y, r_y, z_y, z2_y, c1]
      refine callP_c (by simp) (by simp) ?ha (within_ok h b 0 (N - 1)) ?hadd ?_
      (case ha => simp (disch := first | omega | (simp; done) | fail) [wrap64c, if_pos, if_neg, opAnd, opOr, opXor, opDiff, opShr, opBit, hL, hg1, q_y, g_y, l_y, r_y, z_y, z2_y, c1])
      (case hadd => first | assumption | exact adds_self _ | (simp; done))
      cases c2 : decide (0 ≤ b ∧ b ≤ N - 1)
      · try simp (disch := first | omega | (simp; done) | fail) [wrap64c, if_pos, if_neg, opAnd, opOr, opXor, opDiff, opShr, opBit, hL, hg1, q_y, g_y, l_y, r_y, z_y, z2_y, c1, c2]
        exact done_ret rfl (by simp [pairB, c1, c2])
      · try simp (disch := first | omega | (simp; done) | fail) [wrap64c, if_pos, if_neg, opAnd, opOr, opXor, opDiff, opShr, opBit, hL, hg1, q_y, g_y, l_y, r_y, z_y, z2_y, c1, c2]
        exact done_ret rfl (by simp [pairB, c1, c2]; rw [Bool.eq_iff_iff]; simp)
  · have h2' : ((x.length : Int) != 2) = true := by simp; omega
    try simp (disch := first | omega | (simp; done) | fail) [wrap64c, if_pos, if_neg, opAnd, opOr, opXor, opDiff, opShr, opBit, hL, hg1, h2']
    exact done_ret rfl (by simp [pairB, h2])
theorem arePairs_ok (h : Hp) (v : Value) (L : List (List Int)) (N : Int) (hN : -1000 ≤ N ∧ N ≤ 1000) (hv : IRows h v L) : CallOK Try.prog 212 #[.int .i64 N, v] h (.bool (pairsB N L)) h := by
  refine callY_P 14 _ [.tmp 4] Try.func212 rfl rfl rfl (by first | rfl | simp) ?_
  have hs := hv.len
  have hL := hv.lenD
  refine WD_first ?_
  try simp (disch := first | omega | (simp; done) | fail) [wrap64c, if_pos, if_neg, opAnd, opOr, opXor, opDiff, opShr, opBit, hL]
  refine stopK_heap fun h0 q_h0 => ?_
  refine stopK_go ?_
  have k0 : Adds h h0 := by rw [q_h0]; exact (by first | exact aK | exact kK)
  have g0 : h0.get h.next = .cells [.int .i64 N] true true 1 := by simp [q_h0]
  by_cases hl : L.length ≤ 40
  · have hl' : (L.length : Int) ≤ 40 := by omega
    try simp (disch := first | omega | (simp; done) | fail) [wrap64c, if_pos, if_neg, opAnd, opOr, opXor, opDiff, opShr, opBit, hL, hl']
    refine callG_c (by simp) (by simp) ?ha (containsRows_ok h0 v L (hv.keep k0.1) 252 #[.pointer (some ⟨h.next, 0, none⟩)] (fun x => !pairB N x) (by simp) (fun u x hu hx => pairBad_ok h0 h.next u x N hN g0 hu)) ?_
    (case ha => simp (disch := first | omega | (simp; done) | fail) [wrap64c, if_pos, if_neg, opAnd, opOr, opXor, opDiff, opShr, opBit, hL, hl'])
    try simp (disch := first | omega | (simp; done) | fail) [wrap64c, if_pos, if_neg, opAnd, opOr, opXor, opDiff, opShr, opBit, hL, hl']
    exact done_ret rfl (by simp [pairsB, hl, k0.1])
  · have hl' : ¬ (L.length : Int) ≤ 40 := by omega
    try simp (disch := first | omega | (simp; done) | fail) [wrap64c, if_pos, if_neg, opAnd, opOr, opXor, opDiff, opShr, opBit, hL, hl']
    exact done_ret rfl (by simp [pairsB, hl, k0.1])
def breaks (a : Nat) (x : List Int) : Bool := a.testBit (x.getD 1 0).toNat && !a.testBit (x.getD 0 0).toNat
theorem ordClo_ok (h : Hp) (o a : Nat) (v : Value) (x : List Int) (n : Nat) (hn : n ≤ 7) (ha : a < 128) (hp : pairB n x = true) (hg : h.get o = .cells [.int .i64 (a : Int)] true true 1) (hv : Ints h v x) :
    CallOK Try.prog 255 #[v, .pointer (some ⟨o, 0, none⟩)] h (.bool (breaks a x)) h := by
  unfold pairB at hp
  simp only [Bool.and_eq_true, decide_eq_true_eq] at hp
  obtain ⟨h2, ⟨p1, p2⟩, ⟨p3, p4⟩, _⟩ := hp
  obtain ⟨c, d, rfl⟩ : ∃ c d, x = [c, d] := by
    match x, h2 with
    | [c, d], _ => exact ⟨c, d, rfl⟩
  simp at p1 p2 p3 p4
  obtain ⟨i, rfl⟩ := Int.eq_ofNat_of_zero_le p1
  obtain ⟨j, rfl⟩ := Int.eq_ofNat_of_zero_le p3
  refine callY_P 20 _ [.tmp 3] Try.func255 rfl rfl rfl (by first | rfl | simp) ?_
  have hg1 := hg
  obtain ⟨o_y, i_y, c_y, cs_y, own_y, ex_y, es_y, q_y, b_y, g_y, l_y, r_y⟩ := hv.open ((by simp))
  have z_y : ∀ h2 : i_y < cs_y.length, cs_y[i_y] = _ := fun h2 => r_y 0 ((by simp)) h2
  have z2_y := r_y 1 (by simp)
  have h01 := nShr_and01 a i
  have h02 := nShr_and01 a j
  have hl1 := nShr_le a i
  have hl2 := nShr_le a j
  try simp (disch := first | omega | (simp; done) | fail) [wrap64c, if_pos, if_neg, opAnd, opOr, opXor, opDiff, opShr, opBit, hg1, q_y, g_y, l_y, r_y, z_y, z2_y]
  refine WD_drawC 16 rfl (by kernel_rfl) ?_
  cases c2 : a.testBit j
  · rw [c2] at h02
    have h02 := h02
    try simp (disch := first | omega | (simp; done) | fail) [wrap64c, if_pos, if_neg, opAnd, opOr, opXor, opDiff, opShr, opBit, hg1, q_y, g_y, l_y, r_y, z_y, z2_y, c2, h02]
    exact done_ret rfl (by simp [breaks, c2])
  · rw [c2] at h02
    have h02 := h02
    cases c1 : a.testBit i
    · rw [c1] at h01
      have h01 := h01
      try simp (disch := first | omega | (simp; done) | fail) [wrap64c, if_pos, if_neg, opAnd, opOr, opXor, opDiff, opShr, opBit, hg1, q_y, g_y, l_y, r_y, z_y, z2_y, c2, h02, c1, h01]
      exact done_ret rfl (by simp [breaks, c1, c2])
    · rw [c1] at h01
      have h01 := h01
      try simp (disch := first | omega | (simp; done) | fail) [wrap64c, if_pos, if_neg, opAnd, opOr, opXor, opDiff, opShr, opBit, hg1, q_y, g_y, l_y, r_y, z_y, z2_y, c2, h02, c1, h01]
      exact done_ret rfl (by simp [breaks, c1, c2])
end Go.Proofs.Ytnncipcldbopgaa
namespace Go.Proofs.Ytnncipcldbopgaa
set_option linter.unusedSimpArgs false
set_option linter.unusedVariables false
set_option maxHeartbeats 4000000
open Go Go.Eng
attribute [local irreducible] WD RunD PreD Runs CallOK
def on1 (x : Int) : Int := IntKind.wrap .u64 (bAnd .u64 (bShr .u64 x 1) 6148914691236517205 + bAnd .u64 x 6148914691236517205)
def on2 (x : Int) : Int := IntKind.wrap .u64 (bAnd .u64 (bShr .u64 x 2) 3689348814741910323 + bAnd .u64 x 3689348814741910323)
def on3 (x : Int) : Int := bAnd .u64 (IntKind.wrap .u64 (bShr .u64 x 4 + x)) 1085102592571150095
def on4 (x : Int) (k : Int) : Int := IntKind.wrap .u64 (x + bShr .u64 x k)
def idxI (p : Int → Bool) (xs : List Int) : Int := match xs.findIdx? p with
  | some i => i
  | none => -1
def chB (ch : List Int) (m : Int) : Bool := decide ((ch.length : Int) ≤ m) && !ch.any fun x => decide (x < 0)
end Go.Proofs.Ytnncipcldbopgaa
namespace Go.Proofs.Ytnncipcldbopgaa
set_option linter.unusedSimpArgs false
set_option linter.unusedVariables false
set_option maxHeartbeats 4000000
open Go Go.Eng
attribute [local irreducible] WD RunD PreD Runs CallOK
def natsOf (X : List Int) : List Nat := X.map Int.toNat
@[simp] theorem natsOf_toN (xs : List Nat) : natsOf (toN xs) = xs := by
  unfold natsOf toN
  rw [List.map_map]
  conv => rhs; rw [← List.map_id xs]
  apply List.map_congr_left
  intro x _
  simp
noncomputable def freeB (N : Int) (X : List Int) : Bool := spB N X && ((X.length : Int) == ((bit N.toNat : Nat) : Int))
noncomputable def sizesR (N : Int) (X : List Int) : List Int := if spB N X = true then toN (sizesN N.toNat (natsOf X)) else []
def sizesC (n : Nat) (xs : List Nat) : List Value := (toN (sizesN n xs)).map (.int .i64)
end Go.Proofs.Ytnncipcldbopgaa
namespace Go.Proofs.Ytnncipcldbopgaa
set_option linter.unusedSimpArgs false
set_option linter.unusedVariables false
set_option maxHeartbeats 4000000
open Go Go.Eng
attribute [local irreducible] WD RunD PreD Runs CallOK
def keepsB (L : List (List Int)) (a : Nat) : Bool := !L.any (breaks a)
theorem pairsB_all {N : Int} {L : List (List Int)} (h : pairsB N L = true) : L.length ≤ 40 ∧ ∀ x ∈ L, pairB N x = true := by
  unfold pairsB at h
  simp only [Bool.and_eq_true, decide_eq_true_eq, Bool.not_eq_true', List.any_eq_false, Bool.not_eq_true, Bool.not_eq_false'] at h
  refine ⟨h.1, fun x hx => ?_⟩
  simpa using h.2 x hx
theorem ordSet_ok (h : Hp) (o a n : Nat) (v : Value) (L : List (List Int)) (hn : n ≤ 7) (ha : a < 128) (hp : ∀ x ∈ L, pairB n x = true) (hg : h.get o = .cells [v] true true 1) (ho : o < h.next) (hv : IRows h v L) :
    CallOK Try.prog 254 #[.int .i64 (a : Int), .pointer (some ⟨o, 0, none⟩)] h (.bool (keepsB L a)) h := by
  refine callY_P 8 _ [.tmp 3] Try.func254 rfl rfl rfl (by first | rfl | simp) ?_
  have hg1 := hg
  have hnt := hv.nt
  have hcs := hv.cs
  try simp (disch := first | omega | (simp; done) | fail) [wrap64c, if_pos, if_neg, opAnd, opOr, opXor, opDiff, opShr, opBit, hg1, hnt, hcs]
  first | refine WY_heap fun h0 q_h0 => ?_ | refine callG_heap fun h0 q_h0 => ?_ | refine callP_heap fun h0 q_h0 => ?_ | refine callS_heap fun h0 q_h0 => ?_ | refine RY_heap fun h0 q_h0 => ?_ | refine PY_heap fun h0 q_h0 => ?_ | refine SY_heap fun h0 q_h0 => ?_ | refine doneY_heap fun h0 q_h0 => ?_ | refine loopK_heap fun h0 q_h0 => ?_ | refine thenY_heap fun h0 q_h0 => ?_ | refine thenM_heap fun h0 q_h0 => ?_
  have k0 : Adds h h0 := by rw [q_h0]; exact (by first | exact aK | exact kK)
  have g0 : h0.get h.next = .cells [.int .i64 (a : Int)] true true 1 := by simp [q_h0]
  refine callG_c (by simp) (by simp) ?ha (containsRows_ok h0 v L (hv.keep k0.1) 255 #[.pointer (some ⟨h.next, 0, none⟩)] (breaks a) (by simp) (fun u x hu hx => ordClo_ok h0 h.next a u x n hn ha (hp x hx) g0 hu)) ?_
  (case ha => simp (disch := first | omega | (simp; done) | fail) [wrap64c, if_pos, if_neg, opAnd, opOr, opXor, opDiff, opShr, opBit, hg1, hnt, hcs])
  try simp (disch := first | omega | (simp; done) | fail) [wrap64c, if_pos, if_neg, opAnd, opOr, opXor, opDiff, opShr, opBit, hg1, hnt, hcs]
  exact done_ret rfl (by simp [keepsB, k0.1])
def ordL (n : Nat) (L : List (List Int)) : List Nat := famK (keepsB L) (bit n)
noncomputable def ordOK (N : Int) (L : List (List Int)) : Bool := sizeB N && pairsB N L && spB N (toN (ordL N.toNat L))
noncomputable def ordN (N : Int) (L : List (List Int)) : Int := if ordOK N L = true then N else 0
noncomputable def ordX (N : Int) (L : List (List Int)) : List Int := if ordOK N L = true then toN (ordL N.toNat L) else []
theorem ordL_len (n : Nat) (L : List (List Int)) : (ordL n L).length ≤ bit n := by
  unfold ordL famK
  have := List.length_filter_le (keepsB L) (List.range (bit n))
  simpa using this
theorem orderSpace_ok (h : Hp) (v : Value) (L : List (List Int)) (N : Int) (hv : IRows h v L) :
    ∃ v' h', CallOK Try.prog 213 #[.int .i64 N, v] h v' h' ∧ Adds h h' ∧ ∃ u, v' = .tuple #[u, .bool (ordOK N L)] ∧ SpaceO (Btw h.next h'.next) h' u (ordN N L) (ordX N L) := by
  have hnt := hv.nt
  have hcs := hv.cs
  cases c1 : sizeB N
  · have hk : ordOK N L = false := by simp [ordOK, c1]
    refine callY_L (args := [.int .i64 N, v]) 25 _ [.cell 4 26, .tmp 5] Try.func213 rfl rfl rfl ?_
    try simp (disch := first | omega | (simp; done) | fail) [wrap64c, if_pos, if_neg, opAnd, opOr, opXor, opDiff, opShr, opBit, hnt, hcs, c1, hk]
    refine callG_c (by simp) (by simp) ?ha (isSize_ok _ N) ?_
    (case ha => simp (disch := first | omega | (simp; done) | fail) [wrap64c, if_pos, if_neg, opAnd, opOr, opXor, opDiff, opShr, opBit, hnt, hcs, c1, hk])
    try simp (disch := first | omega | (simp; done) | fail) [wrap64c, if_pos, if_neg, opAnd, opOr, opXor, opDiff, opShr, opBit, hnt, hcs, c1, hk, putCells]
    refine done_ret (by simp [putCells]; rfl) ⟨(by first | exact aK | exact kK), .agg #[.int .i64 0, .slice none 0 0], by simp [hk], ?_⟩
    simp only [ordN, ordX, hk]
    exact ⟨_, rfl, .nil _ _⟩
  · obtain ⟨n, rfl, n1, n7⟩ := sizeB_true c1
    cases c2 : pairsB n L
    · have hk : ordOK n L = false := by simp [ordOK, c1, c2]
      refine callY_L (args := [.int .i64 (n : Int), v]) 25 _ [.cell 4 26, .tmp 5] Try.func213 rfl rfl rfl ?_
      try simp (disch := first | omega | (simp; done) | fail) [wrap64c, if_pos, if_neg, opAnd, opOr, opXor, opDiff, opShr, opBit, hnt, hcs, c1, c2, hk]
      refine callG_c (by simp) (by simp) ?ha (isSize_ok _ n) ?_
      (case ha => simp (disch := first | omega | (simp; done) | fail) [wrap64c, if_pos, if_neg, opAnd, opOr, opXor, opDiff, opShr, opBit, hnt, hcs, c1, c2, hk])
      try simp (disch := first | omega | (simp; done) | fail) [wrap64c, if_pos, if_neg, opAnd, opOr, opXor, opDiff, opShr, opBit, hnt, hcs, c1, c2, hk]
      first | refine WY_heap fun h0 q_h0 => ?_ | refine callG_heap fun h0 q_h0 => ?_ | refine callP_heap fun h0 q_h0 => ?_ | refine callS_heap fun h0 q_h0 => ?_ | refine RY_heap fun h0 q_h0 => ?_ | refine PY_heap fun h0 q_h0 => ?_ | refine SY_heap fun h0 q_h0 => ?_ | refine doneY_heap fun h0 q_h0 => ?_ | refine loopK_heap fun h0 q_h0 => ?_ | refine thenY_heap fun h0 q_h0 => ?_ | refine thenM_heap fun h0 q_h0 => ?_
      have k0 : Adds h h0 := by rw [q_h0]; exact (by first | exact aK | exact kK)
      refine callG_c (by simp) (by simp) ?ha (arePairs_ok h0 v L n (by omega) (hv.keep k0.1)) ?_
      (case ha => simp (disch := first | omega | (simp; done) | fail) [wrap64c, if_pos, if_neg, opAnd, opOr, opXor, opDiff, opShr, opBit, hnt, hcs, c1, c2, hk])
      have g1 : h0.get (h.next + 1) = .cells [.int .i64 0, .slice none 0 0] true true 1 := by simp [q_h0]
      have n0 : h0.next = h.next + 2 := by simp [q_h0]
      try simp (disch := first | omega | (simp; done) | fail) [wrap64c, if_pos, if_neg, opAnd, opOr, opXor, opDiff, opShr, opBit, hnt, hcs, c1, c2, hk, g1, putCells]
      refine done_ret (by simp [putCells]; rfl) ⟨(by first | exact aK | exact kK), .agg #[.int .i64 0, .slice none 0 0], by simp [hk], ?_⟩
      simp only [ordN, ordX, hk]
      exact ⟨_, rfl, .nil _ _⟩
    · obtain ⟨hl40, hall⟩ := pairsB_all c2
      refine callY_L (args := [.int .i64 (n : Int), v]) 25 _ [.cell 4 26, .tmp 5] Try.func213 rfl rfl rfl ?_
      try simp (disch := first | omega | (simp; done) | fail) [wrap64c, if_pos, if_neg, opAnd, opOr, opXor, opDiff, opShr, opBit, hnt, hcs, c1, c2]
      refine callG_c (by simp) (by simp) ?ha (isSize_ok _ n) ?_
      (case ha => simp (disch := first | omega | (simp; done) | fail) [wrap64c, if_pos, if_neg, opAnd, opOr, opXor, opDiff, opShr, opBit, hnt, hcs, c1, c2])
      try simp (disch := first | omega | (simp; done) | fail) [wrap64c, if_pos, if_neg, opAnd, opOr, opXor, opDiff, opShr, opBit, hnt, hcs, c1, c2]
      first | refine WY_heap fun h0 q_h0 => ?_ | refine callG_heap fun h0 q_h0 => ?_ | refine callP_heap fun h0 q_h0 => ?_ | refine callS_heap fun h0 q_h0 => ?_ | refine RY_heap fun h0 q_h0 => ?_ | refine PY_heap fun h0 q_h0 => ?_ | refine SY_heap fun h0 q_h0 => ?_ | refine doneY_heap fun h0 q_h0 => ?_ | refine loopK_heap fun h0 q_h0 => ?_ | refine thenY_heap fun h0 q_h0 => ?_ | refine thenM_heap fun h0 q_h0 => ?_
      have k0 : Adds h h0 := by rw [q_h0]; exact (by first | exact aK | exact kK)
      have hv0 := hv.keep k0.1
      have hb7 := bit7 n7
      have hol := ordL_len n L
      refine callG_c (by simp) (by simp) ?ha (arePairs_ok h0 v L n (by omega) hv0) ?_
      (case ha => simp (disch := first | omega | (simp; done) | fail) [wrap64c, if_pos, if_neg, opAnd, opOr, opXor, opDiff, opShr, opBit, hnt, hcs, c1, c2])
      have g0 : h0.get h.next = .cells [v] true true 1 := by simp [q_h0, hcs]
      have g1 : h0.get (h.next + 1) = .cells [.int .i64 0, .slice none 0 0] true true 1 := by simp [q_h0]
      have n0 : h0.next = h.next + 2 := by simp [q_h0]
      obtain ⟨_, h2, hc2, ha2, b, rfl, hb⟩ := those_ok 254 #[.pointer (some ⟨h.next, 0, none⟩)] (keepsB L) n n7 (fun h' => Keeps h0 h') h0.next (fun h1 h2 k hb hn hs => ⟨by omega, fun o ho => by rw [hs o ho]; exact k.2 o ho⟩)
        (fun h1 a k hb ha => ordSet_ok h1 h.next a n v L n7 (by omega) hall (by rw [k.2 _ (by omega)]; exact g0) (by omega) (hv0.keep k)) (by simp) h0 ⟨Nat.le_refl _, fun o _ => rfl⟩ (Nat.le_refl _)
      have nt := hb.nt
      have cs := hb.cs
      have g2 : h2.get (h.next + 1) = .cells [.int .i64 0, .slice none 0 0] true true 1 := by rw [ha2.1.2 _ (by omega)]; exact g1
      have m2 := ha2.1.1
      try simp (disch := first | omega | (simp; done) | fail) [wrap64c, if_pos, if_neg, opAnd, opOr, opXor, opDiff, opShr, opBit, hnt, hcs, c1, c2, g0, g1, nt, cs, g2]
      refine callG_c (by simp) (by simp) ?ha (hc2) ?_
      (case ha => simp (disch := first | omega | (simp; done) | fail) [wrap64c, if_pos, if_neg, opAnd, opOr, opXor, opDiff, opShr, opBit, hnt, hcs, c1, c2, g0, g1, nt, cs, g2])
      try simp (disch := first | omega | (simp; done) | fail) [wrap64c, if_pos, if_neg, opAnd, opOr, opXor, opDiff, opShr, opBit, hnt, hcs, c1, c2, g0, g1, nt, cs, g2, putCells]
      first | refine WY_heap fun h3 q_h3 => ?_ | refine callG_heap fun h3 q_h3 => ?_ | refine callP_heap fun h3 q_h3 => ?_ | refine callS_heap fun h3 q_h3 => ?_ | refine RY_heap fun h3 q_h3 => ?_ | refine PY_heap fun h3 q_h3 => ?_ | refine SY_heap fun h3 q_h3 => ?_ | refine doneY_heap fun h3 q_h3 => ?_ | refine loopK_heap fun h3 q_h3 => ?_ | refine thenY_heap fun h3 q_h3 => ?_ | refine thenM_heap fun h3 q_h3 => ?_
      have k3 : Adds h2 h3 := by rw [q_h3]; exact (by first | exact aK | exact kK)
      have n3 : h3.next = h2.next + 1 := by simp [q_h3]
      have g3 : h3.get (h.next + 1) = .cells [.int .i64 0, .slice none 0 0] true true 1 := by rw [k3.1.2 _ (by omega)]; exact g2
      have g4 : h3.get h2.next = .cells [.int .i64 n, b] true true 1 := by simp [q_h3]
      have hb3 := hb.keep k3.1
      try simp (disch := first | omega | (simp; done) | fail) [wrap64c, if_pos, if_neg, opAnd, opOr, opXor, opDiff, opShr, opBit, hnt, hcs, c1, c2, g0, g1, nt, cs, g2, g3, g4]
      refine callG_c (by simp) (by simp) ?ha (isSpace_ok h3 (.agg #[.int .i64 n, b]) n (toN (ordL n L)) (.mk hb3.ints) (by simp; omega)) ?_
      (case ha => simp (disch := first | omega | (simp; done) | fail) [wrap64c, if_pos, if_neg, opAnd, opOr, opXor, opDiff, opShr, opBit, hnt, hcs, c1, c2, g0, g1, nt, cs, g2, g3, g4])
      have A := (k0.trans ha2).trans k3
      cases c3 : spB n (toN (ordL n L))
      · have hk : ordOK n L = false := by simp [ordOK, c1, c2, c3]
        try simp (disch := first | omega | (simp; done) | fail) [wrap64c, if_pos, if_neg, opAnd, opOr, opXor, opDiff, opShr, opBit, hnt, hcs, c1, c2, g0, g1, nt, cs, g2, g3, g4, c3, hk, putCells]
        refine done_ret (by simp [putCells]; rfl) ⟨(by first | exact aK | exact kK), .agg #[.int .i64 0, .slice none 0 0], by simp [hk], ?_⟩
        simp only [ordN, ordX, hk]
        exact ⟨_, rfl, .nil _ _⟩
      · have hk : ordOK n L = true := by simp [ordOK, c1, c2, c3]
        try simp (disch := first | omega | (simp; done) | fail) [wrap64c, if_pos, if_neg, opAnd, opOr, opXor, opDiff, opShr, opBit, hnt, hcs, c1, c2, g0, g1, nt, cs, g2, g3, g4, c3, hk, putCells]
        refine done_ret (by simp [putCells]; rfl) ⟨(by first | exact aK | exact kK), .agg #[.int .i64 n, b], by simp [hk], ?_⟩
        simp only [ordN, ordX, hk, if_true]
        exact ⟨b, rfl, (hb3.same (Same.put (Same.refl _ _) (by unfold Btw; omega) _)).sub fun o ho => ⟨by have := ho.1; omega, by have := ho.2; simp; omega⟩⟩
end Go.Proofs.Ytnncipcldbopgaa
namespace Go.Proofs.Ytnncipcldbopgaa
set_option linter.unusedSimpArgs false
set_option linter.unusedVariables false
set_option maxHeartbeats 4000000
open Go Go.Eng
attribute [local irreducible] WD RunD PreD Runs CallOK
theorem l1All_ok (h : Hp) (v : Value) (xs : List Int) (a b : Int) (hv : Ints h v xs) : CallOK Try.prog 216 #[v, .int .i64 a, .int .i64 b] h (.bool (decide (∀ x ∈ xs, a ≤ x ∧ x ≤ b))) h := by
  refine callY_P 21 _ [.tmp 6] Try.func216 rfl rfl rfl (by first | rfl | simp) ?_
  have hs := hv.len
  have hL := hv.lenD
  try simp (disch := first | omega | (simp; done) | fail) [wrap64c, if_pos, if_neg, hL]
  refine WD_loopC [1, 2, 9, 10] (fun m tm h' => ∃ j, m = xs.length - j ∧ h = h' ∧ tm 11 = .int .i64 (j : Int) ∧ (j ≤ xs.length) ∧ (∀ i (hi : i < xs.length), i < j → a ≤ xs[i] ∧ xs[i] ≤ b)) _ ⟨0, rfl, rfl, (by simp (disch := first | omega | (simp; done) | fail) [wrap64c, if_pos, if_neg, hL]), (by first | omega | assumption | (simp (disch := first | omega | (simp; done) | fail) [wrap64c, if_pos, if_neg, hL] <;> omega)), (by intro i hi h0; omega)⟩ ?_
  rintro m tm h' hFr ⟨j, rfl, rfl, e11, hj, hx⟩
  simp only [FrameL] at hFr
  obtain ⟨f1_0, f2_0, f9_0, f10_0, -⟩ := hFr
  try simp (disch := first | omega | (simp; done) | fail) [wrap64c, if_pos, if_neg, hL] at f1_0 f2_0 f9_0 f10_0
  have e1 := f1_0
  have e2 := f2_0
  have e9 := f9_0
  have e10 := f10_0
  by_cases hlt : j < xs.length
  · obtain ⟨o_x, i_x, c_x, cs_x, own_x, ex_x, es_x, q_x, b_x, g_x, l_x, r_x⟩ := hv.open ((by omega))
    have z_x : ∀ h2 : i_x < cs_x.length, cs_x[i_x] = _ := fun h2 => r_x 0 ((by omega)) h2
    try simp (disch := first | omega | (simp; done) | fail) [wrap64c, if_pos, if_neg, hL, e1, e2, e9, e10, e11, hlt, q_x, g_x, l_x, r_x, z_x]
    have hc := l1In_ok h xs[j] a b
    by_cases hq : a ≤ xs[j] ∧ xs[j] ≤ b
    · rw [decide_eq_true hq] at hc
      refine callG_c (by simp) (by simp) ?ha (hc) ?_
      (case ha => simp (disch := first | omega | (simp; done) | fail) [wrap64c, if_pos, if_neg, hL, e1, e2, e9, e10, e11, hlt, q_x, g_x, l_x, r_x, z_x])
      try simp (disch := first | omega | (simp; done) | fail) [wrap64c, if_pos, if_neg, hL, e1, e2, e9, e10, e11, hlt, q_x, g_x, l_x, r_x, z_x]
      refine loopK_next _ ?hm ?hf ⟨j + 1, rfl, rfl, (by simp (disch := first | omega | (simp; done) | fail) [wrap64c, if_pos, if_neg, hL, e1, e2, e9, e10, e11, hlt, q_x, g_x, l_x, r_x, z_x] <;> omega), (by first | omega | assumption | (simp (disch := first | omega | (simp; done) | fail) [wrap64c, if_pos, if_neg, hL, e1, e2, e9, e10, e11, hlt, q_x, g_x, l_x, r_x, z_x] <;> omega)), ?c_hx⟩
      (case hm => first | omega | (simp; omega))
      (case hf => simp [FrameL, hL, e1, e2, e9, e10, e11, hlt, q_x, g_x, l_x, r_x, z_x, f1_0, f2_0, f9_0, f10_0])
      case c_hx =>
        exact (fun i hi hij => by
          rcases Nat.lt_succ_iff_lt_or_eq.1 hij with h1 | h1
          · exact hx i hi h1
          · subst h1; exact hq)
    · rw [decide_eq_false hq] at hc
      refine callG_c (by simp) (by simp) ?ha (hc) ?_
      (case ha => simp (disch := first | omega | (simp; done) | fail) [wrap64c, if_pos, if_neg, hL, e1, e2, e9, e10, e11, hlt, q_x, g_x, l_x, r_x, z_x])
      try simp (disch := first | omega | (simp; done) | fail) [wrap64c, if_pos, if_neg, hL, e1, e2, e9, e10, e11, hlt, q_x, g_x, l_x, r_x, z_x]
      have : ¬ ∀ x ∈ xs, a ≤ x ∧ x ≤ b := fun q => hq (q _ (List.getElem_mem hlt))
      exact done_ret rfl (by rw [decide_eq_false this]; simp)
  · try simp (disch := first | omega | (simp; done) | fail) [wrap64c, if_pos, if_neg, hL, e1, e2, e9, e10, e11, hlt]
    have : ∀ x ∈ xs, a ≤ x ∧ x ≤ b := fun x hx' => by
      obtain ⟨i, hi, rfl⟩ := List.getElem_of_mem hx'
      exact hx i hi (by omega)
    exact done_ret rfl (by rw [decide_eq_true this]; simp)
end Go.Proofs.Ytnncipcldbopgaa
namespace Go.Proofs.Ytnncipcldbopgaa
set_option linter.unusedSimpArgs false
set_option linter.unusedVariables false
set_option maxHeartbeats 4000000
open Go Go.Eng
attribute [local irreducible] WD RunD PreD Runs CallOK
theorem spIf_ok (h : Hp) (b : Value) (N : Int) (X : List Int) (S : Nat → Prop) (hX : IntsO S h b X) (hS : ∀ o, S o → o < h.next) (hl : X.length < 2 ^ 40) :
    ∃ h', CallOK Try.prog 256 #[.agg #[.int .i64 N, b]] h (.tuple #[if spB N X = true then .agg #[.int .i64 N, b] else .agg #[.int .i64 0, .slice none 0 0], .bool (spB N X)]) h' ∧ Adds h h' := by
  have nt := hX.nt
  have cs := hX.cs
  have key : ∃ v' h', CallOK Try.prog 256 #[.agg #[.int .i64 N, b]] h v' h' ∧ v' = .tuple #[if spB N X = true then .agg #[.int .i64 N, b] else .agg #[.int .i64 0, .slice none 0 0], .bool (spB N X)] ∧ Adds h h' := by
    refine callY_L (args := [.agg #[.int .i64 N, b]]) 9 _ [.cell 2 26, .tmp 3] Try.func256 rfl rfl rfl ?_
    refine WD_first ?_
    try simp (disch := first | omega | (simp; done) | fail) [wrap64c, if_pos, if_neg, opAnd, opOr, opXor, opDiff, opShr, opBit, nt, cs]
    refine stopK_heap fun h0 q_h0 => ?_
    refine stopK_go ?_
    have k0 : Adds h h0 := by rw [q_h0]; exact (by first | exact aK | exact kK)
    have n0 : h0.next = h.next + 2 := by simp [q_h0]
    have g0 : h0.get h.next = .cells [.int .i64 N, b] true true 1 := by simp [q_h0]
    have g1 : h0.get (h.next + 1) = .cells [.int .i64 0, .slice none 0 0] true true 1 := by simp [q_h0]
    try simp (disch := first | omega | (simp; done) | fail) [wrap64c, if_pos, if_neg, opAnd, opOr, opXor, opDiff, opShr, opBit, nt, cs, g0, g1]
    refine callG_c (by simp) (by simp) ?ha (spGood_ok h0 (.agg #[.int .i64 N, b]) N X (.mk (hX.ints.keep k0.1)) hl) ?_
    (case ha => simp (disch := first | omega | (simp; done) | fail) [wrap64c, if_pos, if_neg, opAnd, opOr, opXor, opDiff, opShr, opBit, nt, cs, g0, g1])
    cases c : spB N X
    · try simp (disch := first | omega | (simp; done) | fail) [wrap64c, if_pos, if_neg, opAnd, opOr, opXor, opDiff, opShr, opBit, nt, cs, g0, g1, c, putCells]
      exact done_ret (by simp [putCells]; rfl) ⟨by simp [c], (by first | exact aK | exact kK)⟩
    · try simp (disch := first | omega | (simp; done) | fail) [wrap64c, if_pos, if_neg, opAnd, opOr, opXor, opDiff, opShr, opBit, nt, cs, g0, g1, c, putCells]
      exact done_ret (by simp [putCells]; rfl) ⟨by simp [c], (by first | exact aK | exact kK)⟩
  obtain ⟨_, h', hc, rfl, ha⟩ := key
  exact ⟨h', hc, ha⟩
end Go.Proofs.Ytnncipcldbopgaa
