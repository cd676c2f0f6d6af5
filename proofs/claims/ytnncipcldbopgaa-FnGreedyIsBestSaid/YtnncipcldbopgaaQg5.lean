/- Part 5 of the proof of greedyIsBest_holds: what it uses of the texts that lie in the notes, merged. -/
import Derived.Test.YtnncipcldbopgaaQg4
namespace Go.Proofs.Ytnncipcldbopgaa
set_option linter.unusedSimpArgs false
set_option linter.unusedVariables false
set_option maxHeartbeats 4000000
open Go Go.Eng
attribute [local irreducible] WD RunD PreD Runs CallOK
def lessO (c : Nat → Int) (o : Option Nat) (i : Nat) : Option Nat := match o with
  | none => some i
  | some b => if c i < c b then some i else some b
def leastO (c : Nat → Int) : List Nat → Option Nat → Option Nat
  | [], o => o
  | i :: l, o => leastO c l (lessO c o i)
theorem leastO_snoc (c : Nat → Int) (a : Nat) : ∀ (l : List Nat) (o : Option Nat), leastO c (l ++ [a]) o = lessO c (leastO c l o) a
  | [], o => rfl
  | i :: l, o => by simp only [List.cons_append, leastO, leastO_snoc c a l]
theorem lessO_some (c : Nat → Int) (o : Option Nat) (i : Nat) : ∃ b, lessO c o i = some b ∧ (b = i ∨ o = some b) := by
  cases o with
  | none => exact ⟨i, rfl, .inl rfl⟩
  | some b =>
    simp only [lessO]
    by_cases h : c i < c b
    · exact ⟨i, by rw [if_pos h], .inl rfl⟩
    · exact ⟨b, by rw [if_neg h], .inr rfl⟩
theorem leastO_mem (c : Nat → Int) : ∀ (l : List Nat) (b : Nat), leastO c l none = some b → b ∈ l := by
  intro l
  suffices h : ∀ (l : List Nat) (o : Option Nat) (b : Nat), leastO c l o = some b → b ∈ l ∨ o = some b by
    intro b hb
    rcases h l none b hb with h1 | h1
    · exact h1
    · cases h1
  intro l
  induction l with
  | nil => intro o b h; exact .inr h
  | cons i l ih =>
    intro o b h
    rcases ih _ b h with h1 | h1
    · exact .inl (by simp [h1])
    · obtain ⟨b', e, h2⟩ := lessO_some c o i
      rw [e] at h1
      cases h1
      rcases h2 with rfl | h2
      · exact .inl (by simp)
      · exact .inr h2
theorem leastO_some (c : Nat → Int) {l : List Nat} (h : l ≠ []) : ∃ b, leastO c l none = some b ∧ b ∈ l := by
  suffices h' : ∀ (l : List Nat) (o : Option Nat), (l ≠ [] ∨ o ≠ none) → ∃ b, leastO c l o = some b by
    obtain ⟨b, hb⟩ := h' l none (.inl h)
    exact ⟨b, hb, leastO_mem c l b hb⟩
  intro l
  induction l with
  | nil =>
    intro o h
    cases o with
    | none => simp at h
    | some b => exact ⟨b, rfl⟩
  | cons i l ih =>
    intro o _
    obtain ⟨b, e, _⟩ := lessO_some c o i
    exact ih _ (.inr (by rw [e]; simp))
def optI : Option Nat → Int
  | none => -1
  | some b => (b : Int)
def optC (c : Nat → Int) : Option Nat → Int
  | none => 0
  | some b => c b
def nextG (c : Nat → Nat → Int) (M : Nat → Bool) (n s : Nat) : Nat := (leastO (c s) (itemsN (outerN M n s)) none).getD 0
def greedS (c : Nat → Nat → Int) (M : Nat → Bool) (n : Nat) : Nat → List Nat × Nat
  | 0 => ([], 0)
  | k + 1 => ((greedS c M n k).1 ++ [nextG c M n (greedS c M n k).2], nOr (greedS c M n k).2 (bit (nextG c M n (greedS c M n k).2)))
theorem greed_len (c : Nat → Nat → Int) (M : Nat → Bool) (n : Nat) : ∀ k, (greedS c M n k).1.length = k
  | 0 => rfl
  | k + 1 => by simp [greedS, greed_len c M n k]
theorem nextG_mem (c : Nat → Nat → Int) {M : Nat → Bool} {n s : Nat} (h : itemsN (outerN M n s) ≠ []) : leastO (c s) (itemsN (outerN M n s)) none = some (nextG c M n s) ∧ nextG c M n s ∈ itemsN (outerN M n s) := by
  obtain ⟨b, h1, h2⟩ := leastO_some (c s) h
  unfold nextG
  rw [h1]
  exact ⟨rfl, h2⟩
theorem greed_inv {n : Nat} {xs : List Nat} (g : SpGood n xs) (c : Nat → Nat → Int) : ∀ k, k ≤ n → (greedS c (fam xs) n k).2 ∈ xs ∧ pcN (greedS c (fam xs) n k).2 = k
  | 0, _ => ⟨g.zero, by show pcN 0 = 0; decide⟩
  | k + 1, hk => by
    obtain ⟨h1, h2⟩ := greed_inv g c k (by omega)
    have hne : (greedS c (fam xs) n k).2 ≠ bit n - 1 := by intro e; rw [e, pcN_full g.n7] at h2; omega
    have hm := (nextG_mem c (M := fam xs) (n := n) (s := (greedS c (fam xs) n k).2) (items_ne (by have := outerN_lt (fam xs) n (greedS c (fam xs) n k).2; have := bit7 g.n7; omega) (g.outer h1 hne))).2
    obtain ⟨l1, l2, l3⟩ := g.learn hm
    refine ⟨l3, ?_⟩
    rw [greedS, pcN_or (g.lt7 _ h1) (by have := g.n7; omega) l2, h2]
theorem greed_ne {n : Nat} {xs : List Nat} (g : SpGood n xs) (c : Nat → Nat → Int) {k : Nat} (hk : k < n) : itemsN (outerN (fam xs) n (greedS c (fam xs) n k).2) ≠ [] := by
  obtain ⟨h1, h2⟩ := greed_inv g c k (by omega)
  have hne : (greedS c (fam xs) n k).2 ≠ bit n - 1 := by intro e; rw [e, pcN_full g.n7] at h2; omega
  exact items_ne (by have := outerN_lt (fam xs) n (greedS c (fam xs) n k).2; have := bit7 g.n7; omega) (g.outer h1 hne)
theorem greed_end {n : Nat} {xs : List Nat} (g : SpGood n xs) (c : Nat → Nat → Int) {k : Nat} (hk : k ≤ n) : (greedS c (fam xs) n k).2 = bit n - 1 ↔ k = n := by
  obtain ⟨h1, h2⟩ := greed_inv g c k hk
  constructor
  · intro e; rw [e, pcN_full g.n7] at h2; omega
  · rintro rfl; exact (pcN_lt g.n7 (g.lt _ h1)).2 h2
def greedN (c : Nat → Nat → Int) (xs : List Nat) (n : Nat) : List Nat := (greedS c (fam xs) n n).1
@[simp] theorem greedN_len (c : Nat → Nat → Int) (xs : List Nat) (n : Nat) : (greedN c xs n).length = n := greed_len _ _ _ _
theorem greedy_ok (h : Hp) (v : Value) (n : Nat) (xs : List Nat) (c : Nat → Nat → Int) (f : Nat) (fst cap : Array Value) (hv : Space h v n (toN xs)) (g : SpGood n xs) (hf : fnOK Try.prog f = true)
    (hp : ∀ h' s i, Keeps h h' → s < 128 → i < n → CallOK Try.prog f (fst ++ #[.int .i64 (s : Int), .int .i64 (i : Int)] ++ cap) h' (.int .i64 (c s i)) h') :
    ∃ v' h', CallOK Try.prog 196 #[v, .func (.func f) fst cap] h v' h' ∧ Adds h h' ∧ IntsO (Btw h.next h'.next) h' v' (toN (greedN c xs n)) := by
  refine callY_L (args := [v, .func (.func f) fst cap]) 52 _ [.tmp 4] Try.func196 rfl rfl rfl ?_
  obtain ⟨b, rfl, hX⟩ := hv
  refine WD_first ?_
  try simp (disch := first | omega | (simp; done) | fail) [wrap64c, if_pos, if_neg, opAnd, opOr, opXor, opDiff, opShr, opBit]
  refine stopK_heap fun h0 q_h0 => ?_
  refine stopK_go ?_
  have g_h0 : h0.get h.next = .cells [.int .i64 n, b] true true 1 := by simp [q_h0]
  have k_h0 : Adds h h0 := by rw [q_h0]; exact (by first | exact aK | exact kK)
  have n_h0 : h.next < h0.next := by simp [q_h0]; try omega
  have hX1 := hX.keep k_h0.1
  have n7 := g.n7
  have hb7 := bit7 n7
  have hf1 := hf
  try simp (disch := first | omega | (simp; done) | fail) [wrap64c, if_pos, if_neg, opAnd, opOr, opXor, opDiff, opShr, opBit, g_h0, hf1]
  obtain ⟨_, h1, hc1, o1, rfl, ha1, ho1, ho2, hg1⟩ := family_ok h0 (.agg #[.int .i64 (n : Int), b]) n xs (.mk hX1) g.lt7 (by have := g.len7; omega)
  refine callG_c (by simp) (by simp) ?ha (hc1) ?_
  (case ha => simp (disch := first | omega | (simp; done) | fail) [wrap64c, if_pos, if_neg, opAnd, opOr, opXor, opDiff, opShr, opBit, g_h0, hf1])
  have g1 : h1.get h.next = .cells [.int .i64 n, b] true true 1 := by rw [ha1.1.2 _ (by omega)]; exact g_h0
  have A1 := k_h0.trans ha1
  have hX2 := hX1.keep ha1.1
  have hn1 := ha1.1.1
  try simp (disch := first | omega | (simp; done) | fail) [wrap64c, if_pos, if_neg, opAnd, opOr, opXor, opDiff, opShr, opBit, g_h0, hf1, g1]
  refine WD_loopC [1, 2, 5] (fun m tm h' => ∃ k u, m = n - k ∧ tm 6 = u ∧ tm 7 = .int .i64 (((greedS c (fam xs) n k).2 : Nat) : Int) ∧ (k ≤ n) ∧ (Adds h1 h') ∧ (IntsA h1.next h' u (toN (greedS c (fam xs) n k).1))) _ ⟨0, _, rfl, (by simp (disch := first | omega | (simp; done) | fail) [wrap64c, if_pos, if_neg, opAnd, opOr, opXor, opDiff, opShr, opBit, g_h0, hf1, g1]), (by simp [greedS]), (by first | omega | assumption | (simp (disch := first | omega | (simp; done) | fail) [wrap64c, if_pos, if_neg, opAnd, opOr, opXor, opDiff, opShr, opBit, g_h0, hf1, g1] <;> omega)), (by first | exact aK | exact kK), (.lit (ex := true) (Nat.le_refl _) (by simp) (by simp [greedS, toN]))⟩ ?_
  rintro m tm h' hFr ⟨k, u, rfl, e6, e7, hk, ha, hu⟩
  simp only [FrameL] at hFr
  obtain ⟨f1_0, f2_0, f5_0, -⟩ := hFr
  try simp (disch := first | omega | (simp; done) | fail) [wrap64c, if_pos, if_neg, opAnd, opOr, opXor, opDiff, opShr, opBit, g_h0, hf1, g1] at f1_0 f2_0 f5_0
  have e1 := f1_0
  have e2 := f2_0
  have e5 := f5_0
  have hlu := greed_len c (fam xs) n k
  obtain ⟨hi1, hi2⟩ := greed_inv g c k hk
  have hs128 := g.lt7 _ hi1
  have g1' : h'.get h.next = .cells [.int .i64 n, b] true true 1 := by rw [ha.1.2 _ (by omega)]; exact g1
  have hgf : h'.get o1 = .cells (famC (fam xs)) true true 1 := by rw [ha.1.2 _ (by omega)]; exact hg1
  have hn2 := ha.1.1
  try simp (disch := first | omega | (simp; done) | fail) [wrap64c, if_pos, if_neg, opAnd, opOr, opXor, opDiff, opShr, opBit, g_h0, hf1, g1, e1, e2, e5, e6, e7, g1']
  refine callG_c (by simp) (by simp) ?ha (all_ok h' (.agg #[.int .i64 (n : Int), b]) n _ (.mk (hX2.keep ha.1)) (by omega)) ?_
  (case ha => simp (disch := first | omega | (simp; done) | fail) [wrap64c, if_pos, if_neg, opAnd, opOr, opXor, opDiff, opShr, opBit, g_h0, hf1, g1, e1, e2, e5, e6, e7, g1'])
  by_cases hlt : k < n
  · have hne : ¬ ((greedS c (fam xs) n k).2 = bit n - 1) := fun e => by have := (greed_end g c hk).1 e; omega
    have hneb : ((((greedS c (fam xs) n k).2 : Nat) : Int) != ((bit n - 1 : Nat) : Int)) = true := by simp [hne]
    obtain ⟨s, hs⟩ : ∃ s, s = (greedS c (fam xs) n k).2 := ⟨_, rfl⟩
    have hout := outerN_lt (fam xs) n s
    have hwn := greed_ne g c hlt
    rw [← hs] at hwn hs128
    obtain ⟨hlo, hmem⟩ := nextG_mem c hwn
    obtain ⟨l1, l2, l3⟩ := g.learn hmem
    have hp64 := bit_lt7 (i := nextG c (fam xs) n s) (by omega)
    have hor := g.lt7 _ l3
    have hs2 := hs.symm
    try simp (disch := first | omega | (simp; done) | fail) [wrap64c, if_pos, if_neg, opAnd, opOr, opXor, opDiff, opShr, opBit, g_h0, hf1, g1, e1, e2, e5, e6, e7, g1', hneb, hs2]
    refine callG_c (by simp) (by simp) ?ha (imOuter_ok h' o1 (fam xs) true true 1 s (by omega) hgf (by omega)) ?_
    (case ha => simp (disch := first | omega | (simp; done) | fail) [wrap64c, if_pos, if_neg, opAnd, opOr, opXor, opDiff, opShr, opBit, g_h0, hf1, g1, e1, e2, e5, e6, e7, g1', hneb, hs2])
    have h7 := g.outer7 s
    try simp (disch := first | omega | (simp; done) | fail) [wrap64c, if_pos, if_neg, opAnd, opOr, opXor, opDiff, opShr, opBit, g_h0, hf1, g1, e1, e2, e5, e6, e7, g1', hneb, hs2, h7]
    obtain ⟨y, h2, hc2, ha2, hi2', _⟩ := items_ok h' (outerN (fam xs) n s) (by omega)
    refine callG_c (by simp) (by simp) ?ha (hc2) ?_
    (case ha => simp (disch := first | omega | (simp; done) | fail) [wrap64c, if_pos, if_neg, opAnd, opOr, opXor, opDiff, opShr, opBit, g_h0, hf1, g1, e1, e2, e5, e6, e7, g1', hneb, hs2, h7])
    have hu2 := hu.keep ha2.1
    have hn3 := ha2.1.1
    have hL := hi2'.lenD
    have hgt := toN_get (itemsN (outerN (fam xs) n s))
    have hln := toN_length (itemsN (outerN (fam xs) n s))
    have hl7 := items_len (outerN (fam xs) n s)
    have K2 := (A1.1.trans ha.1).trans ha2.1
    try simp (disch := first | omega | (simp; done) | fail) [wrap64c, if_pos, if_neg, opAnd, opOr, opXor, opDiff, opShr, opBit, g_h0, hf1, g1, e1, e2, e5, e6, e7, g1', hneb, hs2, h7, hL, hgt]
    refine WD_loopC [1, 2, 5, 6, 7, 23, 24] (fun m tm h' => ∃ j, m = (itemsN (outerN (fam xs) n s)).length - j ∧ h2 = h' ∧ tm 8 = .int .i64 (optI (leastO (c s) ((itemsN (outerN (fam xs) n s)).take j) none)) ∧ tm 9 = .int .i64 (optC (c s) (leastO (c s) ((itemsN (outerN (fam xs) n s)).take j) none)) ∧ tm 25 = .int .i64 (j : Int) ∧ (j ≤ (itemsN (outerN (fam xs) n s)).length)) _ ⟨0, rfl, rfl, (by simp [leastO, optI]), (by simp [leastO, optC]), (by simp (disch := first | omega | (simp; done) | fail) [wrap64c, if_pos, if_neg, opAnd, opOr, opXor, opDiff, opShr, opBit, g_h0, hf1, g1, e1, e2, e5, e6, e7, g1', hneb, hs2, h7, hL, hgt]), (by first | omega | assumption | (simp (disch := first | omega | (simp; done) | fail) [wrap64c, if_pos, if_neg, opAnd, opOr, opXor, opDiff, opShr, opBit, g_h0, hf1, g1, e1, e2, e5, e6, e7, g1', hneb, hs2, h7, hL, hgt] <;> omega))⟩ ?_
    rintro m tm h' hFr ⟨j, rfl, rfl, e8, e9, e25, hj⟩
    simp only [FrameL] at hFr
    obtain ⟨f1_1, f2_1, f5_1, f6_1, f7_1, f23_1, f24_1, -⟩ := hFr
    try simp (disch := first | omega | (simp; done) | fail) [wrap64c, if_pos, if_neg, opAnd, opOr, opXor, opDiff, opShr, opBit, g_h0, hf1, g1, e1, e2, e5, e6, e7, g1', hneb, hs2, h7, hL, hgt] at f1_1 f2_1 f5_1 f6_1 f7_1 f23_1 f24_1
    have e1 := f1_1
    have e2 := f2_1
    have e5 := f5_1
    have e6 := f6_1
    have e7 := f7_1
    have e23 := f23_1
    have e24 := f24_1
    by_cases hlt2 : j < (itemsN (outerN (fam xs) n s)).length
    · have hX3 := hi2'.ints
      obtain ⟨o_x, i_x, c_x, cs_x, own_x, ex_x, es_x, q_x, b_x, g_x, l_x, r_x⟩ := hX3.open ((by omega))
      have z_x : ∀ h2 : i_x < cs_x.length, cs_x[i_x] = _ := fun h2 => r_x 0 ((by omega)) h2
      have hin := (g.learn (List.getElem_mem hlt2)).1
      have hsn : leastO (c s) ((itemsN (outerN (fam xs) n s)).take (j + 1)) none = lessO (c s) (leastO (c s) ((itemsN (outerN (fam xs) n s)).take j) none) (itemsN (outerN (fam xs) n s))[j] := by rw [List.take_succ_eq_append_getElem hlt2]; exact leastO_snoc _ _ _ _
      try simp (disch := first | omega | (simp; done) | fail) [wrap64c, if_pos, if_neg, opAnd, opOr, opXor, opDiff, opShr, opBit, g_h0, hf1, g1, e1, e2, e5, e6, e7, g1', hneb, hs2, h7, hL, hgt, e8, e9, e23, e24, e25, hlt2, q_x, g_x, l_x, r_x, z_x]
      refine callG_f (fst := fst) (cap := cap) (by simp) (by simp) ?hf ?hk ?ha (hp h2 s (itemsN (outerN (fam xs) n s))[j] K2 hs128 hin) ?_
      (case hf => simp (disch := first | omega | (simp; done) | fail) [wrap64c, if_pos, if_neg, opAnd, opOr, opXor, opDiff, opShr, opBit, g_h0, hf1, g1, e1, e2, e5, e6, e7, g1', hneb, hs2, h7, hL, hgt, e8, e9, e23, e24, e25, hlt2, q_x, g_x, l_x, r_x, z_x]; try rfl)
      (case hk => simp (disch := first | omega | (simp; done) | fail) [wrap64c, if_pos, if_neg, opAnd, opOr, opXor, opDiff, opShr, opBit, g_h0, hf1, g1, e1, e2, e5, e6, e7, g1', hneb, hs2, h7, hL, hgt, e8, e9, e23, e24, e25, hlt2, q_x, g_x, l_x, r_x, z_x])
      (case ha => simp (disch := first | omega | (simp; done) | fail) [wrap64c, if_pos, if_neg, opAnd, opOr, opXor, opDiff, opShr, opBit, g_h0, hf1, g1, e1, e2, e5, e6, e7, g1', hneb, hs2, h7, hL, hgt, e8, e9, e23, e24, e25, hlt2, q_x, g_x, l_x, r_x, z_x])
      rcases ho : leastO (c s) ((itemsN (outerN (fam xs) n s)).take j) none with _ | b'
      · rw [ho] at hsn
        have hq1 : optI none = -1 := rfl
        try simp (disch := first | omega | (simp; done) | fail) [wrap64c, if_pos, if_neg, opAnd, opOr, opXor, opDiff, opShr, opBit, g_h0, hf1, g1, e1, e2, e5, e6, e7, g1', hneb, hs2, h7, hL, hgt, e8, e9, e23, e24, e25, hlt2, q_x, g_x, l_x, r_x, z_x, ho, hq1]
        refine loopK_next _ ?hm ?hf ⟨j + 1, rfl, rfl, (by simp [hsn, lessO, optI]), (by simp [hsn, lessO, optC]), (by simp (disch := first | omega | (simp; done) | fail) [wrap64c, if_pos, if_neg, opAnd, opOr, opXor, opDiff, opShr, opBit, g_h0, hf1, g1, e1, e2, e5, e6, e7, g1', hneb, hs2, h7, hL, hgt, e8, e9, e23, e24, e25, hlt2, q_x, g_x, l_x, r_x, z_x] <;> omega), (by first | omega | assumption | (simp (disch := first | omega | (simp; done) | fail) [wrap64c, if_pos, if_neg, opAnd, opOr, opXor, opDiff, opShr, opBit, g_h0, hf1, g1, e1, e2, e5, e6, e7, g1', hneb, hs2, h7, hL, hgt, e8, e9, e23, e24, e25, hlt2, q_x, g_x, l_x, r_x, z_x] <;> omega))⟩
        (case hm => first | omega | (simp; omega))
        (case hf => simp [FrameL, g_h0, hf1, g1, e1, e2, e5, e6, e7, g1', hneb, hs2, h7, hL, hgt, e8, e9, e23, e24, e25, hlt2, q_x, g_x, l_x, r_x, z_x, f1_1, f2_1, f5_1, f6_1, f7_1, f23_1, f24_1])
      · rw [ho] at hsn
        have hq1 : optI (some b') = (b' : Int) := rfl
        have hq2 : optC (c s) (some b') = c s b' := rfl
        have hq3 : ¬ (b' : Int) < 0 := by omega
        by_cases hcb : c s (itemsN (outerN (fam xs) n s))[j] < c s b'
        · try simp (disch := first | omega | (simp; done) | fail) [wrap64c, if_pos, if_neg, opAnd, opOr, opXor, opDiff, opShr, opBit, g_h0, hf1, g1, e1, e2, e5, e6, e7, g1', hneb, hs2, h7, hL, hgt, e8, e9, e23, e24, e25, hlt2, q_x, g_x, l_x, r_x, z_x, ho, hq1, hq2, hq3, hcb]
          refine loopK_next _ ?hm ?hf ⟨j + 1, rfl, rfl, (by simp [hsn, lessO, optI, hcb]), (by simp [hsn, lessO, optC, hcb]), (by simp (disch := first | omega | (simp; done) | fail) [wrap64c, if_pos, if_neg, opAnd, opOr, opXor, opDiff, opShr, opBit, g_h0, hf1, g1, e1, e2, e5, e6, e7, g1', hneb, hs2, h7, hL, hgt, e8, e9, e23, e24, e25, hlt2, q_x, g_x, l_x, r_x, z_x] <;> omega), (by first | omega | assumption | (simp (disch := first | omega | (simp; done) | fail) [wrap64c, if_pos, if_neg, opAnd, opOr, opXor, opDiff, opShr, opBit, g_h0, hf1, g1, e1, e2, e5, e6, e7, g1', hneb, hs2, h7, hL, hgt, e8, e9, e23, e24, e25, hlt2, q_x, g_x, l_x, r_x, z_x] <;> omega))⟩
          (case hm => first | omega | (simp; omega))
          (case hf => simp [FrameL, g_h0, hf1, g1, e1, e2, e5, e6, e7, g1', hneb, hs2, h7, hL, hgt, e8, e9, e23, e24, e25, hlt2, q_x, g_x, l_x, r_x, z_x, f1_1, f2_1, f5_1, f6_1, f7_1, f23_1, f24_1])
        · try simp (disch := first | omega | (simp; done) | fail) [wrap64c, if_pos, if_neg, opAnd, opOr, opXor, opDiff, opShr, opBit, g_h0, hf1, g1, e1, e2, e5, e6, e7, g1', hneb, hs2, h7, hL, hgt, e8, e9, e23, e24, e25, hlt2, q_x, g_x, l_x, r_x, z_x, ho, hq1, hq2, hq3, hcb]
          refine loopK_next _ ?hm ?hf ⟨j + 1, rfl, rfl, (by simp [hsn, lessO, optI, hcb, e8, ho]), (by simp [hsn, lessO, optC, hcb, e9, ho]), (by simp (disch := first | omega | (simp; done) | fail) [wrap64c, if_pos, if_neg, opAnd, opOr, opXor, opDiff, opShr, opBit, g_h0, hf1, g1, e1, e2, e5, e6, e7, g1', hneb, hs2, h7, hL, hgt, e8, e9, e23, e24, e25, hlt2, q_x, g_x, l_x, r_x, z_x] <;> omega), (by first | omega | assumption | (simp (disch := first | omega | (simp; done) | fail) [wrap64c, if_pos, if_neg, opAnd, opOr, opXor, opDiff, opShr, opBit, g_h0, hf1, g1, e1, e2, e5, e6, e7, g1', hneb, hs2, h7, hL, hgt, e8, e9, e23, e24, e25, hlt2, q_x, g_x, l_x, r_x, z_x] <;> omega))⟩
          (case hm => first | omega | (simp; omega))
          (case hf => simp [FrameL, g_h0, hf1, g1, e1, e2, e5, e6, e7, g1', hneb, hs2, h7, hL, hgt, e8, e9, e23, e24, e25, hlt2, q_x, g_x, l_x, r_x, z_x, f1_1, f2_1, f5_1, f6_1, f7_1, f23_1, f24_1])
    · rw [List.take_of_length_le (by omega), hlo] at e8
      have hq1 : optI (some (nextG c (fam xs) n s)) = ((nextG c (fam xs) n s : Nat) : Int) := rfl
      try simp (disch := first | omega | (simp; done) | fail) [wrap64c, if_pos, if_neg, opAnd, opOr, opXor, opDiff, opShr, opBit, g_h0, hf1, g1, e1, e2, e5, e6, e7, g1', hneb, hs2, h7, hL, hgt, e8, e9, e23, e24, e25, hlt2, hq1]
      refine WD_chainC rfl (by kernel_rfl) (by kernel_rfl) ?_
      try simp (disch := first | omega | (simp; done) | fail) [wrap64c, if_pos, if_neg, opAnd, opOr, opXor, opDiff, opShr, opBit, g_h0, hf1, g1, e1, e2, e5, e6, e7, g1', hneb, hs2, h7, hL, hgt, e8, e9, e23, e24, e25, hlt2, hq1]
      obtain ⟨u3, h3, hap, hu3, ha3, hn4, hs3⟩ := appI2 hu2 ((nextG c (fam xs) n s : Nat) : Int) (by simp [hlu]; omega) (by omega) (ha.trans ha2) (Nat.le_refl _)
      try simp (disch := first | omega | (simp; done) | fail) [wrap64c, if_pos, if_neg, opAnd, opOr, opXor, opDiff, opShr, opBit, g_h0, hf1, g1, e1, e2, e5, e6, e7, g1', hneb, hs2, h7, hL, hgt, e8, e9, e23, e24, e25, hlt2, hq1, hap]
      refine loopK_next _ ?hm ?hf ⟨k + 1, u3, rfl, (by simp (disch := first | omega | (simp; done) | fail) [wrap64c, if_pos, if_neg, opAnd, opOr, opXor, opDiff, opShr, opBit, g_h0, hf1, g1, e1, e2, e5, e6, e7, g1', hneb, hs2, h7, hL, hgt, e8, e9, e23, e24, e25, hlt2, hq1] <;> omega), (by simp [greedS, ← hs]), (by first | omega | assumption | (simp (disch := first | omega | (simp; done) | fail) [wrap64c, if_pos, if_neg, opAnd, opOr, opXor, opDiff, opShr, opBit, g_h0, hf1, g1, e1, e2, e5, e6, e7, g1', hneb, hs2, h7, hL, hgt, e8, e9, e23, e24, e25, hlt2, hq1] <;> omega)), ha3, (by simp only [greedS, ← hs]; rw [toN_snoc]; exact hu3)⟩
      (case hm => first | omega | (simp; omega))
      (case hf => simp [FrameL, g_h0, hf1, g1, e1, e2, e5, e6, e7, g1', hneb, hs2, h7, hL, hgt, e8, e9, e23, e24, e25, hlt2, hq1, f1_0, f2_0, f5_0])
  · have hke : k = n := by omega
    have hee := (greed_end g c hk).2 hke
    have hneb : ((((greedS c (fam xs) n k).2 : Nat) : Int) != ((bit n - 1 : Nat) : Int)) = false := by simp [hee]
    try simp (disch := first | omega | (simp; done) | fail) [wrap64c, if_pos, if_neg, opAnd, opOr, opXor, opDiff, opShr, opBit, g_h0, hf1, g1, e1, e2, e5, e6, e7, g1', hneb]
    refine done_ret rfl ⟨A1.trans ha, ?_⟩
    rw [hke] at hu
    exact (hu.own (by simp [greed_len]; omega)).sub fun o ho => ⟨by have := ho.1; omega, ho.2⟩
end Go.Proofs.Ytnncipcldbopgaa
namespace Go.Proofs.Ytnncipcldbopgaa
set_option linter.unusedSimpArgs false
set_option linter.unusedVariables false
set_option maxHeartbeats 4000000
open Go Go.Eng
attribute [local irreducible] WD RunD PreD Runs CallOK
theorem jobsB_ok {L : List Job} {N : Int} (h : jobsB L N = true) : (L.length : Int) = N ∧ JobsOK L := by
  obtain ⟨h1, h2, h3⟩ := jobsB_true h
  obtain ⟨n, rfl, a, b⟩ := sizeB_true h1
  exact ⟨h2, by omega, h3⟩
theorem grTasks_ok (h : Hp) (v : Value) (L : List Job) (N : Int) (hv : Jobs h v L) : CallOK Try.prog 192 #[v, .int .i64 N] h (.bool (jobsB L N)) h := by
  refine callY_P 39 _ [.tmp 4] Try.func192 rfl rfl rfl (by first | rfl | simp) ?_
  have hL := hv.lenD
  obtain ⟨s, c, hform, hlc, hcc⟩ := hv.form
  try simp (disch := first | omega | (simp; done) | fail) [wrap64c, if_pos, if_neg, opAnd, opOr, opXor, opDiff, opShr, opBit, hL]
  refine callG_c (by simp) (by simp) ?ha (spItems_ok h N) ?_
  (case ha => simp (disch := first | omega | (simp; done) | fail) [wrap64c, if_pos, if_neg, opAnd, opOr, opXor, opDiff, opShr, opBit, hL])
  cases c1 : sizeB N
  · have e : jobsB L N = false := jobsB_no fun h1 _ _ => by rw [c1] at h1; cases h1
    try simp (disch := first | omega | (simp; done) | fail) [wrap64c, if_pos, if_neg, opAnd, opOr, opXor, opDiff, opShr, opBit, hL, c1]
    exact done_ret rfl (by simp [e])
  · by_cases c2 : (L.length : Int) = N
    · have d2 : ((L.length : Int) != N) = false := by simp [c2]
      try simp (disch := first | omega | (simp; done) | fail) [wrap64c, if_pos, if_neg, opAnd, opOr, opXor, opDiff, opShr, opBit, hL, c1, d2]
      refine WD_loopC [16, 17] (fun m tm h' => ∃ j, m = L.length - j ∧ tm 18 = .int .i64 (j : Int) ∧ (j ≤ L.length) ∧ (Keeps h h') ∧ (∀ k, k < j → jobOK (jobAt L k) = true)) _ ⟨0, rfl, (by simp (disch := first | omega | (simp; done) | fail) [wrap64c, if_pos, if_neg, opAnd, opOr, opXor, opDiff, opShr, opBit, hL, c1]), (by first | omega | assumption | (simp (disch := first | omega | (simp; done) | fail) [wrap64c, if_pos, if_neg, opAnd, opOr, opXor, opDiff, opShr, opBit, hL, c1] <;> omega)), (Keeps.refl _), (by intro k hk; omega)⟩ ?_
      rintro m tm h' hFr ⟨j, rfl, e18, hj, ha, hx⟩
      simp only [FrameL] at hFr
      obtain ⟨f16_0, f17_0, -⟩ := hFr
      try simp (disch := first | omega | (simp; done) | fail) [wrap64c, if_pos, if_neg, opAnd, opOr, opXor, opDiff, opShr, opBit, hL, c1] at f16_0 f17_0
      have e16 := f16_0
      have e17 := f17_0
      have ha1 := ha.1
      by_cases hlt : j < L.length
      · have hv1 := hv.keep ha
        obtain ⟨o_x, i_x, c_x, cs_x, own_x, ex_x, es_x, q_x, b_x, g_x, l_x, r_x, s_x, t_x, u_x, ra_x, rb_x, rc_x⟩ := hv1.open ((by omega))
        try simp (disch := first | omega | (simp; done) | fail) [wrap64c, if_pos, if_neg, opAnd, opOr, opXor, opDiff, opShr, opBit, hL, c1, e16, e17, e18, hlt, q_x, g_x, l_x, r_x, s_x, t_x, u_x, ra_x, rb_x, rc_x, jobL, putCells]
        first | refine WY_heap fun h2 q_h2 => ?_ | refine callG_heap fun h2 q_h2 => ?_ | refine callP_heap fun h2 q_h2 => ?_ | refine callS_heap fun h2 q_h2 => ?_ | refine RY_heap fun h2 q_h2 => ?_ | refine PY_heap fun h2 q_h2 => ?_ | refine SY_heap fun h2 q_h2 => ?_ | refine doneY_heap fun h2 q_h2 => ?_ | refine loopK_heap fun h2 q_h2 => ?_ | refine thenY_heap fun h2 q_h2 => ?_ | refine thenM_heap fun h2 q_h2 => ?_
        have k2 : Keeps h h2 := by rw [q_h2]; exact (by first | exact aK | exact kK)
        have g2 : h2.get h'.next = .cells [.int .i64 (jobAt L j).ti, .int .i64 (jobAt L j).ra, .int .i64 (jobAt L j).ba] true true 1 := by simp [q_h2, putCells]
        refine callG_c (by simp) (by simp) ?ha (l1In_ok h2 (jobAt L j).ti 1 9) ?_
        (case ha => simp (disch := first | omega | (simp; done) | fail) [wrap64c, if_pos, if_neg, opAnd, opOr, opXor, opDiff, opShr, opBit, hL, c1, e16, e17, e18, hlt, q_x, g_x, l_x, r_x, s_x, t_x, u_x, ra_x, rb_x, rc_x, g2])
        by_cases d1 : 1 ≤ (jobAt L j).ti ∧ (jobAt L j).ti ≤ 9
        · have e1 := decide_eq_true d1
          try simp (disch := first | omega | (simp; done) | fail) [wrap64c, if_pos, if_neg, opAnd, opOr, opXor, opDiff, opShr, opBit, hL, c1, e16, e17, e18, hlt, q_x, g_x, l_x, r_x, s_x, t_x, u_x, ra_x, rb_x, rc_x, g2, e1]
          refine callG_c (by simp) (by simp) ?ha (l1In_ok h2 (jobAt L j).ra 0 9) ?_
          (case ha => simp (disch := first | omega | (simp; done) | fail) [wrap64c, if_pos, if_neg, opAnd, opOr, opXor, opDiff, opShr, opBit, hL, c1, e16, e17, e18, hlt, q_x, g_x, l_x, r_x, s_x, t_x, u_x, ra_x, rb_x, rc_x, g2, e1])
          by_cases d2 : 0 ≤ (jobAt L j).ra ∧ (jobAt L j).ra ≤ 9
          · have e2 := decide_eq_true d2
            try simp (disch := first | omega | (simp; done) | fail) [wrap64c, if_pos, if_neg, opAnd, opOr, opXor, opDiff, opShr, opBit, hL, c1, e16, e17, e18, hlt, q_x, g_x, l_x, r_x, s_x, t_x, u_x, ra_x, rb_x, rc_x, g2, e1, e2]
            refine callG_c (by simp) (by simp) ?ha (l1In_ok h2 (jobAt L j).ba (-100) 100) ?_
            (case ha => simp (disch := first | omega | (simp; done) | fail) [wrap64c, if_pos, if_neg, opAnd, opOr, opXor, opDiff, opShr, opBit, hL, c1, e16, e17, e18, hlt, q_x, g_x, l_x, r_x, s_x, t_x, u_x, ra_x, rb_x, rc_x, g2, e1, e2])
            by_cases d3 : -100 ≤ (jobAt L j).ba ∧ (jobAt L j).ba ≤ 100
            · have e3 := decide_eq_true d3
              have hok : jobOK (jobAt L j) = true := decide_eq_true ⟨d1, d2, d3⟩
              try simp (disch := first | omega | (simp; done) | fail) [wrap64c, if_pos, if_neg, opAnd, opOr, opXor, opDiff, opShr, opBit, hL, c1, e16, e17, e18, hlt, q_x, g_x, l_x, r_x, s_x, t_x, u_x, ra_x, rb_x, rc_x, g2, e1, e2, e3]
              refine loopK_next _ ?hm ?hf ⟨j + 1, rfl, (by simp (disch := first | omega | (simp; done) | fail) [wrap64c, if_pos, if_neg, opAnd, opOr, opXor, opDiff, opShr, opBit, hL, c1, e16, e17, e18, hlt, q_x, g_x, l_x, r_x, s_x, t_x, u_x, ra_x, rb_x, rc_x, g2] <;> omega), (by first | omega | assumption | (simp (disch := first | omega | (simp; done) | fail) [wrap64c, if_pos, if_neg, opAnd, opOr, opXor, opDiff, opShr, opBit, hL, c1, e16, e17, e18, hlt, q_x, g_x, l_x, r_x, s_x, t_x, u_x, ra_x, rb_x, rc_x, g2] <;> omega)), k2, ?c_hx⟩
              (case hm => first | omega | (simp; omega))
              (case hf => simp [FrameL, hL, c1, e16, e17, e18, hlt, q_x, g_x, l_x, r_x, s_x, t_x, u_x, ra_x, rb_x, rc_x, g2, f16_0, f17_0])
              case c_hx =>
                exact (fun k hk => by
                  by_cases e : k = j
                  · subst e; exact hok
                  · exact hx k (by omega))
            · have e3 := decide_eq_false d3
              have hok : jobsB L N = false := jobsB_no fun _ _ h3 => d3 (jobOK_true (h3 j hlt)).2.2
              try simp (disch := first | omega | (simp; done) | fail) [wrap64c, if_pos, if_neg, opAnd, opOr, opXor, opDiff, opShr, opBit, hL, c1, e16, e17, e18, hlt, q_x, g_x, l_x, r_x, s_x, t_x, u_x, ra_x, rb_x, rc_x, g2, e1, e2, e3]
              exact done_ret rfl (by simp [hok, k2])
          · have e2 := decide_eq_false d2
            have hok : jobsB L N = false := jobsB_no fun _ _ h3 => d2 (jobOK_true (h3 j hlt)).2.1
            try simp (disch := first | omega | (simp; done) | fail) [wrap64c, if_pos, if_neg, opAnd, opOr, opXor, opDiff, opShr, opBit, hL, c1, e16, e17, e18, hlt, q_x, g_x, l_x, r_x, s_x, t_x, u_x, ra_x, rb_x, rc_x, g2, e1, e2]
            exact done_ret rfl (by simp [hok, k2])
        · have e1 := decide_eq_false d1
          have hok : jobsB L N = false := jobsB_no fun _ _ h3 => d1 (jobOK_true (h3 j hlt)).1
          try simp (disch := first | omega | (simp; done) | fail) [wrap64c, if_pos, if_neg, opAnd, opOr, opXor, opDiff, opShr, opBit, hL, c1, e16, e17, e18, hlt, q_x, g_x, l_x, r_x, s_x, t_x, u_x, ra_x, rb_x, rc_x, g2, e1]
          exact done_ret rfl (by simp [hok, k2])
      · try simp (disch := first | omega | (simp; done) | fail) [wrap64c, if_pos, if_neg, opAnd, opOr, opXor, opDiff, opShr, opBit, hL, c1, e16, e17, e18, hlt]
        have e : jobsB L N = true := jobsB_of c1 c2 fun k hk => hx k (by omega)
        exact done_ret rfl (by simp [e, ha])
    · have d2 : ((L.length : Int) != N) = true := by simp [c2]
      have e : jobsB L N = false := jobsB_no fun _ h1 _ => c2 h1
      try simp (disch := first | omega | (simp; done) | fail) [wrap64c, if_pos, if_neg, opAnd, opOr, opXor, opDiff, opShr, opBit, hL, c1, d2]
      exact done_ret rfl (by simp [e])
theorem grGiven_ok (h : Hp) (v w : Value) (N : Int) (X : List Int) (L : List Job) (hv : Space h v N X) (hw : Jobs h w L) (hl : X.length < 2 ^ 40) : CallOK Try.prog 184 #[v, w] h (.bool (spB N X && jobsB L N)) h := by
  refine callY_P 13 _ [.tmp 4] Try.func184 rfl rfl rfl (by first | rfl | simp) ?_
  obtain ⟨b, rfl, hX⟩ := hv
  obtain ⟨s, c, hform, hlc, hcc⟩ := hw.form
  refine WD_first ?_
  try simp (disch := first | omega | (simp; done) | fail) [wrap64c, if_pos, if_neg, opAnd, opOr, opXor, opDiff, opShr, opBit]
  refine stopK_heap fun h0 q_h0 => ?_
  refine stopK_go ?_
  have g_h0 : h0.get h.next = .cells [.int .i64 N, b] true true 1 := by simp [q_h0]
  have k_h0 : Adds h h0 := by rw [q_h0]; exact (by first | exact aK | exact kK)
  have n_h0 : h.next < h0.next := by simp [q_h0]; try omega
  have hX0 := hX.keep k_h0.1
  have hw0 := hw.keep k_h0.1
  have K0 := k_h0.1
  try simp (disch := first | omega | (simp; done) | fail) [wrap64c, if_pos, if_neg, opAnd, opOr, opXor, opDiff, opShr, opBit, g_h0]
  refine callG_c (by simp) (by simp) ?ha (spGood_ok h0 (.agg #[.int .i64 N, b]) N X (.mk hX0) hl) ?_
  (case ha => simp (disch := first | omega | (simp; done) | fail) [wrap64c, if_pos, if_neg, opAnd, opOr, opXor, opDiff, opShr, opBit, g_h0])
  cases c1 : spB N X
  · try simp (disch := first | omega | (simp; done) | fail) [wrap64c, if_pos, if_neg, opAnd, opOr, opXor, opDiff, opShr, opBit, g_h0, c1]
    exact done_ret rfl (by simp [c1, K0])
  · try simp (disch := first | omega | (simp; done) | fail) [wrap64c, if_pos, if_neg, opAnd, opOr, opXor, opDiff, opShr, opBit, g_h0, c1]
    refine callG_c (by simp) (by simp) ?ha (grTasks_ok h0 w L N hw0) ?_
    (case ha => simp (disch := first | omega | (simp; done) | fail) [wrap64c, if_pos, if_neg, opAnd, opOr, opXor, opDiff, opShr, opBit, g_h0, c1])
    try simp (disch := first | omega | (simp; done) | fail) [wrap64c, if_pos, if_neg, opAnd, opOr, opXor, opDiff, opShr, opBit, g_h0, c1]
    exact done_ret rfl (by simp [c1, K0])
theorem together_ok (h : Hp) (v w : Value) (N : Int) (X : List Int) (L : List Job) (hv : Space h v N X) (hw : Jobs h w L) (hl : X.length < 2 ^ 40) : CallOK Try.prog 177 #[v, w] h (.bool (spB N X && jobsB L N)) h := by
  refine callY_P 13 _ [.tmp 4] Try.func177 rfl rfl rfl (by first | rfl | simp) ?_
  obtain ⟨b, rfl, hX⟩ := hv
  obtain ⟨s, c, hform, hlc, hcc⟩ := hw.form
  refine WD_first ?_
  try simp (disch := first | omega | (simp; done) | fail) [wrap64c, if_pos, if_neg, opAnd, opOr, opXor, opDiff, opShr, opBit]
  refine stopK_heap fun h0 q_h0 => ?_
  refine stopK_go ?_
  have g_h0 : h0.get h.next = .cells [.int .i64 N, b] true true 1 := by simp [q_h0]
  have k_h0 : Adds h h0 := by rw [q_h0]; exact (by first | exact aK | exact kK)
  have n_h0 : h.next < h0.next := by simp [q_h0]; try omega
  have hX0 := hX.keep k_h0.1
  have hw0 := hw.keep k_h0.1
  have K0 := k_h0.1
  try simp (disch := first | omega | (simp; done) | fail) [wrap64c, if_pos, if_neg, opAnd, opOr, opXor, opDiff, opShr, opBit, g_h0]
  refine callG_c (by simp) (by simp) ?ha (isSpace_ok h0 (.agg #[.int .i64 N, b]) N X (.mk hX0) hl) ?_
  (case ha => simp (disch := first | omega | (simp; done) | fail) [wrap64c, if_pos, if_neg, opAnd, opOr, opXor, opDiff, opShr, opBit, g_h0])
  cases c1 : spB N X
  · try simp (disch := first | omega | (simp; done) | fail) [wrap64c, if_pos, if_neg, opAnd, opOr, opXor, opDiff, opShr, opBit, g_h0, c1]
    exact done_ret rfl (by simp [c1, K0])
  · try simp (disch := first | omega | (simp; done) | fail) [wrap64c, if_pos, if_neg, opAnd, opOr, opXor, opDiff, opShr, opBit, g_h0, c1]
    refine callG_c (by simp) (by simp) ?ha (areTasks_ok h0 w L N hw0) ?_
    (case ha => simp (disch := first | omega | (simp; done) | fail) [wrap64c, if_pos, if_neg, opAnd, opOr, opXor, opDiff, opShr, opBit, g_h0, c1])
    try simp (disch := first | omega | (simp; done) | fail) [wrap64c, if_pos, if_neg, opAnd, opOr, opXor, opDiff, opShr, opBit, g_h0, c1]
    exact done_ret rfl (by simp [c1, K0])
theorem bestClo_ok (h : Hp) (o : Nat) (v : Value) (L : List Job) (s i : Nat) (hg : h.get o = .cells [v] true true 1) (hv : Jobs h v L) (g : JobsOK L) (hs : s < 128) (hi : i < L.length) :
    CallOK Try.prog 243 #[.int .i64 (s : Int), .int .i64 (i : Int), .pointer (some ⟨o, 0, none⟩)] h (.int .i64 (costN L s i)) h := by
  refine callY_P 10 _ [.tmp 5] Try.func243 rfl rfl rfl (by first | rfl | simp) ?_
  have hg1 := hg
  try simp (disch := first | omega | (simp; done) | fail) [wrap64c, if_pos, if_neg, opAnd, opOr, opXor, opDiff, opShr, opBit, hg1]
  refine callG_c (by simp) (by simp) ?ha (cost_ok h v L s i hv g hs hi) ?_
  (case ha => simp (disch := first | omega | (simp; done) | fail) [wrap64c, if_pos, if_neg, opAnd, opOr, opXor, opDiff, opShr, opBit, hg1])
  try simp (disch := first | omega | (simp; done) | fail) [wrap64c, if_pos, if_neg, opAnd, opOr, opXor, opDiff, opShr, opBit, hg1]
  exact done_ret rfl (by simp)
theorem best_ok (h : Hp) (v w : Value) (n : Nat) (xs : List Nat) (L : List Job) (hv : Space h v n (toN xs)) (hw : Jobs h w L) (g : SpGood n xs) (gj : JobsOK L) (hn : L.length = n) :
    ∃ v' h', CallOK Try.prog 188 #[v, w] h v' h' ∧ Adds h h' ∧ IntsO (Btw h.next h'.next) h' v' (toN (greedN (costN L) xs n)) := by
  refine callY_L (args := [v, w]) 8 _ [.tmp 4] Try.func188 rfl rfl rfl ?_
  obtain ⟨b, rfl, hX⟩ := hv
  have ntw := hw.nt
  have csw := hw.cs
  refine WD_first ?_
  try simp (disch := first | omega | (simp; done) | fail) [wrap64c, if_pos, if_neg, opAnd, opOr, opXor, opDiff, opShr, opBit, ntw, csw]
  refine stopK_heap fun h0 q_h0 => ?_
  refine stopK_go ?_
  have k0 : Adds h h0 := by rw [q_h0]; exact (by first | exact aK | exact kK)
  have n0 : h0.next = h.next + 2 := by simp [q_h0]
  have g0 : h0.get h.next = .cells [.int .i64 n, b] true true 1 := by simp [q_h0]
  have g1 : h0.get (h.next + 1) = .cells [w] true true 1 := by simp [q_h0]
  try simp (disch := first | omega | (simp; done) | fail) [wrap64c, if_pos, if_neg, opAnd, opOr, opXor, opDiff, opShr, opBit, ntw, csw, g0, g1]
  obtain ⟨u, h1, hc1, ha1, hi1⟩ := greedy_ok h0 (.agg #[.int .i64 n, b]) n xs (costN L) 243 #[] #[.pointer (some ⟨h.next + 1, 0, none⟩)] (.mk (hX.keep k0.1)) g (by simp) (fun h' s i hk hs hi => by
    refine bestClo_ok h' (h.next + 1) w L s i ?_ ((hw.keep k0.1).keep hk) gj hs (by omega)
    rw [hk.2 _ (by omega)]; exact g1)
  refine callG_c (by simp) (by simp) ?ha (hc1) ?_
  (case ha => simp (disch := first | omega | (simp; done) | fail) [wrap64c, if_pos, if_neg, opAnd, opOr, opXor, opDiff, opShr, opBit, ntw, csw, g0, g1])
  try simp (disch := first | omega | (simp; done) | fail) [wrap64c, if_pos, if_neg, opAnd, opOr, opXor, opDiff, opShr, opBit, ntw, csw, g0, g1]
  exact done_ret rfl ⟨k0.trans ha1, hi1.sub fun o ho => ⟨by have := ho.1; omega, ho.2⟩⟩
def setW : List Nat → Nat → Nat
  | [], s => s
  | i :: l, s => setW l (nOr s (bit i))
theorem setW_snoc (a : Nat) : ∀ (l : List Nat) (s : Nat), setW (l ++ [a]) s = nOr (setW l s) (bit a)
  | [], s => rfl
  | i :: l, s => by simp only [List.cons_append, setW, setW_snoc a l]
theorem setW_lt : ∀ (l : List Nat) (s : Nat), s < 128 → (∀ i ∈ l, i < 7) → setW l s < 128
  | [], s, h, _ => h
  | i :: l, s, h, hl => by
    rw [setW]
    have h1 := bit_lt7 (hl i (by simp))
    exact setW_lt l _ (nOr128 h (by omega)) fun j hj => hl j (by simp [hj])
def topW (c : Nat → Nat → Int) : List Nat → Nat → Int → Int
  | [], _, m => m
  | i :: l, s, m => topW c l (nOr s (bit i)) (if m < c s i then c s i else m)
theorem topW_snoc (c : Nat → Nat → Int) (a : Nat) : ∀ (l : List Nat) (s : Nat) (m : Int), topW c (l ++ [a]) s m = if topW c l s m < c (setW l s) a then c (setW l s) a else topW c l s m
  | [], s, m => rfl
  | i :: l, s, m => by rw [List.cons_append, topW, topW_snoc c a l, topW, setW]
def costW (c : Nat → Nat → Int) (W : List Nat) (j : Nat) : Int := c (setW (W.take j) 0) (W.getD j 0)
def topN (c : Nat → Nat → Int) (W : List Nat) : Int := topW c W 0 (-10000)
theorem topW_take (c : Nat → Nat → Int) {W : List Nat} {j : Nat} (hj : j < W.length) : topW c (W.take (j + 1)) 0 (-10000) = if topW c (W.take j) 0 (-10000) < costW c W j then costW c W j else topW c (W.take j) 0 (-10000) := by
  rw [List.take_succ_eq_append_getElem hj, topW_snoc]
  simp [costW, hj]
theorem setW_take {W : List Nat} {j : Nat} (hj : j < W.length) : setW (W.take (j + 1)) 0 = nOr (setW (W.take j) 0) (bit (W.getD j 0)) := by
  rw [List.take_succ_eq_append_getElem hj, setW_snoc]
  simp [hj]
theorem topW_hit (c : Nat → Nat → Int) (W : List Nat) (hc : ∀ j, j < W.length → -10000 < costW c W j) : ∀ j, j ≤ W.length → 0 < j → ∃ i, i < j ∧ costW c W i = topW c (W.take j) 0 (-10000)
  | 0, _, h => by omega
  | j + 1, h, _ => by
    rw [topW_take c (by omega)]
    by_cases hlt : topW c (W.take j) 0 (-10000) < costW c W j
    · rw [if_pos hlt]; exact ⟨j, by omega, rfl⟩
    · rw [if_neg hlt]
      by_cases h0 : j = 0
      · subst h0
        exact absurd (hc 0 (by omega)) (by simpa [topW] using hlt)
      · obtain ⟨i, hi, e⟩ := topW_hit c W hc j (by omega) (by omega)
        exact ⟨i, by omega, e⟩
def critJ (c : Nat → Nat → Int) (W : List Nat) : Nat := (List.range W.length).findIdx fun j => costW c W j == topN c W
theorem critJ_ok (c : Nat → Nat → Int) (W : List Nat) (hc : ∀ j, j < W.length → -10000 < costW c W j) (h0 : 0 < W.length) : critJ c W < W.length ∧ costW c W (critJ c W) = topN c W ∧ ∀ i, i < critJ c W → costW c W i ≠ topN c W := by
  obtain ⟨i, hi, e⟩ := topW_hit c W hc W.length (Nat.le_refl _) h0
  rw [List.take_length] at e
  have hlt : critJ c W < (List.range W.length).length := List.findIdx_lt_length_of_exists ⟨i, by simpa using hi, by simpa [topN] using e⟩
  have h1 : (fun j => costW c W j == topN c W) ((List.range W.length)[critJ c W]'hlt) = true := List.findIdx_getElem (w := hlt)
  rw [List.getElem_range] at h1
  refine ⟨by simpa using hlt, by simpa using h1, fun k hk => ?_⟩
  have h2 := List.not_of_lt_findIdx hk
  simpa using h2
theorem greed_lt {n : Nat} {xs : List Nat} (g : SpGood n xs) (c : Nat → Nat → Int) : ∀ k, k ≤ n → ∀ i ∈ (greedS c (fam xs) n k).1, i < n
  | 0, _, i, h => by simp [greedS] at h
  | k + 1, hk, i, h => by
    rw [greedS] at h
    rcases List.mem_append.1 h with h | h
    · exact greed_lt g c k (by omega) i h
    · have := (nextG_mem c (greed_ne g c (show k < n by omega))).2
      have h2 := (g.learn this).1
      simp at h
      omega
theorem costOf_ok (h : Hp) (v w : Value) (L : List Job) (W : List Nat) (hv : Jobs h v L) (hw : Ints h w (toN W)) (g : JobsOK L) (hW : ∀ i ∈ W, i < L.length) (hl : W.length ≤ 7) (h0 : 0 < W.length) :
    CallOK Try.prog 187 #[v, w] h (.int .i64 (topN (costN L) W)) h := by
  refine callY_P 35 _ [.tmp 4] Try.func187 rfl rfl rfl (by first | rfl | simp) ?_
  have hL := hw.lenD
  have hgt := toN_get W
  have hln := toN_length W
  have n7 := g.n7
  try simp (disch := first | omega | (simp; done) | fail) [wrap64c, if_pos, if_neg, opAnd, opOr, opXor, opDiff, opShr, opBit, hL, hgt]
  refine WD_loopC [0, 10, 11] (fun m tm h' => ∃ j, m = W.length - j ∧ h = h' ∧ tm 5 = .int .i64 (if j = 0 then 0 else topW (costN L) (W.take j) 0 (-10000)) ∧ tm 6 = .int .i64 ((setW (W.take j) 0 : Nat) : Int) ∧ tm 12 = .int .i64 (j : Int) ∧ (j ≤ W.length)) _ ⟨0, rfl, rfl, (by simp), (by simp [setW]), (by simp (disch := first | omega | (simp; done) | fail) [wrap64c, if_pos, if_neg, opAnd, opOr, opXor, opDiff, opShr, opBit, hL, hgt]), (by first | omega | assumption | (simp (disch := first | omega | (simp; done) | fail) [wrap64c, if_pos, if_neg, opAnd, opOr, opXor, opDiff, opShr, opBit, hL, hgt] <;> omega))⟩ ?_
  rintro m tm h' hFr ⟨j, rfl, rfl, e5, e6, e12, hj⟩
  simp only [FrameL] at hFr
  obtain ⟨f0_0, f10_0, f11_0, -⟩ := hFr
  try simp (disch := first | omega | (simp; done) | fail) [wrap64c, if_pos, if_neg, opAnd, opOr, opXor, opDiff, opShr, opBit, hL, hgt] at f0_0 f10_0 f11_0
  have e0 := f0_0
  have e10 := f10_0
  have e11 := f11_0
  by_cases hlt : j < W.length
  · have hi := hW _ (List.getElem_mem hlt)
    have hss := setW_lt (W.take j) 0 (by omega) (fun i hi => by have := hW i (List.mem_of_mem_take hi); omega)
    have hp64 := bit_lt7 (i := W[j]) (by omega)
    have hor := nOr128 (b := bit W[j]) hss (by omega)
    have hcl := costN_le g (setW (W.take j) 0) hi
    have hs1 : setW (W.take (j + 1)) 0 = nOr (setW (W.take j) 0) (bit W[j]) := by rw [setW_take hlt]; simp [hlt]
    have ht1 : topW (costN L) (W.take (j + 1)) 0 (-10000) = if topW (costN L) (W.take j) 0 (-10000) < costN L (setW (W.take j) 0) W[j] then costN L (setW (W.take j) 0) W[j] else topW (costN L) (W.take j) 0 (-10000) := by rw [topW_take _ hlt]; simp [costW, hlt]
    obtain ⟨o_x, i_x, c_x, cs_x, own_x, ex_x, es_x, q_x, b_x, g_x, l_x, r_x⟩ := hw.open ((by omega))
    have z_x : ∀ h2 : i_x < cs_x.length, cs_x[i_x] = _ := fun h2 => r_x 0 ((by omega)) h2
    try simp (disch := first | omega | (simp; done) | fail) [wrap64c, if_pos, if_neg, opAnd, opOr, opXor, opDiff, opShr, opBit, hL, hgt, e0, e5, e6, e10, e11, e12, hlt, q_x, g_x, l_x, r_x, z_x]
    refine callG_c (by simp) (by simp) ?ha (cost_ok h v L (setW (W.take j) 0) W[j] hv g hss hi) ?_
    (case ha => simp (disch := first | omega | (simp; done) | fail) [wrap64c, if_pos, if_neg, opAnd, opOr, opXor, opDiff, opShr, opBit, hL, hgt, e0, e5, e6, e10, e11, e12, hlt, q_x, g_x, l_x, r_x, z_x])
    by_cases hj0 : j = 0
    · have hb : ((j : Int) == 0) = true := by simp [hj0]
      have e0 : topW (costN L) (W.take j) 0 (-10000) = -10000 := by rw [hj0]; rfl
      rw [e0, if_pos (by omega)] at ht1
      try simp (disch := first | omega | (simp; done) | fail) [wrap64c, if_pos, if_neg, opAnd, opOr, opXor, opDiff, opShr, opBit, hL, hgt, e0, e5, e6, e10, e11, e12, hlt, q_x, g_x, l_x, r_x, z_x, hb]
      refine loopK_next _ ?hm ?hf ⟨j + 1, rfl, rfl, (by simp [ht1]), (by simp [hs1]), (by simp (disch := first | omega | (simp; done) | fail) [wrap64c, if_pos, if_neg, opAnd, opOr, opXor, opDiff, opShr, opBit, hL, hgt, e0, e5, e6, e10, e11, e12, hlt, q_x, g_x, l_x, r_x, z_x] <;> omega), (by first | omega | assumption | (simp (disch := first | omega | (simp; done) | fail) [wrap64c, if_pos, if_neg, opAnd, opOr, opXor, opDiff, opShr, opBit, hL, hgt, e0, e5, e6, e10, e11, e12, hlt, q_x, g_x, l_x, r_x, z_x] <;> omega))⟩
      (case hm => first | omega | (simp; omega))
      (case hf => simp [FrameL, hL, hgt, e0, e5, e6, e10, e11, e12, hlt, q_x, g_x, l_x, r_x, z_x, f0_0, f10_0, f11_0])
    · have hb : ((j : Int) == 0) = false := by simp [hj0]
      have hq : (if j = 0 then (0 : Int) else topW (costN L) (W.take j) 0 (-10000)) = topW (costN L) (W.take j) 0 (-10000) := if_neg hj0
      rw [hq] at e5
      by_cases hgt2 : topW (costN L) (W.take j) 0 (-10000) < costN L (setW (W.take j) 0) W[j]
      · rw [if_pos hgt2] at ht1
        try simp (disch := first | omega | (simp; done) | fail) [wrap64c, if_pos, if_neg, opAnd, opOr, opXor, opDiff, opShr, opBit, hL, hgt, e0, e5, e6, e10, e11, e12, hlt, q_x, g_x, l_x, r_x, z_x, hb, hgt2]
        refine loopK_next _ ?hm ?hf ⟨j + 1, rfl, rfl, (by simp [ht1]), (by simp [hs1]), (by simp (disch := first | omega | (simp; done) | fail) [wrap64c, if_pos, if_neg, opAnd, opOr, opXor, opDiff, opShr, opBit, hL, hgt, e0, e5, e6, e10, e11, e12, hlt, q_x, g_x, l_x, r_x, z_x] <;> omega), (by first | omega | assumption | (simp (disch := first | omega | (simp; done) | fail) [wrap64c, if_pos, if_neg, opAnd, opOr, opXor, opDiff, opShr, opBit, hL, hgt, e0, e5, e6, e10, e11, e12, hlt, q_x, g_x, l_x, r_x, z_x] <;> omega))⟩
        (case hm => first | omega | (simp; omega))
        (case hf => simp [FrameL, hL, hgt, e0, e5, e6, e10, e11, e12, hlt, q_x, g_x, l_x, r_x, z_x, f0_0, f10_0, f11_0])
      · rw [if_neg hgt2] at ht1
        try simp (disch := first | omega | (simp; done) | fail) [wrap64c, if_pos, if_neg, opAnd, opOr, opXor, opDiff, opShr, opBit, hL, hgt, e0, e5, e6, e10, e11, e12, hlt, q_x, g_x, l_x, r_x, z_x, hb, hgt2]
        refine loopK_next _ ?hm ?hf ⟨j + 1, rfl, rfl, (by simp [ht1, e5]), (by simp [hs1]), (by simp (disch := first | omega | (simp; done) | fail) [wrap64c, if_pos, if_neg, opAnd, opOr, opXor, opDiff, opShr, opBit, hL, hgt, e0, e5, e6, e10, e11, e12, hlt, q_x, g_x, l_x, r_x, z_x] <;> omega), (by first | omega | assumption | (simp (disch := first | omega | (simp; done) | fail) [wrap64c, if_pos, if_neg, opAnd, opOr, opXor, opDiff, opShr, opBit, hL, hgt, e0, e5, e6, e10, e11, e12, hlt, q_x, g_x, l_x, r_x, z_x] <;> omega))⟩
        (case hm => first | omega | (simp; omega))
        (case hf => simp [FrameL, hL, hgt, e0, e5, e6, e10, e11, e12, hlt, q_x, g_x, l_x, r_x, z_x, f0_0, f10_0, f11_0])
  · have e : j = W.length := by omega
    have hj0 : ¬ j = 0 := by omega
    rw [if_neg hj0, List.take_of_length_le (by omega)] at e5
    try simp (disch := first | omega | (simp; done) | fail) [wrap64c, if_pos, if_neg, opAnd, opOr, opXor, opDiff, opShr, opBit, hL, hgt, e0, e5, e6, e10, e11, e12, hlt]
    exact done_ret rfl (by simp [topN])
theorem most2_ok (h : Hp) (a b : Int) : CallOK Try.prog 173 #[.int .i64 a, .int .i64 b] h (.int .i64 (if b < a then a else b)) h := by
  refine callY_P 10 _ [.tmp 4] Try.func173 rfl rfl rfl (by first | rfl | simp) ?_
  by_cases hc : b < a
  · try simp (disch := first | omega | (simp; done) | fail) [wrap64c, if_pos, if_neg, opAnd, opOr, opXor, opDiff, opShr, opBit, hc]
    exact done_ret rfl (by simp [hc])
  · try simp (disch := first | omega | (simp; done) | fail) [wrap64c, if_pos, if_neg, opAnd, opOr, opXor, opDiff, opShr, opBit, hc]
    exact done_ret rfl (by simp [hc])
theorem grOf_ok (h : Hp) (v w : Value) (L : List Job) (W : List Nat) (hv : Jobs h v L) (hw : Ints h w (toN W)) (g : JobsOK L) (hW : ∀ i ∈ W, i < L.length) (hl : W.length ≤ 7) :
    CallOK Try.prog 206 #[v, w] h (.int .i64 (topN (costN L) W)) h := by
  refine callY_P 27 _ [.tmp 4] Try.func206 rfl rfl rfl (by first | rfl | simp) ?_
  have hL := hw.lenD
  have hgt := toN_get W
  have hln := toN_length W
  have n7 := g.n7
  try simp (disch := first | omega | (simp; done) | fail) [wrap64c, if_pos, if_neg, opAnd, opOr, opXor, opDiff, opShr, opBit, hL, hgt]
  refine WD_loopC [0, 9, 10] (fun m tm h' => ∃ j, m = W.length - j ∧ h = h' ∧ tm 5 = .int .i64 ((setW (W.take j) 0 : Nat) : Int) ∧ tm 6 = .int .i64 (topW (costN L) (W.take j) 0 (-10000)) ∧ tm 11 = .int .i64 (j : Int) ∧ (j ≤ W.length)) _ ⟨0, rfl, rfl, (by simp [setW]), (by simp [topW]), (by simp (disch := first | omega | (simp; done) | fail) [wrap64c, if_pos, if_neg, opAnd, opOr, opXor, opDiff, opShr, opBit, hL, hgt]), (by first | omega | assumption | (simp (disch := first | omega | (simp; done) | fail) [wrap64c, if_pos, if_neg, opAnd, opOr, opXor, opDiff, opShr, opBit, hL, hgt] <;> omega))⟩ ?_
  rintro m tm h' hFr ⟨j, rfl, rfl, e5, e6, e11, hj⟩
  simp only [FrameL] at hFr
  obtain ⟨f0_0, f9_0, f10_0, -⟩ := hFr
  try simp (disch := first | omega | (simp; done) | fail) [wrap64c, if_pos, if_neg, opAnd, opOr, opXor, opDiff, opShr, opBit, hL, hgt] at f0_0 f9_0 f10_0
  have e0 := f0_0
  have e9 := f9_0
  have e10 := f10_0
  by_cases hlt : j < W.length
  · have hi := hW _ (List.getElem_mem hlt)
    have hss := setW_lt (W.take j) 0 (by omega) (fun i hi => by have := hW i (List.mem_of_mem_take hi); omega)
    have hp64 := bit_lt7 (i := W[j]) (by omega)
    have hor := nOr128 (b := bit W[j]) hss (by omega)
    have hs1 : setW (W.take (j + 1)) 0 = nOr (setW (W.take j) 0) (bit W[j]) := by rw [setW_take hlt]; simp [hlt]
    have ht1 : topW (costN L) (W.take (j + 1)) 0 (-10000) = if topW (costN L) (W.take j) 0 (-10000) < costN L (setW (W.take j) 0) W[j] then costN L (setW (W.take j) 0) W[j] else topW (costN L) (W.take j) 0 (-10000) := by rw [topW_take _ hlt]; simp [costW, hlt]
    have hmo : (if costN L (setW (W.take j) 0) W[j] < topW (costN L) (W.take j) 0 (-10000) then topW (costN L) (W.take j) 0 (-10000) else costN L (setW (W.take j) 0) W[j]) = topW (costN L) (W.take (j + 1)) 0 (-10000) := by
      rw [ht1]
      split <;> split <;> omega
    have hmost := most2_ok h (topW (costN L) (W.take j) 0 (-10000)) (costN L (setW (W.take j) 0) W[j])
    rw [hmo] at hmost
    obtain ⟨o_x, i_x, c_x, cs_x, own_x, ex_x, es_x, q_x, b_x, g_x, l_x, r_x⟩ := hw.open ((by omega))
    have z_x : ∀ h2 : i_x < cs_x.length, cs_x[i_x] = _ := fun h2 => r_x 0 ((by omega)) h2
    try simp (disch := first | omega | (simp; done) | fail) [wrap64c, if_pos, if_neg, opAnd, opOr, opXor, opDiff, opShr, opBit, hL, hgt, e0, e5, e6, e9, e10, e11, hlt, q_x, g_x, l_x, r_x, z_x]
    refine callG_c (by simp) (by simp) ?ha (grCost_ok h v L (setW (W.take j) 0) W[j] hv g hss hi) ?_
    (case ha => simp (disch := first | omega | (simp; done) | fail) [wrap64c, if_pos, if_neg, opAnd, opOr, opXor, opDiff, opShr, opBit, hL, hgt, e0, e5, e6, e9, e10, e11, hlt, q_x, g_x, l_x, r_x, z_x])
    try simp (disch := first | omega | (simp; done) | fail) [wrap64c, if_pos, if_neg, opAnd, opOr, opXor, opDiff, opShr, opBit, hL, hgt, e0, e5, e6, e9, e10, e11, hlt, q_x, g_x, l_x, r_x, z_x]
    refine callG_c (by simp) (by simp) ?ha (hmost) ?_
    (case ha => simp (disch := first | omega | (simp; done) | fail) [wrap64c, if_pos, if_neg, opAnd, opOr, opXor, opDiff, opShr, opBit, hL, hgt, e0, e5, e6, e9, e10, e11, hlt, q_x, g_x, l_x, r_x, z_x])
    try simp (disch := first | omega | (simp; done) | fail) [wrap64c, if_pos, if_neg, opAnd, opOr, opXor, opDiff, opShr, opBit, hL, hgt, e0, e5, e6, e9, e10, e11, hlt, q_x, g_x, l_x, r_x, z_x]
    refine loopK_next _ ?hm ?hf ⟨j + 1, rfl, rfl, (by simp [hs1]), (by simp (disch := first | omega | (simp; done) | fail) [wrap64c, if_pos, if_neg, opAnd, opOr, opXor, opDiff, opShr, opBit, hL, hgt, e0, e5, e6, e9, e10, e11, hlt, q_x, g_x, l_x, r_x, z_x] <;> omega), (by simp (disch := first | omega | (simp; done) | fail) [wrap64c, if_pos, if_neg, opAnd, opOr, opXor, opDiff, opShr, opBit, hL, hgt, e0, e5, e6, e9, e10, e11, hlt, q_x, g_x, l_x, r_x, z_x] <;> omega), (by first | omega | assumption | (simp (disch := first | omega | (simp; done) | fail) [wrap64c, if_pos, if_neg, opAnd, opOr, opXor, opDiff, opShr, opBit, hL, hgt, e0, e5, e6, e9, e10, e11, hlt, q_x, g_x, l_x, r_x, z_x] <;> omega))⟩
    (case hm => first | omega | (simp; omega))
    (case hf => simp [FrameL, hL, hgt, e0, e5, e6, e9, e10, e11, hlt, q_x, g_x, l_x, r_x, z_x, f0_0, f9_0, f10_0])
  · have e : j = W.length := by omega
    rw [List.take_of_length_le (by omega)] at e6
    try simp (disch := first | omega | (simp; done) | fail) [wrap64c, if_pos, if_neg, opAnd, opOr, opXor, opDiff, opShr, opBit, hL, hgt, e0, e5, e6, e9, e10, e11, hlt]
    exact done_ret rfl (by simp [topN])
end Go.Proofs.Ytnncipcldbopgaa
namespace Go.Proofs.Ytnncipcldbopgaa
set_option linter.unusedSimpArgs false
set_option linter.unusedVariables false
set_option maxHeartbeats 4000000
open Go Go.Eng
attribute [local irreducible] WD RunD PreD Runs CallOK
theorem greedN_costs {n : Nat} {xs : List Nat} {L : List Job} (g : SpGood n xs) (gj : JobsOK L) (hn : L.length = n) : (∀ i ∈ greedN (costN L) xs n, i < L.length) ∧ ∀ j, j < (greedN (costN L) xs n).length → -10000 < costW (costN L) (greedN (costN L) xs n) j := by
  have h1 : ∀ i ∈ greedN (costN L) xs n, i < L.length := fun i hi => by rw [hn]; exact greed_lt g _ n (Nat.le_refl _) i hi
  refine ⟨h1, fun j hj => ?_⟩
  have h2 := costN_le gj (setW ((greedN (costN L) xs n).take j) 0) (h1 _ (List.getElem_mem hj))
  have e : (greedN (costN L) xs n).getD j 0 = (greedN (costN L) xs n)[j] := by rw [List.getD_eq_getElem?_getD, List.getElem?_eq_getElem hj]; rfl
  rw [costW, e]
  omega
noncomputable def critI (N : Int) (X : List Int) (L : List Job) : Int := if (spB N X && jobsB L N) = true then (((greedN (costN L) (natsOf X) N.toNat).getD (critJ (costN L) (greedN (costN L) (natsOf X) N.toNat)) 0 : Nat) : Int) else 0
noncomputable def critS (N : Int) (X : List Int) (L : List Job) : Int := if (spB N X && jobsB L N) = true then ((setW ((greedN (costN L) (natsOf X) N.toNat).take (critJ (costN L) (greedN (costN L) (natsOf X) N.toNat))) 0 : Nat) : Int) else 0
noncomputable def bestC (N : Int) (X : List Int) (L : List Job) : Int := if (spB N X && jobsB L N) = true then topN (costN L) (greedN (costN L) (natsOf X) N.toNat) else 0
theorem bestCost_ok (h : Hp) (v w : Value) (N : Int) (X : List Int) (L : List Job) (hv : Space h v N X) (hw : Jobs h w L) (hl : X.length < 2 ^ 40) :
    CallOK Try.prog 86 #[v, w] h (.tuple #[.int .i64 (bestC N X L), .bool (spB N X && jobsB L N)]) h := by
  refine callY_P 15 _ [.tmp 4, .tmp 5] Try.func86 rfl rfl rfl (by first | rfl | simp) ?_
  obtain ⟨b, rfl, hX⟩ := hv
  have ntw := hw.nt
  have csw := hw.cs
  refine WD_first ?_
  try simp (disch := first | omega | (simp; done) | fail) [wrap64c, if_pos, if_neg, opAnd, opOr, opXor, opDiff, opShr, opBit, ntw, csw]
  refine stopK_heap fun h0 q_h0 => ?_
  refine stopK_go ?_
  have g_h0 : h0.get h.next = .cells [.int .i64 N, b] true true 1 := by simp [q_h0]
  have k_h0 : Adds h h0 := by rw [q_h0]; exact (by first | exact aK | exact kK)
  have n_h0 : h.next < h0.next := by simp [q_h0]; try omega
  have hX0 := hX.keep k_h0.1
  have hw0 := hw.keep k_h0.1
  have K0 := k_h0.1
  try simp (disch := first | omega | (simp; done) | fail) [wrap64c, if_pos, if_neg, opAnd, opOr, opXor, opDiff, opShr, opBit, ntw, csw, g_h0]
  refine callG_c (by simp) (by simp) ?ha (together_ok h0 (.agg #[.int .i64 N, b]) w N X L (.mk hX0) hw0 hl) ?_
  (case ha => simp (disch := first | omega | (simp; done) | fail) [wrap64c, if_pos, if_neg, opAnd, opOr, opXor, opDiff, opShr, opBit, ntw, csw, g_h0])
  cases c1 : (spB N X && jobsB L N)
  · try simp (disch := first | omega | (simp; done) | fail) [wrap64c, if_pos, if_neg, opAnd, opOr, opXor, opDiff, opShr, opBit, ntw, csw, g_h0, c1]
    exact done_ret rfl (by simp [bestC, c1, K0])
  · have cc := c1
    rw [Bool.and_eq_true] at cc
    obtain ⟨n, xs, hN, hXe, g⟩ := spB_true cc.1
    obtain ⟨hLN, gj⟩ := jobsB_ok cc.2
    have hNt : N = (n : Int) := hN
    have hLn : L.length = n := by omega
    have hX1 : Ints h0 b (toN xs) := hXe ▸ hX0
    have hA : bestC N X L = topN (costN L) (greedN (costN L) xs n) := by rw [bestC, if_pos c1, hXe, natsOf_toN, hN, Int.toNat_natCast]
    have n7 := g.n7
    have n1 := g.n1
    obtain ⟨u, h1, hc1, ha1, hi1⟩ := best_ok h0 (.agg #[.int .i64 n, b]) w n xs L (.mk hX1) hw0 g gj hLn
    obtain ⟨hgl, _⟩ := greedN_costs g gj hLn
    try simp (disch := first | omega | (simp; done) | fail) [wrap64c, if_pos, if_neg, opAnd, opOr, opXor, opDiff, opShr, opBit, ntw, csw, g_h0, c1, hNt]
    refine callG_c (by simp) (by simp) ?ha (hc1) ?_
    (case ha => simp (disch := first | omega | (simp; done) | fail) [wrap64c, if_pos, if_neg, opAnd, opOr, opXor, opDiff, opShr, opBit, ntw, csw, g_h0, c1, hNt])
    try simp (disch := first | omega | (simp; done) | fail) [wrap64c, if_pos, if_neg, opAnd, opOr, opXor, opDiff, opShr, opBit, ntw, csw, g_h0, c1, hNt]
    refine callG_c (by simp) (by simp) ?ha (costOf_ok h1 w u L (greedN (costN L) xs n) (hw0.keep ha1.1) hi1.ints gj hgl (by simp; omega) (by simp; omega)) ?_
    (case ha => simp (disch := first | omega | (simp; done) | fail) [wrap64c, if_pos, if_neg, opAnd, opOr, opXor, opDiff, opShr, opBit, ntw, csw, g_h0, c1, hNt])
    try simp (disch := first | omega | (simp; done) | fail) [wrap64c, if_pos, if_neg, opAnd, opOr, opXor, opDiff, opShr, opBit, ntw, csw, g_h0, c1, hNt]
    exact done_ret rfl (by simp [hA, c1, K0.trans ha1.1])
theorem implCrit_ok (h : Hp) (v w : Value) (N : Int) (X : List Int) (L : List Job) (hv : Space h v N X) (hw : Jobs h w L) (hl : X.length < 2 ^ 40) :
    CallOK Try.prog 101 #[v, w] h (.tuple #[.int .i64 (critI N X L), .int .i64 (critS N X L), .bool (spB N X && jobsB L N)]) h := by
  refine callY_P 41 _ [.tmp 4, .tmp 5, .tmp 6] Try.func101 rfl rfl rfl (by first | rfl | simp) ?_
  obtain ⟨b, rfl, hX⟩ := hv
  have ntw := hw.nt
  have csw := hw.cs
  refine WD_first ?_
  try simp (disch := first | omega | (simp; done) | fail) [wrap64c, if_pos, if_neg, opAnd, opOr, opXor, opDiff, opShr, opBit, ntw, csw]
  refine stopK_heap fun h0 q_h0 => ?_
  refine stopK_go ?_
  have g_h0 : h0.get h.next = .cells [.int .i64 N, b] true true 1 := by simp [q_h0]
  have k_h0 : Adds h h0 := by rw [q_h0]; exact (by first | exact aK | exact kK)
  have n_h0 : h.next < h0.next := by simp [q_h0]; try omega
  have hX0 := hX.keep k_h0.1
  have hw0 := hw.keep k_h0.1
  have K0 := k_h0.1
  try simp (disch := first | omega | (simp; done) | fail) [wrap64c, if_pos, if_neg, opAnd, opOr, opXor, opDiff, opShr, opBit, ntw, csw, g_h0]
  refine callG_c (by simp) (by simp) ?ha (bestCost_ok h0 (.agg #[.int .i64 N, b]) w N X L (.mk hX0) hw0 hl) ?_
  (case ha => simp (disch := first | omega | (simp; done) | fail) [wrap64c, if_pos, if_neg, opAnd, opOr, opXor, opDiff, opShr, opBit, ntw, csw, g_h0])
  cases c1 : (spB N X && jobsB L N)
  · try simp (disch := first | omega | (simp; done) | fail) [wrap64c, if_pos, if_neg, opAnd, opOr, opXor, opDiff, opShr, opBit, ntw, csw, g_h0, c1]
    exact done_ret rfl (by simp [critI, critS, c1, K0])
  · have cc := c1
    rw [Bool.and_eq_true] at cc
    obtain ⟨n, xs, hN, hXe, g⟩ := spB_true cc.1
    obtain ⟨hLN, gj⟩ := jobsB_ok cc.2
    have hNt : N = (n : Int) := hN
    have hLn : L.length = n := by omega
    have hX1 : Ints h0 b (toN xs) := hXe ▸ hX0
    have n7 := g.n7
    have n1 := g.n1
    obtain ⟨u, h1, hc1, ha1, hi1⟩ := best_ok h0 (.agg #[.int .i64 n, b]) w n xs L (.mk hX1) hw0 g gj hLn
    obtain ⟨hgl, hgc⟩ := greedN_costs g gj hLn
    have hA : bestC N X L = topN (costN L) (greedN (costN L) xs n) := by rw [bestC, if_pos c1, hXe, natsOf_toN, hN, Int.toNat_natCast]
    have hI : critI N X L = (((greedN (costN L) xs n).getD (critJ (costN L) (greedN (costN L) xs n)) 0 : Nat) : Int) := by rw [critI, if_pos c1, hXe, natsOf_toN, hN, Int.toNat_natCast]
    have hS : critS N X L = ((setW ((greedN (costN L) xs n).take (critJ (costN L) (greedN (costN L) xs n))) 0 : Nat) : Int) := by rw [critS, if_pos c1, hXe, natsOf_toN, hN, Int.toNat_natCast]
    have hlen : (greedN (costN L) xs n).length = n := greedN_len _ _ _
    obtain ⟨W, hW⟩ : ∃ W, W = greedN (costN L) xs n := ⟨_, rfl⟩
    rw [← hW] at hgl hgc hA hI hS hi1 hlen
    obtain ⟨hj1, hj2, hj3⟩ := critJ_ok (costN L) W hgc (by omega)
    have hL := hi1.lenD
    have hgt := toN_get W
    have hln := toN_length W
    have hw1 := hw0.keep ha1.1
    rw [hA]
    try simp (disch := first | omega | (simp; done) | fail) [wrap64c, if_pos, if_neg, opAnd, opOr, opXor, opDiff, opShr, opBit, ntw, csw, g_h0, c1, hNt, hL, hgt]
    refine callG_c (by simp) (by simp) ?ha (hc1) ?_
    (case ha => simp (disch := first | omega | (simp; done) | fail) [wrap64c, if_pos, if_neg, opAnd, opOr, opXor, opDiff, opShr, opBit, ntw, csw, g_h0, c1, hNt, hL, hgt])
    try simp (disch := first | omega | (simp; done) | fail) [wrap64c, if_pos, if_neg, opAnd, opOr, opXor, opDiff, opShr, opBit, ntw, csw, g_h0, c1, hNt, hL, hgt]
    refine WD_loopC [1, 7, 22, 23] (fun m tm h' => ∃ j, m = W.length - j ∧ h1 = h' ∧ tm 9 = .int .i64 ((setW (W.take j) 0 : Nat) : Int) ∧ tm 24 = .int .i64 (j : Int) ∧ (j ≤ critJ (costN L) W)) _ ⟨0, rfl, rfl, (by simp [setW]), (by simp (disch := first | omega | (simp; done) | fail) [wrap64c, if_pos, if_neg, opAnd, opOr, opXor, opDiff, opShr, opBit, ntw, csw, g_h0, c1, hNt, hL, hgt]), (by first | omega | assumption | (simp (disch := first | omega | (simp; done) | fail) [wrap64c, if_pos, if_neg, opAnd, opOr, opXor, opDiff, opShr, opBit, ntw, csw, g_h0, c1, hNt, hL, hgt] <;> omega))⟩ ?_
    rintro m tm h' hFr ⟨j, rfl, rfl, e9, e24, hj⟩
    simp only [FrameL] at hFr
    obtain ⟨f1_0, f7_0, f22_0, f23_0, -⟩ := hFr
    try simp (disch := first | omega | (simp; done) | fail) [wrap64c, if_pos, if_neg, opAnd, opOr, opXor, opDiff, opShr, opBit, ntw, csw, g_h0, c1, hNt, hL, hgt] at f1_0 f7_0 f22_0 f23_0
    have e1 := f1_0
    have e7 := f7_0
    have e22 := f22_0
    have e23 := f23_0
    have hlt : j < W.length := by omega
    have hi := hgl _ (List.getElem_mem hlt)
    have hss := setW_lt (W.take j) 0 (by omega) (fun i hi => by have := hgl i (List.mem_of_mem_take hi); omega)
    have hp64 := bit_lt7 (i := W[j]) (by omega)
    have hor := nOr128 (b := bit W[j]) hss (by omega)
    have hs1 : setW (W.take (j + 1)) 0 = nOr (setW (W.take j) 0) (bit W[j]) := by rw [setW_take hlt]; simp [hlt]
    have hcw : costW (costN L) W j = costN L (setW (W.take j) 0) W[j] := by simp [costW, hlt]
    obtain ⟨o_x, i_x, c_x, cs_x, own_x, ex_x, es_x, q_x, b_x, g_x, l_x, r_x⟩ := hi1.ints.open ((by omega))
    have z_x : ∀ h2 : i_x < cs_x.length, cs_x[i_x] = _ := fun h2 => r_x 0 ((by omega)) h2
    try simp (disch := first | omega | (simp; done) | fail) [wrap64c, if_pos, if_neg, opAnd, opOr, opXor, opDiff, opShr, opBit, ntw, csw, g_h0, c1, hNt, hL, hgt, e1, e7, e9, e22, e23, e24, hlt, q_x, g_x, l_x, r_x, z_x]
    refine callG_c (by simp) (by simp) ?ha (cost_ok h1 w L (setW (W.take j) 0) W[j] hw1 gj hss hi) ?_
    (case ha => simp (disch := first | omega | (simp; done) | fail) [wrap64c, if_pos, if_neg, opAnd, opOr, opXor, opDiff, opShr, opBit, ntw, csw, g_h0, c1, hNt, hL, hgt, e1, e7, e9, e22, e23, e24, hlt, q_x, g_x, l_x, r_x, z_x])
    by_cases hje : j = critJ (costN L) W
    · have hq : costN L (setW (W.take j) 0) W[j] = topN (costN L) W := by rw [← hcw, hje]; exact hj2
      try simp (disch := first | omega | (simp; done) | fail) [wrap64c, if_pos, if_neg, opAnd, opOr, opXor, opDiff, opShr, opBit, ntw, csw, g_h0, c1, hNt, hL, hgt, e1, e7, e9, e22, e23, e24, hlt, q_x, g_x, l_x, r_x, z_x, hq]
      exact done_ret rfl (by simp [hI, hS, c1, ← hje, hlt, K0.trans ha1.1])
    · have hq : ¬ costN L (setW (W.take j) 0) W[j] = topN (costN L) W := by rw [← hcw]; exact hj3 j (by omega)
      try simp (disch := first | omega | (simp; done) | fail) [wrap64c, if_pos, if_neg, opAnd, opOr, opXor, opDiff, opShr, opBit, ntw, csw, g_h0, c1, hNt, hL, hgt, e1, e7, e9, e22, e23, e24, hlt, q_x, g_x, l_x, r_x, z_x, hq]
      refine loopK_next _ ?hm ?hf ⟨j + 1, rfl, rfl, (by simp [hs1]), (by simp (disch := first | omega | (simp; done) | fail) [wrap64c, if_pos, if_neg, opAnd, opOr, opXor, opDiff, opShr, opBit, ntw, csw, g_h0, c1, hNt, hL, hgt, e1, e7, e9, e22, e23, e24, hlt, q_x, g_x, l_x, r_x, z_x] <;> omega), (by first | omega | assumption | (simp (disch := first | omega | (simp; done) | fail) [wrap64c, if_pos, if_neg, opAnd, opOr, opXor, opDiff, opShr, opBit, ntw, csw, g_h0, c1, hNt, hL, hgt, e1, e7, e9, e22, e23, e24, hlt, q_x, g_x, l_x, r_x, z_x] <;> omega))⟩
      (case hm => first | omega | (simp; omega))
      (case hf => simp [FrameL, ntw, csw, g_h0, c1, hNt, hL, hgt, e1, e7, e9, e22, e23, e24, hlt, q_x, g_x, l_x, r_x, z_x, f1_0, f7_0, f22_0, f23_0])
theorem grGreedy_ok (h : Hp) (v w : Value) (n : Nat) (xs : List Nat) (L : List Job) (hv : Space h v n (toN xs)) (hw : Jobs h w L) (g : SpGood n xs) (gj : JobsOK L) (hn : L.length = n) :
    ∃ v' h', CallOK Try.prog 202 #[v, w] h v' h' ∧ Adds h h' ∧ IntsO (Btw h.next h'.next) h' v' (toN (greedN (costN L) xs n)) := by
  refine callY_L (args := [v, w]) 52 _ [.tmp 4] Try.func202 rfl rfl rfl ?_
  obtain ⟨b, rfl, hX⟩ := hv
  have ntw := hw.nt
  have csw := hw.cs
  refine WD_first ?_
  try simp (disch := first | omega | (simp; done) | fail) [wrap64c, if_pos, if_neg, opAnd, opOr, opXor, opDiff, opShr, opBit, ntw, csw]
  refine stopK_heap fun h0 q_h0 => ?_
  refine stopK_go ?_
  have g_h0 : h0.get h.next = .cells [.int .i64 n, b] true true 1 := by simp [q_h0]
  have k_h0 : Adds h h0 := by rw [q_h0]; exact (by first | exact aK | exact kK)
  have n_h0 : h.next < h0.next := by simp [q_h0]; try omega
  have hX0 := hX.keep k_h0.1
  have hw0 := hw.keep k_h0.1
  have n7 := g.n7
  have hb7 := bit7 n7
  have hlx := g.len7
  try simp (disch := first | omega | (simp; done) | fail) [wrap64c, if_pos, if_neg, opAnd, opOr, opXor, opDiff, opShr, opBit, ntw, csw, g_h0]
  refine WD_loopC [1, 2] (fun m tm h' => ∃ k u, m = n - k ∧ tm 5 = u ∧ tm 6 = .int .i64 (((greedS (costN L) (fam xs) n k).2 : Nat) : Int) ∧ (k ≤ n) ∧ (Adds h h') ∧ (Adds h0 h') ∧ (IntsA h0.next h' u (toN (greedS (costN L) (fam xs) n k).1))) _ ⟨0, .slice none 0 0, rfl, (by simp (disch := first | omega | (simp; done) | fail) [wrap64c, if_pos, if_neg, opAnd, opOr, opXor, opDiff, opShr, opBit, ntw, csw, g_h0]), (by simp [greedS]), (by first | omega | assumption | (simp (disch := first | omega | (simp; done) | fail) [wrap64c, if_pos, if_neg, opAnd, opOr, opXor, opDiff, opShr, opBit, ntw, csw, g_h0] <;> omega)), (by first | exact aK | exact kK), (adds_self _), (by simp [greedS, toN]; exact IntsA.nil _ _)⟩ ?_
  rintro m tm h' hFr ⟨k, u, rfl, e5, e6, hk, ha, ha0, hu⟩
  simp only [FrameL] at hFr
  obtain ⟨f1_0, f2_0, -⟩ := hFr
  try simp (disch := first | omega | (simp; done) | fail) [wrap64c, if_pos, if_neg, opAnd, opOr, opXor, opDiff, opShr, opBit, ntw, csw, g_h0] at f1_0 f2_0
  have e1 := f1_0
  have e2 := f2_0
  rename Hp => hA
  have hlu := greed_len (costN L) (fam xs) n k
  have hlU := hu.lenD
  have hlu2 : (toN (greedS (costN L) (fam xs) n k).1).length = k := by rw [toN_length, hlu]
  have hn2 := ha0.1.1
  have g1' : hA.get h.next = .cells [.int .i64 n, b] true true 1 := by rw [ha0.1.2 _ (by omega)]; exact g_h0
  have hX2 := hX0.keep ha0.1
  have hw2 := hw0.keep ha0.1
  have hLw := hw2.lenD
  by_cases hlt : k < n
  · obtain ⟨hi1, hi2⟩ := greed_inv g (costN L) k hk
    have hs128 := g.lt7 _ hi1
    obtain ⟨s, hs⟩ : ∃ s, s = (greedS (costN L) (fam xs) n k).2 := ⟨_, rfl⟩
    have hout := outerN_lt (fam xs) n s
    have hwn := greed_ne g (costN L) hlt
    rw [← hs] at hwn hs128
    obtain ⟨hlo, hmem⟩ := nextG_mem (costN L) hwn
    obtain ⟨l1, l2, l3⟩ := g.learn hmem
    have hp64 := bit_lt7 (i := nextG (costN L) (fam xs) n s) (by omega)
    have hor := g.lt7 _ l3
    have hs2 := hs.symm
    try simp (disch := first | omega | (simp; done) | fail) [wrap64c, if_pos, if_neg, opAnd, opOr, opXor, opDiff, opShr, opBit, ntw, csw, g_h0, e1, e2, e5, e6, hlU, hlu2, g1', hLw, hlt, hs2]
    refine callG_c (by simp) (by simp) ?ha (spOuter_ok hA (.agg #[.int .i64 n, b]) n xs s (.mk hX2) n7 (by omega) g.srt hs128) ?_
    (case ha => simp (disch := first | omega | (simp; done) | fail) [wrap64c, if_pos, if_neg, opAnd, opOr, opXor, opDiff, opShr, opBit, ntw, csw, g_h0, e1, e2, e5, e6, hlU, hlu2, g1', hLw, hlt, hs2])
    try simp (disch := first | omega | (simp; done) | fail) [wrap64c, if_pos, if_neg, opAnd, opOr, opXor, opDiff, opShr, opBit, ntw, csw, g_h0, e1, e2, e5, e6, hlU, hlu2, g1', hLw, hlt, hs2]
    refine WD_loopC [1, 2, 5, 6, 8, 19] (fun m tm h' => ∃ j, m = n - j ∧ hA = h' ∧ tm 7 = .int .i64 (optI (leastO (costN L s) (itemsK (outerN (fam xs) n s) j) none)) ∧ tm 20 = .int .i64 (j : Int) ∧ (j ≤ n)) _ ⟨0, rfl, rfl, (by simp [itemsK, leastO, optI]), (by simp (disch := first | omega | (simp; done) | fail) [wrap64c, if_pos, if_neg, opAnd, opOr, opXor, opDiff, opShr, opBit, ntw, csw, g_h0, e1, e2, e5, e6, hlU, hlu2, g1', hLw, hlt, hs2]), (by first | omega | assumption | (simp (disch := first | omega | (simp; done) | fail) [wrap64c, if_pos, if_neg, opAnd, opOr, opXor, opDiff, opShr, opBit, ntw, csw, g_h0, e1, e2, e5, e6, hlU, hlu2, g1', hLw, hlt, hs2] <;> omega))⟩ ?_
    rintro m tm h' hFr ⟨j, rfl, rfl, e7, e20, hj⟩
    simp only [FrameL] at hFr
    obtain ⟨f1_1, f2_1, f5_1, f6_1, f8_1, f19_1, -⟩ := hFr
    try simp (disch := first | omega | (simp; done) | fail) [wrap64c, if_pos, if_neg, opAnd, opOr, opXor, opDiff, opShr, opBit, ntw, csw, g_h0, e1, e2, e5, e6, hlU, hlu2, g1', hLw, hlt, hs2] at f1_1 f2_1 f5_1 f6_1 f8_1 f19_1
    have e1 := f1_1
    have e2 := f2_1
    have e5 := f5_1
    have e6 := f6_1
    have e8 := f8_1
    have e19 := f19_1
    by_cases hlt2 : j < n
    · have hjL : j < L.length := by omega
      have hks := itemsK_succ (outerN (fam xs) n s) j
      try simp (disch := first | omega | (simp; done) | fail) [wrap64c, if_pos, if_neg, opAnd, opOr, opXor, opDiff, opShr, opBit, ntw, csw, g_h0, e1, e2, e5, e6, hlU, hlu2, g1', hLw, hlt, hs2, e7, e8, e19, e20, hlt2, hjL]
      refine callG_c (by simp) (by simp) ?ha (spIn_ok hA (outerN (fam xs) n s) j (by omega) (by omega)) ?_
      (case ha => simp (disch := first | omega | (simp; done) | fail) [wrap64c, if_pos, if_neg, opAnd, opOr, opXor, opDiff, opShr, opBit, ntw, csw, g_h0, e1, e2, e5, e6, hlU, hlu2, g1', hLw, hlt, hs2, e7, e8, e19, e20, hlt2, hjL])
      cases hb : (outerN (fam xs) n s).testBit j
      · rw [hb, if_neg (by simp)] at hks
        try simp (disch := first | omega | (simp; done) | fail) [wrap64c, if_pos, if_neg, opAnd, opOr, opXor, opDiff, opShr, opBit, ntw, csw, g_h0, e1, e2, e5, e6, hlU, hlu2, g1', hLw, hlt, hs2, e7, e8, e19, e20, hlt2, hjL, hb]
        refine loopK_next _ ?hm ?hf ⟨j + 1, rfl, rfl, (by simp [hks, e7]), (by simp (disch := first | omega | (simp; done) | fail) [wrap64c, if_pos, if_neg, opAnd, opOr, opXor, opDiff, opShr, opBit, ntw, csw, g_h0, e1, e2, e5, e6, hlU, hlu2, g1', hLw, hlt, hs2, e7, e8, e19, e20, hlt2, hjL, hb] <;> omega), (by first | omega | assumption | (simp (disch := first | omega | (simp; done) | fail) [wrap64c, if_pos, if_neg, opAnd, opOr, opXor, opDiff, opShr, opBit, ntw, csw, g_h0, e1, e2, e5, e6, hlU, hlu2, g1', hLw, hlt, hs2, e7, e8, e19, e20, hlt2, hjL, hb] <;> omega))⟩
        (case hm => first | omega | (simp; omega))
        (case hf => simp [FrameL, ntw, csw, g_h0, e1, e2, e5, e6, hlU, hlu2, g1', hLw, hlt, hs2, e7, e8, e19, e20, hlt2, hjL, hb, f1_1, f2_1, f5_1, f6_1, f8_1, f19_1])
      · rw [hb, if_pos rfl] at hks
        have hsn := leastO_snoc (costN L s) j (itemsK (outerN (fam xs) n s) j) none
        rw [← hks] at hsn
        rcases ho : leastO (costN L s) (itemsK (outerN (fam xs) n s) j) none with _ | b'
        · rw [ho] at hsn
          have hq1 : optI none = -1 := rfl
          try simp (disch := first | omega | (simp; done) | fail) [wrap64c, if_pos, if_neg, opAnd, opOr, opXor, opDiff, opShr, opBit, ntw, csw, g_h0, e1, e2, e5, e6, hlU, hlu2, g1', hLw, hlt, hs2, e7, e8, e19, e20, hlt2, hjL, hb, ho, hq1]
          refine loopK_next _ ?hm ?hf ⟨j + 1, rfl, rfl, (by simp [hsn, lessO, optI]), (by simp (disch := first | omega | (simp; done) | fail) [wrap64c, if_pos, if_neg, opAnd, opOr, opXor, opDiff, opShr, opBit, ntw, csw, g_h0, e1, e2, e5, e6, hlU, hlu2, g1', hLw, hlt, hs2, e7, e8, e19, e20, hlt2, hjL, hb] <;> omega), (by first | omega | assumption | (simp (disch := first | omega | (simp; done) | fail) [wrap64c, if_pos, if_neg, opAnd, opOr, opXor, opDiff, opShr, opBit, ntw, csw, g_h0, e1, e2, e5, e6, hlU, hlu2, g1', hLw, hlt, hs2, e7, e8, e19, e20, hlt2, hjL, hb] <;> omega))⟩
          (case hm => first | omega | (simp; omega))
          (case hf => simp [FrameL, ntw, csw, g_h0, e1, e2, e5, e6, hlU, hlu2, g1', hLw, hlt, hs2, e7, e8, e19, e20, hlt2, hjL, hb, f1_1, f2_1, f5_1, f6_1, f8_1, f19_1])
        · rw [ho] at hsn
          have hq1 : optI (some b') = (b' : Int) := rfl
          have hq3 : ¬ (b' : Int) < 0 := by omega
          have hbm := leastO_mem _ _ _ ho
          have hbL : b' < L.length := by
            have : b' < j := by simp only [itemsK, List.mem_filter, List.mem_range] at hbm; exact hbm.1
            omega
          try simp (disch := first | omega | (simp; done) | fail) [wrap64c, if_pos, if_neg, opAnd, opOr, opXor, opDiff, opShr, opBit, ntw, csw, g_h0, e1, e2, e5, e6, hlU, hlu2, g1', hLw, hlt, hs2, e7, e8, e19, e20, hlt2, hjL, hb, ho, hq1, hq3]
          refine callG_c (by simp) (by simp) ?ha (grCost_ok hA w L s j hw2 gj hs128 hjL) ?_
          (case ha => simp (disch := first | omega | (simp; done) | fail) [wrap64c, if_pos, if_neg, opAnd, opOr, opXor, opDiff, opShr, opBit, ntw, csw, g_h0, e1, e2, e5, e6, hlU, hlu2, g1', hLw, hlt, hs2, e7, e8, e19, e20, hlt2, hjL, hb, ho, hq1, hq3])
          try simp (disch := first | omega | (simp; done) | fail) [wrap64c, if_pos, if_neg, opAnd, opOr, opXor, opDiff, opShr, opBit, ntw, csw, g_h0, e1, e2, e5, e6, hlU, hlu2, g1', hLw, hlt, hs2, e7, e8, e19, e20, hlt2, hjL, hb, ho, hq1, hq3]
          refine callG_c (by simp) (by simp) ?ha (grCost_ok hA w L s b' hw2 gj hs128 hbL) ?_
          (case ha => simp (disch := first | omega | (simp; done) | fail) [wrap64c, if_pos, if_neg, opAnd, opOr, opXor, opDiff, opShr, opBit, ntw, csw, g_h0, e1, e2, e5, e6, hlU, hlu2, g1', hLw, hlt, hs2, e7, e8, e19, e20, hlt2, hjL, hb, ho, hq1, hq3])
          by_cases hcb : costN L s j < costN L s b'
          · try simp (disch := first | omega | (simp; done) | fail) [wrap64c, if_pos, if_neg, opAnd, opOr, opXor, opDiff, opShr, opBit, ntw, csw, g_h0, e1, e2, e5, e6, hlU, hlu2, g1', hLw, hlt, hs2, e7, e8, e19, e20, hlt2, hjL, hb, ho, hq1, hq3, hcb]
            refine loopK_next _ ?hm ?hf ⟨j + 1, rfl, rfl, (by simp [hsn, lessO, optI, hcb]), (by simp (disch := first | omega | (simp; done) | fail) [wrap64c, if_pos, if_neg, opAnd, opOr, opXor, opDiff, opShr, opBit, ntw, csw, g_h0, e1, e2, e5, e6, hlU, hlu2, g1', hLw, hlt, hs2, e7, e8, e19, e20, hlt2, hjL, hb] <;> omega), (by first | omega | assumption | (simp (disch := first | omega | (simp; done) | fail) [wrap64c, if_pos, if_neg, opAnd, opOr, opXor, opDiff, opShr, opBit, ntw, csw, g_h0, e1, e2, e5, e6, hlU, hlu2, g1', hLw, hlt, hs2, e7, e8, e19, e20, hlt2, hjL, hb] <;> omega))⟩
            (case hm => first | omega | (simp; omega))
            (case hf => simp [FrameL, ntw, csw, g_h0, e1, e2, e5, e6, hlU, hlu2, g1', hLw, hlt, hs2, e7, e8, e19, e20, hlt2, hjL, hb, f1_1, f2_1, f5_1, f6_1, f8_1, f19_1])
          · try simp (disch := first | omega | (simp; done) | fail) [wrap64c, if_pos, if_neg, opAnd, opOr, opXor, opDiff, opShr, opBit, ntw, csw, g_h0, e1, e2, e5, e6, hlU, hlu2, g1', hLw, hlt, hs2, e7, e8, e19, e20, hlt2, hjL, hb, ho, hq1, hq3, hcb]
            refine loopK_next _ ?hm ?hf ⟨j + 1, rfl, rfl, (by simp [hsn, lessO, optI, hcb, e7, ho]), (by simp (disch := first | omega | (simp; done) | fail) [wrap64c, if_pos, if_neg, opAnd, opOr, opXor, opDiff, opShr, opBit, ntw, csw, g_h0, e1, e2, e5, e6, hlU, hlu2, g1', hLw, hlt, hs2, e7, e8, e19, e20, hlt2, hjL, hb] <;> omega), (by first | omega | assumption | (simp (disch := first | omega | (simp; done) | fail) [wrap64c, if_pos, if_neg, opAnd, opOr, opXor, opDiff, opShr, opBit, ntw, csw, g_h0, e1, e2, e5, e6, hlU, hlu2, g1', hLw, hlt, hs2, e7, e8, e19, e20, hlt2, hjL, hb] <;> omega))⟩
            (case hm => first | omega | (simp; omega))
            (case hf => simp [FrameL, ntw, csw, g_h0, e1, e2, e5, e6, hlU, hlu2, g1', hLw, hlt, hs2, e7, e8, e19, e20, hlt2, hjL, hb, f1_1, f2_1, f5_1, f6_1, f8_1, f19_1])
    · rw [show j = n by omega, itemsK_eq hout n7, hlo] at e7
      have hq1 : optI (some (nextG (costN L) (fam xs) n s)) = ((nextG (costN L) (fam xs) n s : Nat) : Int) := rfl
      try simp (disch := first | omega | (simp; done) | fail) [wrap64c, if_pos, if_neg, opAnd, opOr, opXor, opDiff, opShr, opBit, ntw, csw, g_h0, e1, e2, e5, e6, hlU, hlu2, g1', hLw, hlt, hs2, e7, e8, e19, e20, hlt2, hq1]
      obtain ⟨u3, h3, hap, hu3, ha3, hn4, hs3⟩ := appI hu ((nextG (costN L) (fam xs) n s : Nat) : Int) (by rw [hlu2]; omega) (by omega) ha (by omega)
      have k3 : Adds h0 h3 := ⟨⟨by omega, fun o ho => (hs3 o (by omega) ho).trans (ha0.1.2 o ho)⟩, fun o h1 h2 => ha3.2 o (by omega) h2⟩
      try simp (disch := first | omega | (simp; done) | fail) [wrap64c, if_pos, if_neg, opAnd, opOr, opXor, opDiff, opShr, opBit, ntw, csw, g_h0, e1, e2, e5, e6, hlU, hlu2, g1', hLw, hlt, hs2, e7, e8, e19, e20, hlt2, hq1, hap]
      refine loopK_next _ ?hm ?hf ⟨k + 1, u3, rfl, (by simp (disch := first | omega | (simp; done) | fail) [wrap64c, if_pos, if_neg, opAnd, opOr, opXor, opDiff, opShr, opBit, ntw, csw, g_h0, e1, e2, e5, e6, hlU, hlu2, g1', hLw, hlt, hs2, e7, e8, e19, e20, hlt2, hq1] <;> omega), (by simp [greedS, ← hs]), (by first | omega | assumption | (simp (disch := first | omega | (simp; done) | fail) [wrap64c, if_pos, if_neg, opAnd, opOr, opXor, opDiff, opShr, opBit, ntw, csw, g_h0, e1, e2, e5, e6, hlU, hlu2, g1', hLw, hlt, hs2, e7, e8, e19, e20, hlt2, hq1] <;> omega)), ha3, k3, (by simp only [greedS, ← hs]; rw [toN_snoc]; exact hu3)⟩
      (case hm => first | omega | (simp; omega))
      (case hf => simp [FrameL, ntw, csw, g_h0, e1, e2, e5, e6, hlU, hlu2, g1', hLw, hlt, hs2, e7, e8, e19, e20, hlt2, hq1, f1_0, f2_0])
  · have hke : k = n := by omega
    try simp (disch := first | omega | (simp; done) | fail) [wrap64c, if_pos, if_neg, opAnd, opOr, opXor, opDiff, opShr, opBit, ntw, csw, g_h0, e1, e2, e5, e6, hlU, hlu2, g1', hLw, hlt]
    refine done_ret rfl ⟨ha, ?_⟩
    rw [hke] at hu
    exact (hu.own (by simp [greed_len]; omega)).sub fun o ho => ⟨by have := ho.1; omega, ho.2⟩
theorem specCrit_ok (h : Hp) (v w : Value) (N : Int) (X : List Int) (L : List Job) (hv : Space h v N X) (hw : Jobs h w L) (hl : X.length < 2 ^ 40) :
    CallOK Try.prog 102 #[v, w] h (.tuple #[.int .i64 (critI N X L), .int .i64 (critS N X L), .bool (spB N X && jobsB L N)]) h := by
  refine callY_P 43 _ [.tmp 4, .tmp 5, .tmp 6] Try.func102 rfl rfl rfl (by first | rfl | simp) ?_
  obtain ⟨b, rfl, hX⟩ := hv
  have ntw := hw.nt
  have csw := hw.cs
  refine WD_first ?_
  try simp (disch := first | omega | (simp; done) | fail) [wrap64c, if_pos, if_neg, opAnd, opOr, opXor, opDiff, opShr, opBit, ntw, csw]
  refine stopK_heap fun h0 q_h0 => ?_
  refine stopK_go ?_
  have g_h0 : h0.get h.next = .cells [.int .i64 N, b] true true 1 := by simp [q_h0]
  have k_h0 : Adds h h0 := by rw [q_h0]; exact (by first | exact aK | exact kK)
  have n_h0 : h.next < h0.next := by simp [q_h0]; try omega
  have hX0 := hX.keep k_h0.1
  have hw0 := hw.keep k_h0.1
  have K0 := k_h0.1
  try simp (disch := first | omega | (simp; done) | fail) [wrap64c, if_pos, if_neg, opAnd, opOr, opXor, opDiff, opShr, opBit, ntw, csw, g_h0]
  refine callG_c (by simp) (by simp) ?ha (grGiven_ok h0 (.agg #[.int .i64 N, b]) w N X L (.mk hX0) hw0 hl) ?_
  (case ha => simp (disch := first | omega | (simp; done) | fail) [wrap64c, if_pos, if_neg, opAnd, opOr, opXor, opDiff, opShr, opBit, ntw, csw, g_h0])
  cases c1 : (spB N X && jobsB L N)
  · try simp (disch := first | omega | (simp; done) | fail) [wrap64c, if_pos, if_neg, opAnd, opOr, opXor, opDiff, opShr, opBit, ntw, csw, g_h0, c1]
    exact done_ret rfl (by simp [critI, critS, c1, K0])
  · have cc := c1
    rw [Bool.and_eq_true] at cc
    obtain ⟨n, xs, hN, hXe, g⟩ := spB_true cc.1
    obtain ⟨hLN, gj⟩ := jobsB_ok cc.2
    have hNt : N = (n : Int) := hN
    have hLn : L.length = n := by omega
    have hX1 : Ints h0 b (toN xs) := hXe ▸ hX0
    have n7 := g.n7
    have n1 := g.n1
    obtain ⟨u, h1, hc1, ha1, hi1⟩ := grGreedy_ok h0 (.agg #[.int .i64 n, b]) w n xs L (.mk hX1) hw0 g gj hLn
    obtain ⟨hgl, hgc⟩ := greedN_costs g gj hLn
    have hI : critI N X L = (((greedN (costN L) xs n).getD (critJ (costN L) (greedN (costN L) xs n)) 0 : Nat) : Int) := by rw [critI, if_pos c1, hXe, natsOf_toN, hN, Int.toNat_natCast]
    have hS : critS N X L = ((setW ((greedN (costN L) xs n).take (critJ (costN L) (greedN (costN L) xs n))) 0 : Nat) : Int) := by rw [critS, if_pos c1, hXe, natsOf_toN, hN, Int.toNat_natCast]
    have hlen : (greedN (costN L) xs n).length = n := greedN_len _ _ _
    obtain ⟨W, hW⟩ : ∃ W, W = greedN (costN L) xs n := ⟨_, rfl⟩
    rw [← hW] at hgl hgc hI hS hi1 hlen
    obtain ⟨hj1, hj2, hj3⟩ := critJ_ok (costN L) W hgc (by omega)
    have hL := hi1.lenD
    have hgt := toN_get W
    have hln := toN_length W
    have hw1 := hw0.keep ha1.1
    try simp (disch := first | omega | (simp; done) | fail) [wrap64c, if_pos, if_neg, opAnd, opOr, opXor, opDiff, opShr, opBit, ntw, csw, g_h0, c1, hNt, hL, hgt]
    refine callG_c (by simp) (by simp) ?ha (hc1) ?_
    (case ha => simp (disch := first | omega | (simp; done) | fail) [wrap64c, if_pos, if_neg, opAnd, opOr, opXor, opDiff, opShr, opBit, ntw, csw, g_h0, c1, hNt, hL, hgt])
    try simp (disch := first | omega | (simp; done) | fail) [wrap64c, if_pos, if_neg, opAnd, opOr, opXor, opDiff, opShr, opBit, ntw, csw, g_h0, c1, hNt, hL, hgt]
    refine callG_c (by simp) (by simp) ?ha (grOf_ok h1 w u L W hw1 hi1.ints gj hgl (by omega)) ?_
    (case ha => simp (disch := first | omega | (simp; done) | fail) [wrap64c, if_pos, if_neg, opAnd, opOr, opXor, opDiff, opShr, opBit, ntw, csw, g_h0, c1, hNt, hL, hgt])
    try simp (disch := first | omega | (simp; done) | fail) [wrap64c, if_pos, if_neg, opAnd, opOr, opXor, opDiff, opShr, opBit, ntw, csw, g_h0, c1, hNt, hL, hgt]
    refine WD_loopC [1, 8, 23, 24] (fun m tm h' => ∃ j, m = W.length - j ∧ h1 = h' ∧ tm 9 = .int .i64 ((setW (W.take j) 0 : Nat) : Int) ∧ tm 10 = .int .i64 (-1) ∧ tm 25 = .int .i64 (j : Int) ∧ (j ≤ critJ (costN L) W)) _ ⟨0, rfl, rfl, (by simp [setW]), (by simp (disch := first | omega | (simp; done) | fail) [wrap64c, if_pos, if_neg, opAnd, opOr, opXor, opDiff, opShr, opBit, ntw, csw, g_h0, c1, hNt, hL, hgt]), (by simp (disch := first | omega | (simp; done) | fail) [wrap64c, if_pos, if_neg, opAnd, opOr, opXor, opDiff, opShr, opBit, ntw, csw, g_h0, c1, hNt, hL, hgt]), (by first | omega | assumption | (simp (disch := first | omega | (simp; done) | fail) [wrap64c, if_pos, if_neg, opAnd, opOr, opXor, opDiff, opShr, opBit, ntw, csw, g_h0, c1, hNt, hL, hgt] <;> omega))⟩ ?_
    rintro m tm h' hFr ⟨j, rfl, rfl, e9, e10, e25, hj⟩
    simp only [FrameL] at hFr
    obtain ⟨f1_0, f8_0, f23_0, f24_0, -⟩ := hFr
    try simp (disch := first | omega | (simp; done) | fail) [wrap64c, if_pos, if_neg, opAnd, opOr, opXor, opDiff, opShr, opBit, ntw, csw, g_h0, c1, hNt, hL, hgt] at f1_0 f8_0 f23_0 f24_0
    have e1 := f1_0
    have e8 := f8_0
    have e23 := f23_0
    have e24 := f24_0
    have hlt : j < W.length := by omega
    have hi := hgl _ (List.getElem_mem hlt)
    have hss := setW_lt (W.take j) 0 (by omega) (fun i hi => by have := hgl i (List.mem_of_mem_take hi); omega)
    have hp64 := bit_lt7 (i := W[j]) (by omega)
    have hor := nOr128 (b := bit W[j]) hss (by omega)
    have hs1 : setW (W.take (j + 1)) 0 = nOr (setW (W.take j) 0) (bit W[j]) := by rw [setW_take hlt]; simp [hlt]
    have hcw : costW (costN L) W j = costN L (setW (W.take j) 0) W[j] := by simp [costW, hlt]
    obtain ⟨o_x, i_x, c_x, cs_x, own_x, ex_x, es_x, q_x, b_x, g_x, l_x, r_x⟩ := hi1.ints.open ((by omega))
    have z_x : ∀ h2 : i_x < cs_x.length, cs_x[i_x] = _ := fun h2 => r_x 0 ((by omega)) h2
    try simp (disch := first | omega | (simp; done) | fail) [wrap64c, if_pos, if_neg, opAnd, opOr, opXor, opDiff, opShr, opBit, ntw, csw, g_h0, c1, hNt, hL, hgt, e1, e8, e9, e10, e23, e24, e25, hlt, q_x, g_x, l_x, r_x, z_x]
    refine callG_c (by simp) (by simp) ?ha (grCost_ok h1 w L (setW (W.take j) 0) W[j] hw1 gj hss hi) ?_
    (case ha => simp (disch := first | omega | (simp; done) | fail) [wrap64c, if_pos, if_neg, opAnd, opOr, opXor, opDiff, opShr, opBit, ntw, csw, g_h0, c1, hNt, hL, hgt, e1, e8, e9, e10, e23, e24, e25, hlt, q_x, g_x, l_x, r_x, z_x])
    by_cases hje : j = critJ (costN L) W
    · have hq : costN L (setW (W.take j) 0) W[j] = topN (costN L) W := by rw [← hcw, hje]; exact hj2
      try simp (disch := first | omega | (simp; done) | fail) [wrap64c, if_pos, if_neg, opAnd, opOr, opXor, opDiff, opShr, opBit, ntw, csw, g_h0, c1, hNt, hL, hgt, e1, e8, e9, e10, e23, e24, e25, hlt, q_x, g_x, l_x, r_x, z_x, hq]
      exact done_ret rfl (by simp [hI, hS, c1, ← hje, hlt, K0.trans ha1.1])
    · have hq : ¬ costN L (setW (W.take j) 0) W[j] = topN (costN L) W := by rw [← hcw]; exact hj3 j (by omega)
      try simp (disch := first | omega | (simp; done) | fail) [wrap64c, if_pos, if_neg, opAnd, opOr, opXor, opDiff, opShr, opBit, ntw, csw, g_h0, c1, hNt, hL, hgt, e1, e8, e9, e10, e23, e24, e25, hlt, q_x, g_x, l_x, r_x, z_x, hq]
      refine loopK_next _ ?hm ?hf ⟨j + 1, rfl, rfl, (by simp [hs1]), (by simp (disch := first | omega | (simp; done) | fail) [wrap64c, if_pos, if_neg, opAnd, opOr, opXor, opDiff, opShr, opBit, ntw, csw, g_h0, c1, hNt, hL, hgt, e1, e8, e9, e10, e23, e24, e25, hlt, q_x, g_x, l_x, r_x, z_x] <;> omega), (by simp (disch := first | omega | (simp; done) | fail) [wrap64c, if_pos, if_neg, opAnd, opOr, opXor, opDiff, opShr, opBit, ntw, csw, g_h0, c1, hNt, hL, hgt, e1, e8, e9, e10, e23, e24, e25, hlt, q_x, g_x, l_x, r_x, z_x] <;> omega), (by first | omega | assumption | (simp (disch := first | omega | (simp; done) | fail) [wrap64c, if_pos, if_neg, opAnd, opOr, opXor, opDiff, opShr, opBit, ntw, csw, g_h0, c1, hNt, hL, hgt, e1, e8, e9, e10, e23, e24, e25, hlt, q_x, g_x, l_x, r_x, z_x] <;> omega))⟩
      (case hm => first | omega | (simp; omega))
      (case hf => simp [FrameL, ntw, csw, g_h0, c1, hNt, hL, hgt, e1, e8, e9, e10, e23, e24, e25, hlt, q_x, g_x, l_x, r_x, z_x, f1_0, f8_0, f23_0, f24_0])
end Go.Proofs.Ytnncipcldbopgaa
namespace Go.Proofs.Ytnncipcldbopgaa
set_option linter.unusedSimpArgs false
set_option linter.unusedVariables false
open Go Go.Eng
def chF (M : Nat → Bool) (n : Nat) : Nat → Nat → List (List Nat)
  | 0, _ => [[]]
  | k + 1, s => (itemsN (outerN M n s)).flatMap fun i => (chF M n k (nOr s (bit i))).map (i :: ·)
theorem words_ch (M : Nat → Bool) (n : Nat) : ∀ (k : Nat) (w : List Nat) (s : Nat), wordsF M n k w s = (chF M n k s).map (w ++ ·)
  | 0, w, s => by simp [wordsF, chF]
  | k + 1, w, s => by
    simp only [wordsF, chF, List.map_flatMap, List.map_map]
    congr 1
    funext i
    rw [words_ch M n k]
    exact List.map_congr_left fun t _ => by simp
def okW (c : Nat → Nat → Int) (lim : Int) : List Nat → Nat → Bool
  | [], _ => true
  | i :: l, s => decide (c s i ≤ lim) && okW c lim l (nOr s (bit i))
def waysF (M : Nat → Bool) (n : Nat) (c : Nat → Nat → Int) (lim : Int) : Nat → Nat → Nat
  | 0, _ => 1
  | k + 1, s => ((itemsN (outerN M n s)).map fun i => if c s i ≤ lim then waysF M n c lim k (nOr s (bit i)) else 0).sum
theorem ways_ch (M : Nat → Bool) (n : Nat) (c : Nat → Nat → Int) (lim : Int) : ∀ (k s : Nat), (chF M n k s).countP (fun w => okW c lim w s) = waysF M n c lim k s
  | 0, s => by simp [chF, okW, waysF]
  | k + 1, s => by
    rw [chF, List.countP_flatMap, waysF]
    congr 1
    refine List.map_congr_left fun i _ => ?_
    show List.countP _ (List.map _ _) = _
    rw [List.countP_map]
    by_cases h : c s i ≤ lim
    · rw [if_pos h, ← ways_ch M n c lim k]
      congr 1
      funext t
      simp [okW, h]
    · rw [if_neg h, List.countP_eq_zero]
      intro t _
      simp [okW, h]
theorem topW_le (c : Nat → Nat → Int) (lim : Int) : ∀ (l : List Nat) (s : Nat) (m : Int), topW c l s m ≤ lim ↔ m ≤ lim ∧ okW c lim l s = true
  | [], s, m => by simp [topW, okW]
  | i :: l, s, m => by
    rw [topW, topW_le c lim l, okW, Bool.and_eq_true, decide_eq_true_eq, ← and_assoc]
    refine and_congr_left fun _ => ?_
    split <;> omega
theorem leastO_min (c : Nat → Int) : ∀ (l : List Nat) (o : Option Nat) (b : Nat), leastO c l o = some b → (∀ i ∈ l, c b ≤ c i) ∧ ∀ a, o = some a → c b ≤ c a
  | [], o, b, h => ⟨(by simp), fun a e => by rw [leastO, e] at h; cases h; exact Int.le_refl _⟩
  | i :: l, o, b, h => by
    rw [leastO] at h
    obtain ⟨h1, h2⟩ := leastO_min c l _ b h
    have h3 : c b ≤ c i ∧ ∀ a, o = some a → c b ≤ c a := by
      cases o with
      | none => exact ⟨h2 i rfl, fun a e => by cases e⟩
      | some a =>
        simp only [lessO] at h2
        by_cases hc : c i < c a
        · rw [if_pos hc] at h2
          have := h2 i rfl
          exact ⟨this, fun a' e => by cases e; omega⟩
        · rw [if_neg hc] at h2
          have := h2 a rfl
          exact ⟨by omega, fun a' e => by cases e; exact this⟩
    exact ⟨fun x hx => (List.mem_cons.1 hx).elim (fun e => e ▸ h3.1) (h1 x), h3.2⟩
theorem greed_take (c : Nat → Nat → Int) (M : Nat → Bool) (n j : Nat) : ∀ k, j ≤ k → (greedS c M n k).1.take j = (greedS c M n j).1
  | 0, h => by
    have : j = 0 := by omega
    subst this; rfl
  | k + 1, h => by
    by_cases e : j = k + 1
    · subst e; rw [List.take_of_length_le (by rw [greed_len]; omega)]
    · rw [greedS, List.take_append_of_le_length (by rw [greed_len]; omega)]
      exact greed_take c M n j k (by omega)
theorem greed_set (c : Nat → Nat → Int) (M : Nat → Bool) (n : Nat) : ∀ k, setW (greedS c M n k).1 0 = (greedS c M n k).2
  | 0 => rfl
  | k + 1 => by rw [greedS, setW_snoc, greed_set c M n k]
theorem greed_at (c : Nat → Nat → Int) (M : Nat → Bool) (n j : Nat) (hj : j < n) : (greedS c M n n).1.getD j 0 = nextG c M n (greedS c M n j).2 := by
  have h := greed_take c M n (j + 1) n (by omega)
  have h2 : ((greedS c M n n).1.take (j + 1)).getD j 0 = ((greedS c M n (j + 1)).1).getD j 0 := by rw [h]
  have h3 : ((greedS c M n n).1.take (j + 1)).getD j 0 = (greedS c M n n).1.getD j 0 := by
    simp [List.getD_eq_getElem?_getD, List.getElem?_take]
  rw [← h3, h2, greedS]
  simp [List.getD_eq_getElem?_getD, greed_len]
theorem chain_meets {n : Nat} {xs : List Nat} (g : SpGood n xs) {c : Nat → Nat → Int} (hc : ∀ T G i, (∀ k, T.testBit k = true → G.testBit k = true) → i < n → c G i ≤ c T i) {lim : Int} {G : Nat} (hG : G ∈ xs) (hGf : G ≠ bit n - 1) :
    ∀ (k T : Nat) (t : List Nat), T ∈ xs → pcN T + k = n → (∀ b, T.testBit b = true → G.testBit b = true) → t ∈ chF (fam xs) n k T → okW c lim t T = true → ∃ i, i ∈ itemsN (outerN (fam xs) n G) ∧ c G i ≤ lim
  | 0, T, t, hT, hk, hs, _, _ => by
    exfalso
    have hTf : T = bit n - 1 := (pcN_lt g.n7 (g.lt T hT)).2 (by omega)
    apply hGf
    apply Nat.eq_of_testBit_eq
    intro b
    have hb : (bit n - 1).testBit b = decide (b < n) := Nat.testBit_two_pow_sub_one n b
    by_cases hbn : b < n
    · rw [hb, decide_eq_true hbn]; exact hs b (by rw [hTf, hb, decide_eq_true hbn])
    · rw [hb, decide_eq_false hbn]
      exact Nat.testBit_lt_two_pow (Nat.lt_of_lt_of_le (show G < 2 ^ n from g.lt G hG) (Nat.pow_le_pow_right (by omega) (by omega)))
  | k + 1, T, t, hT, hk, hs, ht, hok => by
    rw [chF, List.mem_flatMap] at ht
    obtain ⟨i, hi, ht⟩ := ht
    obtain ⟨t', ht', rfl⟩ := List.mem_map.1 ht
    obtain ⟨a1, a2, a3⟩ := g.learn hi
    rw [okW, Bool.and_eq_true, decide_eq_true_eq] at hok
    cases hGi : G.testBit i
    · refine ⟨i, ?_, Int.le_trans (hc T G i hs a1) hok.1⟩
      refine mem_items.2 ⟨by have := g.n7; omega, ?_⟩
      rw [outerN_bit, decide_eq_true a1, hGi]
      have hu := g.uni G hG _ a3
      have e : nOr G (nOr T (bit i)) = nOr G (bit i) := by
        apply Nat.eq_of_testBit_eq
        intro b
        rw [nOr_bit, nOr_bit, nOr_bit]
        have := hs b
        cases h1 : T.testBit b <;> simp_all
      rw [e] at hu
      simpa [fam] using hu
    · refine chain_meets g hc hG hGf k _ t' a3 (by rw [pcN_or (by have := g.lt T hT; have := bit7 g.n7; omega) (by have := g.n7; omega) a2]; omega) (fun b hb => ?_) ht' hok.2
      rw [nOr_bit, Bool.or_eq_true] at hb
      rcases hb with hb | hb
      · exact hs b hb
      · rw [bit_bit] at hb
        have : i = b := by simpa using hb
        exact this ▸ hGi
theorem greedy_best {n : Nat} {xs : List Nat} (g : SpGood n xs) {c : Nat → Nat → Int} (hc : ∀ T G i, (∀ k, T.testBit k = true → G.testBit k = true) → i < n → c G i ≤ c T i)
    (h1 : ∀ j, j < (greedN c xs n).length → -10000 < costW c (greedN c xs n) j) : -10000 < topN c (greedN c xs n) ∧ ∀ w ∈ chF (fam xs) n n 0, topN c (greedN c xs n) ≤ topN c w := by
  have hn1 := g.n1
  obtain ⟨q1, q2, _⟩ := critJ_ok c (greedN c xs n) h1 (by simp; omega)
  refine ⟨by have := h1 _ q1; omega, fun w hw => ?_⟩
  rcases Int.lt_or_le (topN c w) (topN c (greedN c xs n)) with hlt | hle
  case inr => exact hle
  exfalso
  generalize hj : critJ c (greedN c xs n) = j at q1 q2
  have hjn : j < n := by simpa using q1
  have e1 : costW c (greedN c xs n) j = c (greedS c (fam xs) n j).2 (nextG c (fam xs) n (greedS c (fam xs) n j).2) := by
    show c (setW ((greedS c (fam xs) n n).1.take j) 0) ((greedS c (fam xs) n n).1.getD j 0) = _
    rw [greed_take c (fam xs) n j n (by omega), greed_set, greed_at c (fam xs) n j hjn]
  have hok := ((topW_le c (topN c (greedN c xs n) - 1) w 0 (-10000)).1 (by have : topW c w 0 (-10000) = topN c w := rfl; omega)).2
  have hi := greed_inv g c j (by omega)
  obtain ⟨i, hi1, hi2⟩ := chain_meets g hc hi.1 (fun e => by have := (greed_end g c (k := j) (by omega)).1 e; omega) n 0 w g.zero (by rw [show pcN 0 = 0 by decide]; omega) (fun b hb => by simp at hb) hw hok
  obtain ⟨m1, _⟩ := nextG_mem c (greed_ne g c hjn)
  have := (leastO_min _ _ _ _ m1).1 i hi1
  omega
theorem count_best {n : Nat} {xs : List Nat} (g : SpGood n xs) {c : Nat → Nat → Int} (hc : ∀ T G i, (∀ k, T.testBit k = true → G.testBit k = true) → i < n → c G i ≤ c T i)
    (h1 : ∀ j, j < (greedN c xs n).length → -10000 < costW c (greedN c xs n) j) : (wordsF (fam xs) n n [] 0).countP (fun w => decide (topN c w = topN c (greedN c xs n))) = waysF (fam xs) n c (topN c (greedN c xs n)) n 0 := by
  obtain ⟨b1, b2⟩ := greedy_best g hc h1
  rw [words_ch, show (fun t : List Nat => [] ++ t) = id from funext fun _ => rfl, List.map_id, ← ways_ch]
  refine List.countP_congr fun w hw => ?_
  have h2 := b2 w hw
  have h3 := topW_le c (topN c (greedN c xs n)) w 0 (-10000)
  have h4 : topW c w 0 (-10000) = topN c w := rfl
  rw [h4] at h3
  rw [decide_eq_true_eq]
  constructor
  · intro e; exact (h3.1 (by omega)).2
  · intro e; have := h3.2 ⟨by omega, e⟩; omega
theorem sumT_mono {L : List Job} (gj : JobsOK L) {T G : Nat} (h : ∀ k, T.testBit k = true → G.testBit k = true) : ∀ k, k ≤ L.length → sumT L G k ≤ sumT L T k
  | 0, _ => by simp [sumT]
  | k + 1, hk => by
    have h1 := sumT_mono gj h k (by omega)
    have h2 := (gj.at (show k < L.length by omega)).1
    have h3 := h k
    simp only [sumT]
    cases hT : T.testBit k <;> cases hG : G.testBit k <;> simp_all <;> omega
theorem costN_mono {L : List Job} (gj : JobsOK L) (T G i : Nat) (h : ∀ k, T.testBit k = true → G.testBit k = true) (hi : i < L.length) : costN L G i ≤ costN L T i := by
  have h1 := sumT_mono gj h L.length (Nat.le_refl _)
  have h2 := (gj.at hi).2.1
  have := Int.mul_le_mul_of_nonneg_left h1 h2.1
  unfold costN; omega
theorem best_count {n : Nat} {xs : List Nat} {L : List Job} (g : SpGood n xs) (gj : JobsOK L) (hn : L.length = n) :
    (wordsF (fam xs) n n [] 0).countP (fun w => decide (topN (costN L) w = topN (costN L) (greedN (costN L) xs n))) = waysF (fam xs) n (costN L) (topN (costN L) (greedN (costN L) xs n)) n 0 :=
  count_best g (fun T G i h hi => costN_mono gj T G i h (by omega)) (greedN_costs g gj hn).2
end Go.Proofs.Ytnncipcldbopgaa
namespace Go.Proofs.Ytnncipcldbopgaa
set_option linter.unusedSimpArgs false
set_option linter.unusedVariables false
set_option maxHeartbeats 4000000
open Go Go.Eng
attribute [local irreducible] WD RunD PreD Runs CallOK
def rowsN (L : List (List Nat)) : List (List Int) := L.map toN
noncomputable def fewB (N : Int) (X : List Int) : Bool := spB N X && decide (N ≤ 5)
end Go.Proofs.Ytnncipcldbopgaa
namespace Go.Proofs.Ytnncipcldbopgaa
set_option linter.unusedSimpArgs false
set_option linter.unusedVariables false
set_option maxHeartbeats 4000000
open Go Go.Eng
attribute [local irreducible] WD RunD PreD Runs CallOK
def OrdN (n : Nat) (w : List Nat) : Prop := w.length = n ∧ ∀ k, k < w.length → w.getD k 0 < n
def keptN (n : Nat) (xs : List Nat) : Nat := ((permsF n n []).filter fun w => decide (namedN n w xs = xs)).length
noncomputable def keptR (N : Int) (X : List Int) : Int := if fewB N X = true then (keptN N.toNat (natsOf X) : Int) else 0
theorem foldl_count {α : Type} (p : α → Bool) : ∀ (l : List α) (s : Nat), l.foldl (fun s w => if p w = true then s + 1 else s) s = s + (l.filter p).length
  | [], s => rfl
  | a :: l, s => by
    rw [List.foldl_cons, foldl_count p l]
    by_cases h : p a = true <;> simp [h]; omega
theorem wrap_eq (x : Int) : IntKind.wrap .i64 x = if x % 18446744073709551616 ≥ 9223372036854775808 then x % 18446744073709551616 - 18446744073709551616 else x % 18446744073709551616 := by
  have e : IntKind.wrap .i64 x = if (true && decide (x % 18446744073709551616 ≥ 9223372036854775808)) = true then x % 18446744073709551616 - 18446744073709551616 else x % 18446744073709551616 := rfl
  rw [e]; simp
theorem wrap_succ (x : Int) : IntKind.wrap .i64 (IntKind.wrap .i64 x + 1) = IntKind.wrap .i64 (x + 1) := by
  rw [wrap_eq (IntKind.wrap .i64 x + 1), wrap_eq x, wrap_eq (x + 1)]
  split <;> split <;> split <;> omega
end Go.Proofs.Ytnncipcldbopgaa
namespace Go.Proofs.Ytnncipcldbopgaa
set_option linter.unusedSimpArgs false
set_option linter.unusedVariables false
set_option maxHeartbeats 4000000
open Go Go.Eng
attribute [local irreducible] WD RunD PreD Runs CallOK
theorem chF_mem (M : Nat → Bool) (n : Nat) : ∀ (k s : Nat), ∀ w ∈ chF M n k s, w.length = k ∧ ∀ i ∈ w, i < n
  | 0, s, w, h => by
    have : w = [] := by simpa [chF] using h
    subst this; simp
  | k + 1, s, w, h => by
    rw [chF, List.mem_flatMap] at h
    obtain ⟨i, hi, h⟩ := h
    obtain ⟨t, ht, rfl⟩ := List.mem_map.1 h
    obtain ⟨h1, h2⟩ := chF_mem M n k _ t ht
    have h3 := (mem_items.1 hi).2
    rw [outerN_bit, Bool.and_eq_true, decide_eq_true_eq] at h3
    exact ⟨by simp [h1], fun x hx => (List.mem_cons.1 hx).elim (fun e => e ▸ h3.1) (h2 x)⟩
theorem words_mem (M : Nat → Bool) (n : Nat) : ∀ w ∈ wordsF M n n [] 0, w.length = n ∧ ∀ i ∈ w, i < n := fun w hw => by
  rw [words_ch] at hw
  obtain ⟨t, ht, rfl⟩ := List.mem_map.1 hw
  simpa using chF_mem M n n 0 t ht
noncomputable def cntB (N : Int) (X : List Int) (L : List Job) : Int := if (spB N X && jobsB L N) = true then IntKind.wrap .i64 (waysF (fam (natsOf X)) N.toNat (costN L) (topN (costN L) (greedN (costN L) (natsOf X) N.toNat)) N.toNat 0 : Int) else 0
theorem countClo_ok (h : Hp) (oT oB oN n : Nat) (v u : Value) (L : List Job) (W : List Nat) (best s : Int) (gT : h.get oT = .cells [u] true true 1) (gB : h.get oB = .cells [.int .i64 best] true true 1) (gN : h.get oN = .cells [.int .i64 (IntKind.wrap .i64 s)] true true 1) (hv : Ints h v (toN W)) (hu : Jobs h u L) (gj : JobsOK L)
    (hn : L.length = n) (h0 : 0 < n) (hW : W.length = n ∧ ∀ i ∈ W, i < n) :
    ∃ v' h', CallOK Try.prog 208 #[v, .pointer (some ⟨oT, 0, none⟩), .pointer (some ⟨oB, 0, none⟩), .pointer (some ⟨oN, 0, none⟩)] h v' h' ∧ v' = .bool true ∧ h' = if topN (costN L) W = best then h.put oN (.cells [.int .i64 (IntKind.wrap .i64 (s + 1))] true true 1) else h := by
  have ntu := hu.nt
  have csu := hu.cs
  have n7 := gj.n7
  refine callY_L (args := [v, .pointer (some ⟨oT, 0, none⟩), .pointer (some ⟨oB, 0, none⟩), .pointer (some ⟨oN, 0, none⟩)]) 13 _ [.tmp 5] Try.func208 rfl rfl rfl ?_
  have gT' := gT
  try simp (disch := first | omega | (simp; done) | fail) [wrap64c, if_pos, if_neg, opAnd, opOr, opXor, opDiff, opShr, opBit, gT', gB, gN]
  refine WD_drawC 4 rfl (by kernel_rfl) ?_
  try simp (disch := first | omega | (simp; done) | fail) [wrap64c, if_pos, if_neg, opAnd, opOr, opXor, opDiff, opShr, opBit, gT', gB, gN]
  refine callP_c (by simp) (by simp) ?ha (costOf_ok h u v L W hu hv gj (fun i hi => by rw [hn]; exact hW.2 i hi) (by omega) (by omega)) ?hadd ?_
  (case ha => simp (disch := first | omega | (simp; done) | fail) [wrap64c, if_pos, if_neg, opAnd, opOr, opXor, opDiff, opShr, opBit, gT', gB, gN])
  (case hadd => first | assumption | exact adds_self _ | (simp; done))
  by_cases hc : topN (costN L) W = best
  · try simp (disch := first | omega | (simp; done) | fail) [wrap64c, if_pos, if_neg, opAnd, opOr, opXor, opDiff, opShr, opBit, gT', gB, gN, hc, putCells, wrap_succ]
    exact done_ret rfl (by simp [hc])
  · have hz : (topN (costN L) W == best) = false := by simpa using hc
    try simp (disch := first | omega | (simp; done) | fail) [wrap64c, if_pos, if_neg, opAnd, opOr, opXor, opDiff, opShr, opBit, gT', gB, gN, hc, hz]
    exact done_ret rfl (by simp [hc])
theorem implCount_ok (h : Hp) (v w : Value) (N : Int) (X : List Int) (L : List Job) (hv : Space h v N X) (hw : Jobs h w L) (hl : X.length < 2 ^ 40) :
    CallOK Try.prog 103 #[v, w] h (.tuple #[.int .i64 (cntB N X L), .bool (spB N X && jobsB L N)]) h := by
  refine callY_P 21 _ [.tmp 4, .tmp 5] Try.func103 rfl rfl rfl (by first | rfl | simp) ?_
  obtain ⟨b, rfl, hX⟩ := hv
  have ntw := hw.nt
  have csw := hw.cs
  refine WD_first ?_
  try simp (disch := first | omega | (simp; done) | fail) [wrap64c, if_pos, if_neg, opAnd, opOr, opXor, opDiff, opShr, opBit, ntw, csw]
  refine stopK_heap fun h0 q_h0 => ?_
  refine stopK_go ?_
  have k0 : Adds h h0 := by rw [q_h0]; exact (by first | exact aK | exact kK)
  have n0 : h0.next = h.next + 2 := by simp [q_h0]
  have gs0 : h0.get h.next = .cells [.int .i64 N, b] true true 1 := by simp [q_h0]
  have gw0 : h0.get (h.next + 1) = .cells [w] true true 1 := by simp [q_h0]
  have hX0 := hX.keep k0.1
  have hw0 := hw.keep k0.1
  try simp (disch := first | omega | (simp; done) | fail) [wrap64c, if_pos, if_neg, opAnd, opOr, opXor, opDiff, opShr, opBit, ntw, csw, gs0, gw0]
  refine callG_c (by simp) (by simp) ?ha (bestCost_ok h0 (.agg #[.int .i64 N, b]) w N X L (.mk hX0) hw0 hl) ?_
  (case ha => simp (disch := first | omega | (simp; done) | fail) [wrap64c, if_pos, if_neg, opAnd, opOr, opXor, opDiff, opShr, opBit, ntw, csw, gs0, gw0])
  cases c1 : (spB N X && jobsB L N)
  · try simp (disch := first | omega | (simp; done) | fail) [wrap64c, if_pos, if_neg, opAnd, opOr, opXor, opDiff, opShr, opBit, ntw, csw, gs0, gw0, c1]
    exact done_ret rfl ⟨by simp [cntB, c1], (by first | exact aK | exact kK)⟩
  · have cc := c1
    rw [Bool.and_eq_true] at cc
    obtain ⟨n, xs, hN, hXe, g⟩ := spB_true cc.1
    obtain ⟨hLN, gj⟩ := jobsB_ok cc.2
    have hNt : N = (n : Int) := hN
    have hLn : L.length = n := by omega
    have hA0 : bestC N X L = topN (costN L) (greedN (costN L) xs n) := by rw [bestC, if_pos c1, hXe, natsOf_toN, hN, Int.toNat_natCast]
    have hA : bestC (n : Int) X L = topN (costN L) (greedN (costN L) xs n) := by rw [← hNt]; exact hA0
    have hB : cntB N X L = IntKind.wrap .i64 (waysF (fam xs) n (costN L) (topN (costN L) (greedN (costN L) xs n)) n 0 : Int) := by rw [cntB, if_pos c1, hXe, natsOf_toN, hN, Int.toNat_natCast]
    have n7 := g.n7
    have n1 := g.n1
    try simp (disch := first | omega | (simp; done) | fail) [wrap64c, if_pos, if_neg, opAnd, opOr, opXor, opDiff, opShr, opBit, ntw, csw, gs0, gw0, c1, hNt, hA, putCells]
    first | refine WY_heap fun h1 q_h1 => ?_ | refine callG_heap fun h1 q_h1 => ?_ | refine callP_heap fun h1 q_h1 => ?_ | refine callS_heap fun h1 q_h1 => ?_ | refine RY_heap fun h1 q_h1 => ?_ | refine PY_heap fun h1 q_h1 => ?_ | refine SY_heap fun h1 q_h1 => ?_ | refine doneY_heap fun h1 q_h1 => ?_ | refine loopK_heap fun h1 q_h1 => ?_ | refine thenY_heap fun h1 q_h1 => ?_ | refine thenM_heap fun h1 q_h1 => ?_
    have k1 : Adds h0 h1 := by rw [q_h1]; exact (by first | exact aK | exact kK)
    have m1 : h1.next = h0.next + 2 := by simp [q_h1]
    have gs1 : h1.get h.next = .cells [.int .i64 N, b] true true 1 := by rw [k1.1.2 _ (by omega)]; exact gs0
    have gw1 : h1.get (h.next + 1) = .cells [w] true true 1 := by rw [k1.1.2 _ (by omega)]; exact gw0
    have gb1 : h1.get h0.next = .cells [.int .i64 (topN (costN L) (greedN (costN L) xs n))] true true 1 := by simp [q_h1, hA]
    have gn1 : h1.get (h0.next + 1) = .cells [.int .i64 0] true true 1 := by simp [q_h1]
    have hw1 := hw0.keep k1.1
    generalize hbest : topN (costN L) (greedN (costN L) xs n) = best at *
    have D : Doer (fun (s : Nat) (T : Nat → Prop) h' => (∀ o, T o → False) ∧ h1.next ≤ h'.next ∧ (∀ o, o < h1.next → o ≠ h0.next + 1 → h'.get o = h1.get o) ∧ h'.get (h0.next + 1) = .cells [.int .i64 (IntKind.wrap .i64 (s : Int))] true true 1) (fun s w => if decide (topN (costN L) w = best) = true then s + 1 else s) (fun w => w.length = n ∧ ∀ i ∈ w, i < n) h1.next (fun o => o = h0.next + 1) 208 #[.pointer (some ⟨h.next + 1, 0, none⟩), .pointer (some ⟨h0.next, 0, none⟩), .pointer (some ⟨h0.next + 1, 0, none⟩)] := {
      stab := fun s T h' h'' hp hb1 hb2 hs => ⟨hp.1, by omega, fun o ho hne => by rw [hs o (by omega) (.inl ho)]; exact hp.2.2.1 o ho hne, by rw [hs _ (by omega) (.inl (by omega))]; exact hp.2.2.2⟩
      run := fun s T h' W u hp hb1 hv hg => by
        obtain ⟨hT, p1, p2, p3⟩ := hp
        have K1 : Keeps h0 h' := ⟨by omega, fun o ho => by rw [p2 o (by omega) (by omega)]; exact k1.1.2 o ho⟩
        obtain ⟨_, h3, hc3, rfl, he⟩ := countClo_ok h' (h.next + 1) h0.next (h0.next + 1) n u w L W best s (by rw [p2 _ (by omega) (by omega)]; exact gw1) (by rw [p2 _ (by omega) (by omega)]; exact gb1) p3 hv (hw0.keep K1) gj hLn n1 hg
        refine ⟨h3, hc3, ?_, fun _ => False, ⟨fun _ hf => hf, ?_, ?_, ?_⟩, fun _ hf => hf.elim⟩
        · rw [he]
          split
          · exact (Wr.of_adds (adds_self _)).put (.inl rfl) fun _ => rfl
          · exact .of_adds (adds_self _)
        · rw [he]; split
          · simpa using p1
          · exact p1
        · intro o ho hne
          rw [he]; split
          · simp [hne, p2 o ho hne]
          · exact p2 o ho hne
        · rw [he]
          by_cases hc : topN (costN L) W = best
          · simp [hc]
          · simp [hc, p3]
      low := fun o ho => by omega
      fn := by simp }
    have hX1 : IntsF (fun x => x < h1.next ∧ ¬ x = h0.next + 1) h1 b (toN xs) := by
      rw [← hXe]; exact (((hX.old.keep k0.1).keep k1.1).sub fun o ho => by omega)
    obtain ⟨u, h2, hc2, W2, T2, P2, hT2⟩ := words_ok _ _ _ _ _ _ _ D n xs g h1 b 0 hX1 ⟨fun _ hf => hf, Nat.le_refl _, fun o ho _ => rfl, gn1⟩ (Nat.le_refl _) (words_mem _ _)
    refine callG_c (by simp) (by simp) ?ha (hc2) ?_
    (case ha => simp (disch := first | omega | (simp; done) | fail) [wrap64c, if_pos, if_neg, opAnd, opOr, opXor, opDiff, opShr, opBit, ntw, csw, gs0, gw0, c1, hNt, hA, gs1])
    rw [foldl_count] at P2
    have gc2 := P2.2.2.2
    rw [← List.countP_eq_length_filter, ← hbest, best_count g gj hLn, Nat.zero_add, hbest] at gc2
    have gc2 := gc2
    try simp (disch := first | omega | (simp; done) | fail) [wrap64c, if_pos, if_neg, opAnd, opOr, opXor, opDiff, opShr, opBit, ntw, csw, gs0, gw0, c1, hNt, hA, gs1, gc2]
    have A2 : Keeps h h2 := ⟨by have := k0.1.1; have := P2.2.1; omega, fun o ho => by rw [P2.2.2.1 o (by omega) (by omega), k1.1.2 o (by omega), k0.1.2 o ho]⟩
    exact done_ret rfl (by simp [c1, hB, A2, hbest])
end Go.Proofs.Ytnncipcldbopgaa
namespace Go.Proofs.Ytnncipcldbopgaa
set_option linter.unusedSimpArgs false
set_option linter.unusedVariables false
set_option maxHeartbeats 4000000
open Go Go.Eng
attribute [local irreducible] WD RunD PreD Runs CallOK
def partS (M : Nat → Bool) (n : Nat) (c : Nat → Nat → Int) (lim : Int) (k s : Nat) : Nat → Nat
  | 0 => 0
  | i + 1 => partS M n c lim k s i + (if s.testBit i = false ∧ M (nOr s (bit i)) = true then (if c s i ≤ lim then waysF M n c lim k (nOr s (bit i)) else 0) else 0)
theorem ways_part (M : Nat → Bool) {n : Nat} (hn : n ≤ 7) (c : Nat → Nat → Int) (lim : Int) (k s : Nat) : waysF M n c lim (k + 1) s = partS M n c lim k s n := by
  have key : ∀ m, m ≤ n → (((List.range m).filter fun i => (outerN M n s).testBit i).map fun i => if c s i ≤ lim then waysF M n c lim k (nOr s (bit i)) else 0).sum = partS M n c lim k s m := by
    intro m
    induction m with
    | zero => intro _; rfl
    | succ m ih =>
      intro hm
      rw [List.range_succ, List.filter_append, List.map_append, List.sum_append, ih (by omega), partS]
      congr 1
      have hb := outerN_bit M n s m
      rw [decide_eq_true (show m < n by omega), Bool.true_and] at hb
      by_cases hc : s.testBit m = false ∧ M (nOr s (bit m)) = true
      · rw [if_pos hc]
        have : (outerN M n s).testBit m = true := by rw [hb, hc.1, hc.2]; rfl
        simp [this]
      · rw [if_neg hc]
        have : (outerN M n s).testBit m = false := by
          rw [hb]
          cases h1 : s.testBit m <;> cases h2 : M (nOr s (bit m)) <;> simp_all
        simp [this]
  have ext : ∀ d, (List.range (n + d)).filter (fun i => (outerN M n s).testBit i) = (List.range n).filter fun i => (outerN M n s).testBit i := by
    intro d
    induction d with
    | zero => rfl
    | succ d ih =>
      rw [← Nat.add_assoc, List.range_succ, List.filter_append, ih]
      have : (outerN M n s).testBit (n + d) = false := by rw [outerN_bit, decide_eq_false (by omega), Bool.false_and]
      simp [this]
  rw [waysF, itemsN]
  have := ext (7 - n)
  rw [show n + (7 - n) = 7 by omega] at this
  rw [this]
  exact key n (Nat.le_refl _)
theorem wrap_add (x y : Int) : IntKind.wrap .i64 (IntKind.wrap .i64 x + IntKind.wrap .i64 y) = IntKind.wrap .i64 (x + y) := by
  rw [wrap_eq (IntKind.wrap .i64 x + IntKind.wrap .i64 y), wrap_eq x, wrap_eq y, wrap_eq (x + y)]
  split <;> split <;> split <;> split <;> omega
theorem least2_ok (h : Hp) (a b : Int) : CallOK Try.prog 194 #[.int .i64 a, .int .i64 b] h (.int .i64 (if a < b then a else b)) h := by
  refine callY_P 10 _ [.tmp 4] Try.func194 rfl rfl rfl (by first | rfl | simp) ?_
  by_cases hc : a < b
  · try simp (disch := first | omega | (simp; done) | fail) [wrap64c, if_pos, if_neg, opAnd, opOr, opXor, opDiff, opShr, opBit, hc]
    exact done_ret rfl (by simp [hc])
  · try simp (disch := first | omega | (simp; done) | fail) [wrap64c, if_pos, if_neg, opAnd, opOr, opXor, opDiff, opShr, opBit, hc]
    exact done_ret rfl (by simp [hc])
theorem zcells_2 (n : Nat) : zcells (.agg #[.int .i64 0, .int .i64 0]) n = List.replicate (n * 2) (.int .i64 0) := by
  unfold zcells
  apply List.ext_getElem
  · simp [Value.cells]
  · intro i h1 h2
    simp [Value.cells] at h1 ⊢
    have : i % 2 < 2 := Nat.mod_lt _ (by omega)
    rcases Nat.lt_or_ge (i % 2) 1 with h | h
    · simp [show i % 2 = 0 by omega]
    · simp [show i % 2 = 1 by omega]
theorem good_first {n : Nat} {xs : List Nat} (g : SpGood n xs) : ∃ h : 0 < xs.length, xs[0] = 0 := by
  have hm := g.zero
  obtain ⟨k, hk, e⟩ := List.getElem_of_mem hm
  refine ⟨by omega, ?_⟩
  by_cases h0 : k = 0
  · subst h0; exact e
  · have := List.pairwise_iff_getElem.1 g.srt 0 k (by omega) hk (by omega)
    omega
theorem good_last {n : Nat} {xs : List Nat} (g : SpGood n xs) : ∃ h : xs.length - 1 < xs.length, xs[xs.length - 1] = bit n - 1 := by
  obtain ⟨k, hk, e⟩ := List.getElem_of_mem g.full
  refine ⟨by omega, ?_⟩
  have hl := g.lt _ (List.getElem_mem (show xs.length - 1 < xs.length by omega))
  by_cases h0 : k = xs.length - 1
  · subst h0; exact e
  · have := List.pairwise_iff_getElem.1 g.srt k (xs.length - 1) hk (by omega) (by omega)
    omega
def partL (f : Nat → Int) (M : Nat → Bool) (c : Nat → Nat → Int) (s : Nat) : Nat → Int
  | 0 => 10000
  | i + 1 => if s.testBit i = false ∧ M (nOr s (bit i)) = true then (if partL f M c s i < (if f (nOr s (bit i)) < c s i then c s i else f (nOr s (bit i))) then partL f M c s i else (if f (nOr s (bit i)) < c s i then c s i else f (nOr s (bit i)))) else partL f M c s i
def lowF (M : Nat → Bool) (n : Nat) (c : Nat → Nat → Int) : Nat → Nat → Int
  | 0, _ => -10000
  | k + 1, s => partL (lowF M n c k) M c s n
def Tab (M : Nat → Bool) (n : Nat) (c : Nat → Nat → Int) (lim : Int) (xs : List Nat) (q : Nat) (cs : List Value) : Prop :=
  cs.length = xs.length * 2 ∧ ∀ i (hi : i < xs.length), q ≤ i → cs[i * 2]? = some (.int .i64 (lowF M n c (n - pcN xs[i]) xs[i])) ∧ cs[i * 2 + 1]? = some (.int .i64 (IntKind.wrap .i64 (waysF M n c lim (n - pcN xs[i]) xs[i] : Int)))
theorem Tab.put {M : Nat → Bool} {n : Nat} {c : Nat → Nat → Int} {lim : Int} {xs : List Nat} {q : Nat} {cs : List Value} (ht : Tab M n c lim xs (q + 1) cs) (hq : q < xs.length) (a w : Int) (ha : a = lowF M n c (n - pcN xs[q]) xs[q]) (hw : w = IntKind.wrap .i64 (waysF M n c lim (n - pcN xs[q]) xs[q] : Int)) :
    Tab M n c lim xs q (putCells cs (q * 2) [.int .i64 a, .int .i64 w]) := by
  have hl : (cs.take (q * 2)).length = q * 2 := by rw [List.length_take]; have := ht.1; omega
  refine ⟨by rw [putCells_length (by simp; have := ht.1; omega)]; exact ht.1, fun i hi hqi => ?_⟩
  by_cases e : i = q
  · subst e
    refine ⟨?_, ?_⟩
    · unfold putCells; rw [List.getElem?_append_right (by omega), hl, ← ha]; simp
    · unfold putCells; rw [List.getElem?_append_right (by omega), hl, show i * 2 + 1 - i * 2 = 1 by omega, ← hw]; simp
  · have := ht.2 i hi (by omega)
    have hp : ∀ x, q * 2 + 2 ≤ x → (putCells cs (q * 2) [.int .i64 a, .int .i64 w])[x]? = cs[x]? := fun x hx => by
      unfold putCells
      rw [List.getElem?_append_right (by omega), hl, List.getElem?_append_right (by simp; omega), List.getElem?_drop]
      congr 1; simp; omega
    rw [hp _ (by omega), hp _ (by omega)]
    exact this
end Go.Proofs.Ytnncipcldbopgaa
namespace Go.Proofs.Ytnncipcldbopgaa
set_option linter.unusedSimpArgs false
set_option linter.unusedVariables false
set_option maxHeartbeats 4000000
open Go Go.Eng
attribute [local irreducible] WD RunD PreD Runs CallOK
theorem tab_init {n : Nat} {xs : List Nat} (g : SpGood n xs) (c : Nat → Nat → Int) (lim : Int) : Tab (fam xs) n c lim xs (xs.length - 1) (List.replicate ((xs.length - 1) * 2) (.int .i64 0) ++ [.int .i64 (-10000), .int .i64 1]) := by
  obtain ⟨hl1, hlast⟩ := good_last g
  refine ⟨by simp; omega, fun i hi hq => ?_⟩
  have : i = xs.length - 1 := by omega
  subst this
  refine ⟨by rw [hlast, pcN_full g.n7, Nat.sub_self]; simp [lowF], ?_⟩
  rw [List.getElem?_append_right (by simp), hlast, pcN_full g.n7, Nat.sub_self]
  simp [waysF]
  decide
def addN (M : Nat → Bool) (n : Nat) (c : Nat → Nat → Int) (lim : Int) (k s i : Nat) (b : Bool) : Nat := if s.testBit i = false ∧ b = true then (if c s i ≤ lim then waysF M n c lim k (nOr s (bit i)) else 0) else 0
theorem wrap_zero : IntKind.wrap .i64 0 = 0 := by decide
theorem tab_before {n : Nat} {xs : List Nat} (g : SpGood n xs) (c : Nat → Nat → Int) (lim : Int) (kk i : Nat) {s q : Nat} (hq : q - 1 < xs.length) (h0 : 0 < q) (hs : s = xs[q - 1]) : addN (fam xs) n c lim kk s i (decide (nOr s (bit i) ∈ xs.take q)) = 0 := by
  unfold addN
  cases hb : s.testBit i
  · rw [if_neg]
    rintro ⟨-, hm⟩
    rw [decide_eq_true_eq] at hm
    obtain ⟨x, hx, e⟩ := List.getElem_of_mem hm
    rw [List.getElem_take] at e
    have hx2 : x < q := by simp at hx; omega
    have h1 : s < nOr s (bit i) := by
      have h2 : s ≤ nOr s (bit i) := Nat.left_le_or
      have h3 : s ≠ nOr s (bit i) := fun e => by
        have : (nOr s (bit i)).testBit i = true := by rw [nOr_bit, bit_bit]; simp
        rw [← e, hb] at this; cases this
      omega
    rcases Nat.lt_or_ge x (q - 1) with h | h
    · have := List.pairwise_iff_getElem.1 g.srt x (q - 1) (by omega) hq h
      omega
    · have : x = q - 1 := by omega
      subst this
      omega
  · simp
theorem tab_none {n : Nat} {xs : List Nat} (g : SpGood n xs) (i : Nat) {s q : Nat} (hq : q - 1 < xs.length) (h0 : 0 < q) (hs : s = xs[q - 1]) : ¬ (s.testBit i = false ∧ nOr s (bit i) ∈ xs.take q) := by
  rintro ⟨hb, hm⟩
  obtain ⟨x, hx, e⟩ := List.getElem_of_mem hm
  rw [List.getElem_take] at e
  have hx2 : x < q := by simp at hx; omega
  have h1 : s < nOr s (bit i) := by
    have h2 : s ≤ nOr s (bit i) := Nat.left_le_or
    have h3 : s ≠ nOr s (bit i) := fun e => by
      have : (nOr s (bit i)).testBit i = true := by rw [nOr_bit, bit_bit]; simp
      rw [← e, hb] at this; cases this
    omega
  rcases Nat.lt_or_ge x (q - 1) with h | h
  · have := List.pairwise_iff_getElem.1 g.srt x (q - 1) (by omega) hq h
    omega
  · have : x = q - 1 := by omega
    subst this
    omega
theorem grTable_ok (h : Hp) (v w : Value) (n : Nat) (xs : List Nat) (L : List Job) (lim : Int) (hv : Space h v n (toN xs)) (hw : Jobs h w L) (g : SpGood n xs) (gj : JobsOK L) (hn : L.length = n) :
    ∃ v' h', CallOK Try.prog 205 #[v, w, .int .i64 lim] h v' h' ∧ Adds h h' ∧ ∃ o cs, v' = .slice (some ⟨o, 0, none⟩) xs.length xs.length ∧ o < h'.next ∧ h'.get o = .cells cs true true 2 ∧ Tab (fam xs) n (costN L) lim xs 0 cs := by
  have n7 := g.n7
  have n1 := g.n1
  have hb7 := bit7 n7
  have hlx := g.len7
  obtain ⟨hl0, hfirst⟩ := good_first g
  obtain ⟨hl1, hlast⟩ := good_last g
  have hz := zcells_2 xs.length
  refine callY_L (args := [v, w, .int .i64 lim]) 101 _ [.tmp 6] Try.func205 rfl rfl rfl ?_
  obtain ⟨b, rfl, hX⟩ := hv
  have ntw := hw.nt
  have csw := hw.cs
  have hL := hX.lenD
  have htl : (toN xs).length = xs.length := toN_length xs
  have hwr1 : ((xs.length : Int) - 1).toNat = xs.length - 1 := by omega
  have hi1 : ((xs.length : Int) - 1) = ((xs.length - 1 : Nat) : Int) := by omega
  try simp (disch := first | omega | (simp; done) | fail) [wrap64c, if_pos, if_neg, opAnd, opOr, opXor, opDiff, opShr, opBit, hz, ntw, csw, hL, htl, hwr1, hi1, putCells]
  refine WD_loopC [1, 2, 3, 7] (fun m tm h' => ∃ q cs, m = q + 0 * xs.length ∧ tm 8 = .int .i64 ((q : Int) - 1) ∧ (q ≤ xs.length - 1) ∧ (Adds h h') ∧ (h.next + 2 ≤ h'.next) ∧ (h'.get h.next = .cells [.int .i64 (n : Int), b] true true 1) ∧ (h'.get (h.next + 1) = .cells cs true true 2) ∧ (Tab (fam xs) n (costN L) lim xs q cs)) _ ⟨xs.length - 1, _, rfl, (by simp; omega), (by first | omega | assumption | (simp (disch := first | omega | (simp; done) | fail) [wrap64c, if_pos, if_neg, opAnd, opOr, opXor, opDiff, opShr, opBit, hz, ntw, csw, hL, htl, hwr1, hi1] <;> omega)), (by first | exact aK | exact kK), (by simp), (by simp), (by simp), (tab_init g _ _)⟩ ?_
  rintro m tm h' hFr ⟨q, cs, rfl, e8, hq, ha, hn1, hs, hg, ht⟩
  simp only [FrameL] at hFr
  obtain ⟨f1_0, f2_0, f3_0, f7_0, -⟩ := hFr
  try simp (disch := first | omega | (simp; done) | fail) [wrap64c, if_pos, if_neg, opAnd, opOr, opXor, opDiff, opShr, opBit, hz, ntw, csw, hL, htl, hwr1, hi1] at f1_0 f2_0 f3_0 f7_0
  have e1 := f1_0
  have e2 := f2_0
  have e3 := f3_0
  have e7 := f7_0
  rename Hp => hq0
  have hcs := ht.1
  by_cases hlt : 0 < q
  · have hge : (0 : Int) ≤ (q : Int) - 1 := by omega
    have hX1 := hX.keep ha.1
    have hw1 := hw.keep ha.1
    have hLw := hw1.lenD
    have hgt := toN_get xs
    obtain ⟨o_x, i_x, c_x, cs_x, own_x, ex_x, es_x, q_x, b_x, g_x, l_x, r_x⟩ := hX1.open ((by simp; omega))
    have z_x : ∀ h2 : i_x < cs_x.length, cs_x[i_x] = _ := fun h2 => r_x 0 ((by simp; omega)) h2
    have hi2 : ((q : Int) - 1) = ((q - 1 : Nat) : Int) := by omega
    have hqx : q - 1 < xs.length := by omega
    obtain ⟨s, hsd⟩ : ∃ s, s = xs[q - 1] := ⟨_, rfl⟩
    have hsd2 := hsd.symm
    have hs128 : s < 128 := by rw [hsd]; exact g.lt7 _ (List.getElem_mem hqx)
    have hsb : s < bit n := by rw [hsd]; exact g.lt _ (List.getElem_mem hqx)
    have hsn : pcN s < n := by
      have h1 := pcN_lt n7 hsb
      rcases Nat.lt_or_ge (pcN s) n with h | h
      · exact h
      · have h2 := h1.2 (by omega)
        have h3 := List.pairwise_iff_getElem.1 g.srt (q - 1) (xs.length - 1) hqx hl1 (by omega)
        omega
    obtain ⟨kk, hkk⟩ : ∃ kk, kk = n - pcN s - 1 := ⟨_, rfl⟩
    have hLn : (L.length : Int) = (n : Int) := by omega
    try simp (disch := first | omega | (simp; done) | fail) [wrap64c, if_pos, if_neg, opAnd, opOr, opXor, opDiff, opShr, opBit, hz, ntw, csw, hL, htl, hwr1, hi1, e1, e2, e3, e7, e8, hs, hg, hcs, hge, hLw, hgt, q_x, g_x, l_x, r_x, z_x, hi2, hqx, hsd2, hLn, putCells]
    obtain ⟨pl, hpl⟩ : ∃ f : Nat → Int, f = partL (lowF (fam xs) n (costN L) kk) (fam xs) (costN L) s := ⟨_, rfl⟩
    have hpl0 : pl 0 = 10000 := by rw [hpl]; rfl
    refine WD_loopC [1, 2, 3, 7, 8, 9, 10, 39] (fun m tm h' => ∃ i, m = n - i ∧ tm 40 = .int .i64 (i : Int) ∧ (i ≤ n) ∧ (Adds hq0 h') ∧ (h'.next = hq0.next + 1) ∧ (h'.get hq0.next = .cells [.int .i64 (pl i), .int .i64 (IntKind.wrap .i64 (partS (fam xs) n (costN L) lim kk s i : Int))] true true 1)) _ ⟨0, rfl, (by simp (disch := first | omega | (simp; done) | fail) [wrap64c, if_pos, if_neg, opAnd, opOr, opXor, opDiff, opShr, opBit, hz, ntw, csw, hL, htl, hwr1, hi1, e1, e2, e3, e7, e8, hs, hg, hcs, hge, hLw, hgt, q_x, g_x, l_x, r_x, z_x, hi2, hqx, hsd2, hLn]), (by first | omega | assumption | (simp (disch := first | omega | (simp; done) | fail) [wrap64c, if_pos, if_neg, opAnd, opOr, opXor, opDiff, opShr, opBit, hz, ntw, csw, hL, htl, hwr1, hi1, e1, e2, e3, e7, e8, hs, hg, hcs, hge, hLw, hgt, q_x, g_x, l_x, r_x, z_x, hi2, hqx, hsd2, hLn] <;> omega)), (by first | exact aK | exact kK), (by simp), (by simp [partS, wrap_zero, hpl0])⟩ ?_
    rintro m tm h' hFr ⟨i, rfl, e40, hi, hk, hn2, hp⟩
    simp only [FrameL] at hFr
    obtain ⟨f1_1, f2_1, f3_1, f7_1, f8_1, f9_1, f10_1, f39_1, -⟩ := hFr
    try simp (disch := first | omega | (simp; done) | fail) [wrap64c, if_pos, if_neg, opAnd, opOr, opXor, opDiff, opShr, opBit, hz, ntw, csw, hL, htl, hwr1, hi1, e1, e2, e3, e7, e8, hs, hg, hcs, hge, hLw, hgt, q_x, g_x, l_x, r_x, z_x, hi2, hqx, hsd2, hLn] at f1_1 f2_1 f3_1 f7_1 f8_1 f9_1 f10_1 f39_1
    have e1 := f1_1
    have e2 := f2_1
    have e3 := f3_1
    have e7 := f7_1
    have e8 := f8_1
    have e9 := f9_1
    have e10 := f10_1
    have e39 := f39_1
    rename Hp => hq1
    have ha1 := ha.trans hk
    have hs1 : hq1.get h.next = .cells [.int .i64 (n : Int), b] true true 1 := by rw [hk.1.2 _ (by omega)]; exact hs
    have hg1 : hq1.get (h.next + 1) = .cells cs true true 2 := by rw [hk.1.2 _ (by omega)]; exact hg
    by_cases hli : i < n
    · have hbi := bit_lt7 (i := i) (by omega)
      have hor := nOr128 (a := s) (b := bit i) hs128 (by omega)
      have hst := tab_before g (costN L) lim kk i hqx hlt hsd
      have htn := tab_none g i hqx hlt hsd
      try simp (disch := first | omega | (simp; done) | fail) [wrap64c, if_pos, if_neg, opAnd, opOr, opXor, opDiff, opShr, opBit, hz, ntw, csw, hL, htl, hwr1, hi1, e1, e2, e3, e7, e8, hs, hg, hcs, hge, hLw, hgt, q_x, g_x, l_x, r_x, z_x, hi2, hqx, hsd2, hLn, e9, e10, e39, e40, hp, hg1, hli]
      refine WD_loopC [1, 2, 3, 7, 8, 9, 10, 11, 39, 40] (fun m tm h' => ∃ j a2, m = xs.length - j ∧ tm 12 = .int .i64 (j : Int) ∧ (q ≤ j ∧ j ≤ xs.length) ∧ (Adds hq0 h') ∧ (h'.next = hq0.next + 1) ∧ (a2 = if s.testBit i = false ∧ nOr s (bit i) ∈ xs.take j then pl (i + 1) else pl i) ∧ (h'.get hq0.next = .cells [.int .i64 a2, .int .i64 (IntKind.wrap .i64 ((partS (fam xs) n (costN L) lim kk s i : Int) + (addN (fam xs) n (costN L) lim kk s i (decide (nOr s (bit i) ∈ xs.take j)) : Int)))] true true 1)) _ ⟨q, pl i, rfl, (by simp; omega), (by first | omega | assumption | (simp (disch := first | omega | (simp; done) | fail) [wrap64c, if_pos, if_neg, opAnd, opOr, opXor, opDiff, opShr, opBit, hz, ntw, csw, hL, htl, hwr1, hi1, e1, e2, e3, e7, e8, hs, hg, hcs, hge, hLw, hgt, q_x, g_x, l_x, r_x, z_x, hi2, hqx, hsd2, hLn, e9, e10, e39, e40, hp, hg1, hli] <;> omega)), hk, hn2, (by rw [if_neg htn]), (by rw [hp, hst]; simp)⟩ ?_
      rintro m tm h' hFr ⟨j, a2, rfl, e12, hj, hk2, hn3, ha2, hp2⟩
      simp only [FrameL] at hFr
      obtain ⟨f1_2, f2_2, f3_2, f7_2, f8_2, f9_2, f10_2, f11_2, f39_2, f40_2, -⟩ := hFr
      try simp (disch := first | omega | (simp; done) | fail) [wrap64c, if_pos, if_neg, opAnd, opOr, opXor, opDiff, opShr, opBit, hz, ntw, csw, hL, htl, hwr1, hi1, e1, e2, e3, e7, e8, hs, hg, hcs, hge, hLw, hgt, q_x, g_x, l_x, r_x, z_x, hi2, hqx, hsd2, hLn, e9, e10, e39, e40, hp, hg1, hli] at f1_2 f2_2 f3_2 f7_2 f8_2 f9_2 f10_2 f11_2 f39_2 f40_2
      have e1 := f1_2
      have e2 := f2_2
      have e3 := f3_2
      have e7 := f7_2
      have e8 := f8_2
      have e9 := f9_2
      have e10 := f10_2
      have e11 := f11_2
      have e39 := f39_2
      have e40 := f40_2
      rename Hp => hq2
      have hs2 : hq2.get h.next = .cells [.int .i64 (n : Int), b] true true 1 := by rw [hk2.1.2 _ (by omega)]; exact hs
      have hg2 : hq2.get (h.next + 1) = .cells cs true true 2 := by rw [hk2.1.2 _ (by omega)]; exact hg
      have gx2 : hq2.get o_x = .cells cs_x own_x ex_x es_x := by rw [hk2.1.2 _ b_x]; exact g_x
      have hw3 := hw1.keep hk2.1
      obtain ⟨wX, hwX⟩ : ∃ wX, wX = IntKind.wrap .i64 ((partS (fam xs) n (costN L) lim kk s i : Int) + (addN (fam xs) n (costN L) lim kk s i (decide (nOr s (bit i) ∈ xs.take j)) : Int)) := ⟨_, rfl⟩
      rw [← hwX] at hp2
      by_cases hlj : j < xs.length
      · obtain ⟨t1, t2⟩ := ht.2 j hlj hj.1
        obtain ⟨aj, haj⟩ : ∃ x, x = lowF (fam xs) n (costN L) (n - pcN xs[j]) xs[j] := ⟨_, rfl⟩
        rw [← haj] at t1
        obtain ⟨wY, hwY⟩ : ∃ wY, wY = IntKind.wrap .i64 (waysF (fam xs) n (costN L) lim (n - pcN xs[j]) xs[j] : Int) := ⟨_, rfl⟩
        rw [← hwY] at t2
        have hj2 : j * 2 < cs.length := by omega
        have hj3 : j * 2 + 1 < cs.length := by omega
        have g5 : ∀ h2 : j * 2 < cs.length, cs[j * 2] = .int .i64 aj := fun h2 => (List.getElem?_eq_some_iff.1 t1).2
        have g6 : ∀ h2 : j * 2 + 1 < cs.length, cs[j * 2 + 1] = .int .i64 wY := fun h2 => (List.getElem?_eq_some_iff.1 t2).2
        have htk : xs.take (j + 1) = xs.take j ++ [xs[j]] := List.take_succ_eq_append_getElem hlj
        try simp (disch := first | omega | (simp; done) | fail) [wrap64c, if_pos, if_neg, opAnd, opOr, opXor, opDiff, opShr, opBit, hz, ntw, csw, hL, htl, hwr1, hi1, e1, e2, e3, e7, e8, hs, hg, hcs, hge, hLw, hgt, q_x, g_x, l_x, r_x, z_x, hi2, hqx, hsd2, hLn, e9, e10, e39, e40, hp, hg1, hli, e11, e12, hp2, hs2, hg2, gx2, hlj, hj2, hj3, g5, g6]
        refine WD_drawC 14 rfl (by kernel_rfl) ?_
        try simp (disch := first | omega | (simp; done) | fail) [wrap64c, if_pos, if_neg, opAnd, opOr, opXor, opDiff, opShr, opBit, hz, ntw, csw, hL, htl, hwr1, hi1, e1, e2, e3, e7, e8, hs, hg, hcs, hge, hLw, hgt, q_x, g_x, l_x, r_x, z_x, hi2, hqx, hsd2, hLn, e9, e10, e39, e40, hp, hg1, hli, e11, e12, hp2, hs2, hg2, gx2, hlj, hj2, hj3, g5, g6]
        refine callP_c (by simp) (by simp) ?ha (spIn_ok hq2 s i (by omega) (by omega)) ?hadd ?_
        (case ha => simp (disch := first | omega | (simp; done) | fail) [wrap64c, if_pos, if_neg, opAnd, opOr, opXor, opDiff, opShr, opBit, hz, ntw, csw, hL, htl, hwr1, hi1, e1, e2, e3, e7, e8, hs, hg, hcs, hge, hLw, hgt, q_x, g_x, l_x, r_x, z_x, hi2, hqx, hsd2, hLn, e9, e10, e39, e40, hp, hg1, hli, e11, e12, hp2, hs2, hg2, gx2, hlj, hj2, hj3, g5, g6])
        (case hadd => first | assumption | exact adds_self _ | (simp; done))
        cases hb : s.testBit i
        · by_cases he : xs[j] = nOr s (bit i)
          · have hno : ¬ nOr s (bit i) ∈ xs.take j := fun hm => by
              obtain ⟨x, hx, e⟩ := List.getElem_of_mem hm
              rw [List.getElem_take] at e
              have := List.pairwise_iff_getElem.1 g.srt x j (by simp at hx; omega) hlj (by simp at hx; omega)
              omega
            have hpc : n - pcN (nOr s (bit i)) = kk := by rw [pcN_or hs128 (by omega) hb, hkk]; omega
            rw [he, hpc] at hwY haj
            have ha3 : a2 = pl i := by rw [ha2, if_neg (fun h => hno h.2)]
            have hfm : fam xs (nOr s (bit i)) = true := by unfold fam; rw [← he]; exact decide_eq_true (List.getElem_mem hlj)
            have hpn : pl (i + 1) = if a2 < (if aj < costN L s i then costN L s i else aj) then a2 else if aj < costN L s i then costN L s i else aj := by
              rw [ha3, haj, hpl]; simp only [partL]; rw [if_pos ⟨hb, hfm⟩]
            have hin : nOr s (bit i) ∈ xs.take (j + 1) := by rw [htk, he]; simp
            try simp (disch := first | omega | (simp; done) | fail) [wrap64c, if_pos, if_neg, opAnd, opOr, opXor, opDiff, opShr, opBit, hz, ntw, csw, hL, htl, hwr1, hi1, e1, e2, e3, e7, e8, hs, hg, hcs, hge, hLw, hgt, q_x, g_x, l_x, r_x, z_x, hi2, hqx, hsd2, hLn, e9, e10, e39, e40, hp, hg1, hli, e11, e12, hp2, hs2, hg2, gx2, hlj, hj2, hj3, g5, g6, hb, he]
            refine callG_c (by simp) (by simp) ?ha (grCost_ok hq2 w L s i hw3 gj hs128 (by omega)) ?_
            (case ha => simp (disch := first | omega | (simp; done) | fail) [wrap64c, if_pos, if_neg, opAnd, opOr, opXor, opDiff, opShr, opBit, hz, ntw, csw, hL, htl, hwr1, hi1, e1, e2, e3, e7, e8, hs, hg, hcs, hge, hLw, hgt, q_x, g_x, l_x, r_x, z_x, hi2, hqx, hsd2, hLn, e9, e10, e39, e40, hp, hg1, hli, e11, e12, hp2, hs2, hg2, gx2, hlj, hj2, hj3, g5, g6, hb, he])
            try simp (disch := first | omega | (simp; done) | fail) [wrap64c, if_pos, if_neg, opAnd, opOr, opXor, opDiff, opShr, opBit, hz, ntw, csw, hL, htl, hwr1, hi1, e1, e2, e3, e7, e8, hs, hg, hcs, hge, hLw, hgt, q_x, g_x, l_x, r_x, z_x, hi2, hqx, hsd2, hLn, e9, e10, e39, e40, hp, hg1, hli, e11, e12, hp2, hs2, hg2, gx2, hlj, hj2, hj3, g5, g6, hb, he]
            refine WD_drawC 9 rfl (by kernel_rfl) ?_
            try simp (disch := first | omega | (simp; done) | fail) [wrap64c, if_pos, if_neg, opAnd, opOr, opXor, opDiff, opShr, opBit, hz, ntw, csw, hL, htl, hwr1, hi1, e1, e2, e3, e7, e8, hs, hg, hcs, hge, hLw, hgt, q_x, g_x, l_x, r_x, z_x, hi2, hqx, hsd2, hLn, e9, e10, e39, e40, hp, hg1, hli, e11, e12, hp2, hs2, hg2, gx2, hlj, hj2, hj3, g5, g6, hb, he]
            refine callP_c (by simp) (by simp) ?ha (most2_ok hq2 (costN L s i) aj) ?hadd ?_
            (case ha => simp (disch := first | omega | (simp; done) | fail) [wrap64c, if_pos, if_neg, opAnd, opOr, opXor, opDiff, opShr, opBit, hz, ntw, csw, hL, htl, hwr1, hi1, e1, e2, e3, e7, e8, hs, hg, hcs, hge, hLw, hgt, q_x, g_x, l_x, r_x, z_x, hi2, hqx, hsd2, hLn, e9, e10, e39, e40, hp, hg1, hli, e11, e12, hp2, hs2, hg2, gx2, hlj, hj2, hj3, g5, g6, hb, he])
            (case hadd => first | assumption | exact adds_self _ | (simp; done))
            try simp (disch := first | omega | (simp; done) | fail) [wrap64c, if_pos, if_neg, opAnd, opOr, opXor, opDiff, opShr, opBit, hz, ntw, csw, hL, htl, hwr1, hi1, e1, e2, e3, e7, e8, hs, hg, hcs, hge, hLw, hgt, q_x, g_x, l_x, r_x, z_x, hi2, hqx, hsd2, hLn, e9, e10, e39, e40, hp, hg1, hli, e11, e12, hp2, hs2, hg2, gx2, hlj, hj2, hj3, g5, g6, hb, he]
            refine callG_c (by simp) (by simp) ?ha (least2_ok hq2 a2 (if aj < costN L s i then costN L s i else aj)) ?_
            (case ha => simp (disch := first | omega | (simp; done) | fail) [wrap64c, if_pos, if_neg, opAnd, opOr, opXor, opDiff, opShr, opBit, hz, ntw, csw, hL, htl, hwr1, hi1, e1, e2, e3, e7, e8, hs, hg, hcs, hge, hLw, hgt, q_x, g_x, l_x, r_x, z_x, hi2, hqx, hsd2, hLn, e9, e10, e39, e40, hp, hg1, hli, e11, e12, hp2, hs2, hg2, gx2, hlj, hj2, hj3, g5, g6, hb, he])
            by_cases hle : costN L s i ≤ lim
            · try simp (disch := first | omega | (simp; done) | fail) [wrap64c, if_pos, if_neg, opAnd, opOr, opXor, opDiff, opShr, opBit, hz, ntw, csw, hL, htl, hwr1, hi1, e1, e2, e3, e7, e8, hs, hg, hcs, hge, hLw, hgt, q_x, g_x, l_x, r_x, z_x, hi2, hqx, hsd2, hLn, e9, e10, e39, e40, hp, hg1, hli, e11, e12, hp2, hs2, hg2, gx2, hlj, hj2, hj3, g5, g6, hb, he, hle, putCells]
              refine WD_drawC 7 rfl (by kernel_rfl) ?_
              try simp (disch := first | omega | (simp; done) | fail) [wrap64c, if_pos, if_neg, opAnd, opOr, opXor, opDiff, opShr, opBit, hz, ntw, csw, hL, htl, hwr1, hi1, e1, e2, e3, e7, e8, hs, hg, hcs, hge, hLw, hgt, q_x, g_x, l_x, r_x, z_x, hi2, hqx, hsd2, hLn, e9, e10, e39, e40, hp, hg1, hli, e11, e12, hp2, hs2, hg2, gx2, hlj, hj2, hj3, g5, g6, hb, he, hle, putCells]
              have hsum : IntKind.wrap .i64 (wX + wY) = IntKind.wrap .i64 ((partS (fam xs) n (costN L) lim kk s i : Int) + (addN (fam xs) n (costN L) lim kk s i (decide (nOr s (bit i) ∈ xs.take (j + 1))) : Int)) := by
                rw [hwX, hwY, wrap_add, htk, he]
                congr 1
                simp [hno, addN, hle, hb, -List.take_append_getElem]
              refine loopK_next _ ?hm ?hf ⟨j + 1, (if a2 < (if aj < costN L s i then costN L s i else aj) then a2 else if aj < costN L s i then costN L s i else aj), rfl, (by simp (disch := first | omega | (simp; done) | fail) [wrap64c, if_pos, if_neg, opAnd, opOr, opXor, opDiff, opShr, opBit, hz, ntw, csw, hL, htl, hwr1, hi1, e1, e2, e3, e7, e8, hs, hg, hcs, hge, hLw, hgt, q_x, g_x, l_x, r_x, z_x, hi2, hqx, hsd2, hLn, e9, e10, e39, e40, hp, hg1, hli, e11, e12, hp2, hs2, hg2, gx2, hlj, hj2, hj3, g5, g6, hb, he, hle] <;> omega), (by first | omega | assumption | (simp (disch := first | omega | (simp; done) | fail) [wrap64c, if_pos, if_neg, opAnd, opOr, opXor, opDiff, opShr, opBit, hz, ntw, csw, hL, htl, hwr1, hi1, e1, e2, e3, e7, e8, hs, hg, hcs, hge, hLw, hgt, q_x, g_x, l_x, r_x, z_x, hi2, hqx, hsd2, hLn, e9, e10, e39, e40, hp, hg1, hli, e11, e12, hp2, hs2, hg2, gx2, hlj, hj2, hj3, g5, g6, hb, he, hle] <;> omega)), (by first | exact aK | exact kK), (by simpa using hn3), (by rw [← hpn]; exact (if_pos ⟨by first | rfl | exact hb, hin⟩).symm), (by rw [← hsum]; simp)⟩
              (case hm => first | omega | (simp; omega))
              (case hf => simp [FrameL, hz, ntw, csw, hL, htl, hwr1, hi1, e1, e2, e3, e7, e8, hs, hg, hcs, hge, hLw, hgt, q_x, g_x, l_x, r_x, z_x, hi2, hqx, hsd2, hLn, e9, e10, e39, e40, hp, hg1, hli, e11, e12, hp2, hs2, hg2, gx2, hlj, hj2, hj3, g5, g6, hb, he, hle, f1_2, f2_2, f3_2, f7_2, f8_2, f9_2, f10_2, f11_2, f39_2, f40_2])
            · have hsame : wX = IntKind.wrap .i64 ((partS (fam xs) n (costN L) lim kk s i : Int) + (addN (fam xs) n (costN L) lim kk s i (decide (nOr s (bit i) ∈ xs.take (j + 1))) : Int)) := by
                rw [hwX, htk, he]
                congr 1
                simp [hno, addN, hle, hb, -List.take_append_getElem]
              try simp (disch := first | omega | (simp; done) | fail) [wrap64c, if_pos, if_neg, opAnd, opOr, opXor, opDiff, opShr, opBit, hz, ntw, csw, hL, htl, hwr1, hi1, e1, e2, e3, e7, e8, hs, hg, hcs, hge, hLw, hgt, q_x, g_x, l_x, r_x, z_x, hi2, hqx, hsd2, hLn, e9, e10, e39, e40, hp, hg1, hli, e11, e12, hp2, hs2, hg2, gx2, hlj, hj2, hj3, g5, g6, hb, he, hle, putCells]
              refine loopK_next _ ?hm ?hf ⟨j + 1, (if a2 < (if aj < costN L s i then costN L s i else aj) then a2 else if aj < costN L s i then costN L s i else aj), rfl, (by simp (disch := first | omega | (simp; done) | fail) [wrap64c, if_pos, if_neg, opAnd, opOr, opXor, opDiff, opShr, opBit, hz, ntw, csw, hL, htl, hwr1, hi1, e1, e2, e3, e7, e8, hs, hg, hcs, hge, hLw, hgt, q_x, g_x, l_x, r_x, z_x, hi2, hqx, hsd2, hLn, e9, e10, e39, e40, hp, hg1, hli, e11, e12, hp2, hs2, hg2, gx2, hlj, hj2, hj3, g5, g6, hb, he, hle] <;> omega), (by first | omega | assumption | (simp (disch := first | omega | (simp; done) | fail) [wrap64c, if_pos, if_neg, opAnd, opOr, opXor, opDiff, opShr, opBit, hz, ntw, csw, hL, htl, hwr1, hi1, e1, e2, e3, e7, e8, hs, hg, hcs, hge, hLw, hgt, q_x, g_x, l_x, r_x, z_x, hi2, hqx, hsd2, hLn, e9, e10, e39, e40, hp, hg1, hli, e11, e12, hp2, hs2, hg2, gx2, hlj, hj2, hj3, g5, g6, hb, he, hle] <;> omega)), (by first | exact aK | exact kK), (by simpa using hn3), (by rw [← hpn]; exact (if_pos ⟨by first | rfl | exact hb, hin⟩).symm), (by rw [← hsame]; simp)⟩
              (case hm => first | omega | (simp; omega))
              (case hf => simp [FrameL, hz, ntw, csw, hL, htl, hwr1, hi1, e1, e2, e3, e7, e8, hs, hg, hcs, hge, hLw, hgt, q_x, g_x, l_x, r_x, z_x, hi2, hqx, hsd2, hLn, e9, e10, e39, e40, hp, hg1, hli, e11, e12, hp2, hs2, hg2, gx2, hlj, hj2, hj3, g5, g6, hb, he, hle, f1_2, f2_2, f3_2, f7_2, f8_2, f9_2, f10_2, f11_2, f39_2, f40_2])
          · try simp (disch := first | omega | (simp; done) | fail) [wrap64c, if_pos, if_neg, opAnd, opOr, opXor, opDiff, opShr, opBit, hz, ntw, csw, hL, htl, hwr1, hi1, e1, e2, e3, e7, e8, hs, hg, hcs, hge, hLw, hgt, q_x, g_x, l_x, r_x, z_x, hi2, hqx, hsd2, hLn, e9, e10, e39, e40, hp, hg1, hli, e11, e12, hp2, hs2, hg2, gx2, hlj, hj2, hj3, g5, g6, hb, he]
            refine loopK_next _ ?hm ?hf ⟨j + 1, a2, rfl, (by simp (disch := first | omega | (simp; done) | fail) [wrap64c, if_pos, if_neg, opAnd, opOr, opXor, opDiff, opShr, opBit, hz, ntw, csw, hL, htl, hwr1, hi1, e1, e2, e3, e7, e8, hs, hg, hcs, hge, hLw, hgt, q_x, g_x, l_x, r_x, z_x, hi2, hqx, hsd2, hLn, e9, e10, e39, e40, hp, hg1, hli, e11, e12, hp2, hs2, hg2, gx2, hlj, hj2, hj3, g5, g6, hb, he] <;> omega), (by first | omega | assumption | (simp (disch := first | omega | (simp; done) | fail) [wrap64c, if_pos, if_neg, opAnd, opOr, opXor, opDiff, opShr, opBit, hz, ntw, csw, hL, htl, hwr1, hi1, e1, e2, e3, e7, e8, hs, hg, hcs, hge, hLw, hgt, q_x, g_x, l_x, r_x, z_x, hi2, hqx, hsd2, hLn, e9, e10, e39, e40, hp, hg1, hli, e11, e12, hp2, hs2, hg2, gx2, hlj, hj2, hj3, g5, g6, hb, he] <;> omega)), (by first | omega | assumption | (simp (disch := first | omega | (simp; done) | fail) [wrap64c, if_pos, if_neg, opAnd, opOr, opXor, opDiff, opShr, opBit, hz, ntw, csw, hL, htl, hwr1, hi1, e1, e2, e3, e7, e8, hs, hg, hcs, hge, hLw, hgt, q_x, g_x, l_x, r_x, z_x, hi2, hqx, hsd2, hLn, e9, e10, e39, e40, hp, hg1, hli, e11, e12, hp2, hs2, hg2, gx2, hlj, hj2, hj3, g5, g6, hb, he] <;> omega)), (by first | omega | assumption | (simp (disch := first | omega | (simp; done) | fail) [wrap64c, if_pos, if_neg, opAnd, opOr, opXor, opDiff, opShr, opBit, hz, ntw, csw, hL, htl, hwr1, hi1, e1, e2, e3, e7, e8, hs, hg, hcs, hge, hLw, hgt, q_x, g_x, l_x, r_x, z_x, hi2, hqx, hsd2, hLn, e9, e10, e39, e40, hp, hg1, hli, e11, e12, hp2, hs2, hg2, gx2, hlj, hj2, hj3, g5, g6, hb, he] <;> omega)), (by rw [ha2, htk]; simp [hb, Ne.symm he, -List.take_append_getElem]), (by rw [hp2, hwX, htk]; simp [he, Ne.symm he, -List.take_append_getElem])⟩
            (case hm => first | omega | (simp; omega))
            (case hf => simp [FrameL, hz, ntw, csw, hL, htl, hwr1, hi1, e1, e2, e3, e7, e8, hs, hg, hcs, hge, hLw, hgt, q_x, g_x, l_x, r_x, z_x, hi2, hqx, hsd2, hLn, e9, e10, e39, e40, hp, hg1, hli, e11, e12, hp2, hs2, hg2, gx2, hlj, hj2, hj3, g5, g6, hb, he, f1_2, f2_2, f3_2, f7_2, f8_2, f9_2, f10_2, f11_2, f39_2, f40_2])
        · try simp (disch := first | omega | (simp; done) | fail) [wrap64c, if_pos, if_neg, opAnd, opOr, opXor, opDiff, opShr, opBit, hz, ntw, csw, hL, htl, hwr1, hi1, e1, e2, e3, e7, e8, hs, hg, hcs, hge, hLw, hgt, q_x, g_x, l_x, r_x, z_x, hi2, hqx, hsd2, hLn, e9, e10, e39, e40, hp, hg1, hli, e11, e12, hp2, hs2, hg2, gx2, hlj, hj2, hj3, g5, g6, hb]
          refine loopK_next _ ?hm ?hf ⟨j + 1, a2, rfl, (by simp (disch := first | omega | (simp; done) | fail) [wrap64c, if_pos, if_neg, opAnd, opOr, opXor, opDiff, opShr, opBit, hz, ntw, csw, hL, htl, hwr1, hi1, e1, e2, e3, e7, e8, hs, hg, hcs, hge, hLw, hgt, q_x, g_x, l_x, r_x, z_x, hi2, hqx, hsd2, hLn, e9, e10, e39, e40, hp, hg1, hli, e11, e12, hp2, hs2, hg2, gx2, hlj, hj2, hj3, g5, g6, hb] <;> omega), (by first | omega | assumption | (simp (disch := first | omega | (simp; done) | fail) [wrap64c, if_pos, if_neg, opAnd, opOr, opXor, opDiff, opShr, opBit, hz, ntw, csw, hL, htl, hwr1, hi1, e1, e2, e3, e7, e8, hs, hg, hcs, hge, hLw, hgt, q_x, g_x, l_x, r_x, z_x, hi2, hqx, hsd2, hLn, e9, e10, e39, e40, hp, hg1, hli, e11, e12, hp2, hs2, hg2, gx2, hlj, hj2, hj3, g5, g6, hb] <;> omega)), (by first | omega | assumption | (simp (disch := first | omega | (simp; done) | fail) [wrap64c, if_pos, if_neg, opAnd, opOr, opXor, opDiff, opShr, opBit, hz, ntw, csw, hL, htl, hwr1, hi1, e1, e2, e3, e7, e8, hs, hg, hcs, hge, hLw, hgt, q_x, g_x, l_x, r_x, z_x, hi2, hqx, hsd2, hLn, e9, e10, e39, e40, hp, hg1, hli, e11, e12, hp2, hs2, hg2, gx2, hlj, hj2, hj3, g5, g6, hb] <;> omega)), (by first | omega | assumption | (simp (disch := first | omega | (simp; done) | fail) [wrap64c, if_pos, if_neg, opAnd, opOr, opXor, opDiff, opShr, opBit, hz, ntw, csw, hL, htl, hwr1, hi1, e1, e2, e3, e7, e8, hs, hg, hcs, hge, hLw, hgt, q_x, g_x, l_x, r_x, z_x, hi2, hqx, hsd2, hLn, e9, e10, e39, e40, hp, hg1, hli, e11, e12, hp2, hs2, hg2, gx2, hlj, hj2, hj3, g5, g6, hb] <;> omega)), (by rw [ha2]; simp [hb]), (by rw [hp2, hwX]; simp [addN, hb])⟩
          (case hm => first | omega | (simp; omega))
          (case hf => simp [FrameL, hz, ntw, csw, hL, htl, hwr1, hi1, e1, e2, e3, e7, e8, hs, hg, hcs, hge, hLw, hgt, q_x, g_x, l_x, r_x, z_x, hi2, hqx, hsd2, hLn, e9, e10, e39, e40, hp, hg1, hli, e11, e12, hp2, hs2, hg2, gx2, hlj, hj2, hj3, g5, g6, hb, f1_2, f2_2, f3_2, f7_2, f8_2, f9_2, f10_2, f11_2, f39_2, f40_2])
      · have hje : j = xs.length := by omega
        try simp (disch := first | omega | (simp; done) | fail) [wrap64c, if_pos, if_neg, opAnd, opOr, opXor, opDiff, opShr, opBit, hz, ntw, csw, hL, htl, hwr1, hi1, e1, e2, e3, e7, e8, hs, hg, hcs, hge, hLw, hgt, q_x, g_x, l_x, r_x, z_x, hi2, hqx, hsd2, hLn, e9, e10, e39, e40, hp, hg1, hli, e11, e12, hp2, hs2, hg2, gx2, hlj]
        have hae : a2 = pl (i + 1) := by
          rw [hje, List.take_length] at ha2
          rw [ha2, hpl]; simp only [partL, fam, decide_eq_true_eq]
          split
          · rfl
          · rfl
        refine loopK_next _ ?hm ?hf ⟨i + 1, rfl, (by simp (disch := first | omega | (simp; done) | fail) [wrap64c, if_pos, if_neg, opAnd, opOr, opXor, opDiff, opShr, opBit, hz, ntw, csw, hL, htl, hwr1, hi1, e1, e2, e3, e7, e8, hs, hg, hcs, hge, hLw, hgt, q_x, g_x, l_x, r_x, z_x, hi2, hqx, hsd2, hLn, e9, e10, e39, e40, hp, hg1, hli, e11, e12, hp2, hs2, hg2, gx2, hlj] <;> omega), (by first | omega | assumption | (simp (disch := first | omega | (simp; done) | fail) [wrap64c, if_pos, if_neg, opAnd, opOr, opXor, opDiff, opShr, opBit, hz, ntw, csw, hL, htl, hwr1, hi1, e1, e2, e3, e7, e8, hs, hg, hcs, hge, hLw, hgt, q_x, g_x, l_x, r_x, z_x, hi2, hqx, hsd2, hLn, e9, e10, e39, e40, hp, hg1, hli, e11, e12, hp2, hs2, hg2, gx2, hlj] <;> omega)), (by first | omega | assumption | (simp (disch := first | omega | (simp; done) | fail) [wrap64c, if_pos, if_neg, opAnd, opOr, opXor, opDiff, opShr, opBit, hz, ntw, csw, hL, htl, hwr1, hi1, e1, e2, e3, e7, e8, hs, hg, hcs, hge, hLw, hgt, q_x, g_x, l_x, r_x, z_x, hi2, hqx, hsd2, hLn, e9, e10, e39, e40, hp, hg1, hli, e11, e12, hp2, hs2, hg2, gx2, hlj] <;> omega)), (by first | omega | assumption | (simp (disch := first | omega | (simp; done) | fail) [wrap64c, if_pos, if_neg, opAnd, opOr, opXor, opDiff, opShr, opBit, hz, ntw, csw, hL, htl, hwr1, hi1, e1, e2, e3, e7, e8, hs, hg, hcs, hge, hLw, hgt, q_x, g_x, l_x, r_x, z_x, hi2, hqx, hsd2, hLn, e9, e10, e39, e40, hp, hg1, hli, e11, e12, hp2, hs2, hg2, gx2, hlj] <;> omega)), (by rw [hp2, hwX, hje, List.take_length, hae]; simp [partS, addN, fam])⟩
        (case hm => first | omega | (simp; omega))
        (case hf => simp [FrameL, hz, ntw, csw, hL, htl, hwr1, hi1, e1, e2, e3, e7, e8, hs, hg, hcs, hge, hLw, hgt, q_x, g_x, l_x, r_x, z_x, hi2, hqx, hsd2, hLn, e9, e10, e39, e40, hp, hg1, hli, e11, e12, hp2, hs2, hg2, gx2, hlj, f1_1, f2_1, f3_1, f7_1, f8_1, f9_1, f10_1, f39_1])
    · have hie : i = n := by omega
      try simp (disch := first | omega | (simp; done) | fail) [wrap64c, if_pos, if_neg, opAnd, opOr, opXor, opDiff, opShr, opBit, hz, ntw, csw, hL, htl, hwr1, hi1, e1, e2, e3, e7, e8, hs, hg, hcs, hge, hLw, hgt, q_x, g_x, l_x, r_x, z_x, hi2, hqx, hsd2, hLn, e9, e10, e39, e40, hp, hg1, hli]
      refine loopK_next _ ?hm ?hf ⟨q - 1, putCells cs ((q - 1) * 2) [.int .i64 (pl i), .int .i64 (IntKind.wrap .i64 (partS (fam xs) n (costN L) lim kk s i : Int))], rfl, (by simp <;> omega), (by first | omega | assumption | (simp (disch := first | omega | (simp; done) | fail) [wrap64c, if_pos, if_neg, opAnd, opOr, opXor, opDiff, opShr, opBit, hz, ntw, csw, hL, htl, hwr1, hi1, e1, e2, e3, e7, e8, hs, hg, hcs, hge, hLw, hgt, q_x, g_x, l_x, r_x, z_x, hi2, hqx, hsd2, hLn, e9, e10, e39, e40, hp, hg1, hli] <;> omega)), (by first | exact aK | exact kK), (by simp; omega), (by simp [show ¬ h.next = h.next + 1 by omega, hs1]), (by simp), (Tab.put (q := q - 1) (by rw [show q - 1 + 1 = q by omega]; exact ht) hqx (pl i) (IntKind.wrap .i64 (partS (fam xs) n (costN L) lim kk s i : Int)) (by rw [hie, ← hsd, show n - pcN s = kk + 1 by omega, hpl]; rfl) (by rw [hie, ← ways_part _ n7, hkk, ← hsd, show n - pcN s - 1 + 1 = n - pcN s by omega]))⟩
      (case hm => first | omega | (simp; omega))
      (case hf => simp [FrameL, hz, ntw, csw, hL, htl, hwr1, hi1, e1, e2, e3, e7, e8, hs, hg, hcs, hge, hLw, hgt, q_x, g_x, l_x, r_x, z_x, hi2, hqx, hsd2, hLn, e9, e10, e39, e40, hp, hg1, hli, f1_0, f2_0, f3_0, f7_0])
  · have hge : ¬ (0 : Int) ≤ (q : Int) - 1 := by omega
    try simp (disch := first | omega | (simp; done) | fail) [wrap64c, if_pos, if_neg, opAnd, opOr, opXor, opDiff, opShr, opBit, hz, ntw, csw, hL, htl, hwr1, hi1, e1, e2, e3, e7, e8, hs, hg, hcs, hge]
    have hq0e : q = 0 := by omega
    exact done_ret rfl ⟨ha, h.next + 1, cs, by simp, by omega, hg, hq0e ▸ ht⟩
theorem specCount_ok (h : Hp) (v w : Value) (N : Int) (X : List Int) (L : List Job) (hv : Space h v N X) (hw : Jobs h w L) (hl : X.length < 2 ^ 40) :
    CallOK Try.prog 104 #[v, w] h (.tuple #[.int .i64 (cntB N X L), .bool (spB N X && jobsB L N)]) h := by
  refine callY_P 21 _ [.tmp 4, .tmp 5] Try.func104 rfl rfl rfl (by first | rfl | simp) ?_
  obtain ⟨b, rfl, hX⟩ := hv
  have ntw := hw.nt
  have csw := hw.cs
  refine WD_first ?_
  try simp (disch := first | omega | (simp; done) | fail) [wrap64c, if_pos, if_neg, opAnd, opOr, opXor, opDiff, opShr, opBit, ntw, csw]
  refine stopK_heap fun h0 q_h0 => ?_
  refine stopK_go ?_
  have g_h0 : h0.get h.next = .cells [.int .i64 N, b] true true 1 := by simp [q_h0]
  have k_h0 : Adds h h0 := by rw [q_h0]; exact (by first | exact aK | exact kK)
  have n_h0 : h.next < h0.next := by simp [q_h0]; try omega
  have hX0 := hX.keep k_h0.1
  have hw0 := hw.keep k_h0.1
  have K0 := k_h0.1
  try simp (disch := first | omega | (simp; done) | fail) [wrap64c, if_pos, if_neg, opAnd, opOr, opXor, opDiff, opShr, opBit, ntw, csw, g_h0]
  refine callG_c (by simp) (by simp) ?ha (grGiven_ok h0 (.agg #[.int .i64 N, b]) w N X L (.mk hX0) hw0 hl) ?_
  (case ha => simp (disch := first | omega | (simp; done) | fail) [wrap64c, if_pos, if_neg, opAnd, opOr, opXor, opDiff, opShr, opBit, ntw, csw, g_h0])
  cases c1 : (spB N X && jobsB L N)
  · try simp (disch := first | omega | (simp; done) | fail) [wrap64c, if_pos, if_neg, opAnd, opOr, opXor, opDiff, opShr, opBit, ntw, csw, g_h0, c1]
    exact done_ret rfl (by simp [cntB, c1, K0])
  · have cc := c1
    rw [Bool.and_eq_true] at cc
    obtain ⟨n, xs, hN, hXe, g⟩ := spB_true cc.1
    obtain ⟨hLN, gj⟩ := jobsB_ok cc.2
    have hNt : N = (n : Int) := hN
    have hLn : L.length = n := by omega
    have hX1 : Ints h0 b (toN xs) := hXe ▸ hX0
    have hB : cntB N X L = IntKind.wrap .i64 (waysF (fam xs) n (costN L) (topN (costN L) (greedN (costN L) xs n)) n 0 : Int) := by rw [cntB, if_pos c1, hXe, natsOf_toN, hN, Int.toNat_natCast]
    have n7 := g.n7
    have n1 := g.n1
    obtain ⟨u, h1, hc1, ha1, hi1⟩ := grGreedy_ok h0 (.agg #[.int .i64 n, b]) w n xs L (.mk hX1) hw0 g gj hLn
    obtain ⟨hgl, _⟩ := greedN_costs g gj hLn
    obtain ⟨_, h2, hc2, ha2, o, cs, rfl, ho, ht1, ht2⟩ := grTable_ok h1 (.agg #[.int .i64 n, b]) w n xs L (topN (costN L) (greedN (costN L) xs n)) (.mk (hX1.keep ha1.1)) (hw0.keep ha1.1) g gj hLn
    obtain ⟨hl0, hfirst⟩ := good_first g
    have hr := (ht2.2 0 hl0 (Nat.le_refl _)).2
    rw [hfirst, show pcN 0 = 0 by decide, Nat.sub_zero] at hr
    obtain ⟨wY, hwY⟩ : ∃ wY, wY = IntKind.wrap .i64 (waysF (fam xs) n (costN L) (topN (costN L) (greedN (costN L) xs n)) n 0 : Int) := ⟨_, rfl⟩
    rw [← hwY] at hr hB
    have hlc := ht2.1
    have hl1 : 1 < cs.length := by omega
    have hr1 : ∀ h2 : 1 < cs.length, cs[1] = .int .i64 wY := fun h2 => (List.getElem?_eq_some_iff.1 hr).2
    try simp (disch := first | omega | (simp; done) | fail) [wrap64c, if_pos, if_neg, opAnd, opOr, opXor, opDiff, opShr, opBit, ntw, csw, g_h0, c1, hNt, hl1, hl0, hr1, ht1]
    refine WD_drawC 11 rfl (by kernel_rfl) ?_
    try simp (disch := first | omega | (simp; done) | fail) [wrap64c, if_pos, if_neg, opAnd, opOr, opXor, opDiff, opShr, opBit, ntw, csw, g_h0, c1, hNt, hl1, hl0, hr1, ht1]
    refine callP_c (by simp) (by simp) ?ha (hc1) ?hadd ?_
    (case ha => simp (disch := first | omega | (simp; done) | fail) [wrap64c, if_pos, if_neg, opAnd, opOr, opXor, opDiff, opShr, opBit, ntw, csw, g_h0, c1, hNt, hl1, hl0, hr1, ht1])
    (case hadd => first | assumption | exact adds_self _ | (simp; done))
    try simp (disch := first | omega | (simp; done) | fail) [wrap64c, if_pos, if_neg, opAnd, opOr, opXor, opDiff, opShr, opBit, ntw, csw, g_h0, c1, hNt, hl1, hl0, hr1, ht1]
    refine callP_c (by simp) (by simp) ?ha (grOf_ok h1 w u L (greedN (costN L) xs n) (hw0.keep ha1.1) hi1.ints gj hgl (by simp; omega)) ?hadd ?_
    (case ha => simp (disch := first | omega | (simp; done) | fail) [wrap64c, if_pos, if_neg, opAnd, opOr, opXor, opDiff, opShr, opBit, ntw, csw, g_h0, c1, hNt, hl1, hl0, hr1, ht1])
    (case hadd => first | assumption | exact adds_self _ | (simp; done))
    try simp (disch := first | omega | (simp; done) | fail) [wrap64c, if_pos, if_neg, opAnd, opOr, opXor, opDiff, opShr, opBit, ntw, csw, g_h0, c1, hNt, hl1, hl0, hr1, ht1]
    refine callP_c (by simp) (by simp) ?ha (hc2) ?hadd ?_
    (case ha => simp (disch := first | omega | (simp; done) | fail) [wrap64c, if_pos, if_neg, opAnd, opOr, opXor, opDiff, opShr, opBit, ntw, csw, g_h0, c1, hNt, hl1, hl0, hr1, ht1])
    (case hadd => first | assumption | exact adds_self _ | (simp; done))
    try simp (disch := first | omega | (simp; done) | fail) [wrap64c, if_pos, if_neg, opAnd, opOr, opXor, opDiff, opShr, opBit, ntw, csw, g_h0, c1, hNt, hl1, hl0, hr1, ht1]
    exact done_ret rfl (by simp [hB, c1, (K0.trans ha1.1).trans ha2.1])
end Go.Proofs.Ytnncipcldbopgaa
namespace Go.Proofs.Ytnncipcldbopgaa
set_option linter.unusedSimpArgs false
set_option linter.unusedVariables false
set_option maxHeartbeats 4000000
open Go Go.Eng
attribute [local irreducible] WD RunD PreD Runs CallOK
def stepU {σ : Type} (stop : σ → Bool) (step : σ → List Nat → σ) (s : σ) (w : List Nat) : σ := if stop s = true then s else step s w
theorem foldU_stop {σ : Type} {stop : σ → Bool} {step : σ → List Nat → σ} {s : σ} (h : stop s = true) : ∀ l : List (List Nat), l.foldl (stepU stop step) s = s
  | [] => rfl
  | w :: l => by rw [List.foldl_cons, stepU, if_pos h, foldU_stop h l]
structure WSu (base : Nat) (S : Nat → Prop) (A : WA) (n : Nat) (M : Nat → Bool) (b : Value) (X : List Int) (dv : Value) (h : Hp) (W : List Nat) (v : Value) (bg : Bool) : Prop where
  ord : base ≤ A.os ∧ A.os < A.od ∧ A.od < A.fo ∧ A.fo < A.oF ∧ A.oF < A.ow ∧ A.ow < A.og ∧ A.og < A.on ∧ A.on < A.B ∧ A.B ≤ h.next
  gs : h.get A.os = .cells [.int .i64 (n : Int), b] true true 1
  ib : IntsF (fun x => x < base ∧ ¬ S x) h b X
  gd : h.get A.od = .cells [dv] true true 1
  gF : h.get A.fo = .cells (famC M) true true 1
  gf : h.get A.oF = .cells [.pointer (some ⟨A.fo, 0, none⟩)] true true 1
  gw : h.get A.ow = .cells [v] true true 1
  gg : h.get A.og = .cells [.bool bg] true true 1
  gn : h.get A.on = .cells [.func (.func 248) #[] #[.pointer (some ⟨A.os, 0, none⟩), .pointer (some ⟨A.od, 0, none⟩), .pointer (some ⟨A.ow, 0, none⟩), .pointer (some ⟨A.og, 0, none⟩), .pointer (some ⟨A.oF, 0, none⟩), .pointer (some ⟨A.on, 0, none⟩)]] true true 1
  ws : WS A.B h v W
theorem WSu.keep {base : Nat} {S : Nat → Prop} {A : WA} {n : Nat} {M : Nat → Bool} {b : Value} {X : List Int} {dv : Value} {h h' : Hp} {W : List Nat} {v : Value} {bg : Bool} (k : WSu base S A n M b X dv h W v bg) (hS : ∀ o, S o → o < base) {T : Nat → Prop} (hT : ∀ o, T o → A.B ≤ o ∧ objOf v ≠ some o) (w : Wr (fun o => S o ∨ T o) h h') : WSu base S A n M b X dv h' W v bg := by
  obtain ⟨o1, o2, o3, o4, o5, o6, o7, o8, o9⟩ := k.ord
  have hn := w.upd.1
  have hg : ∀ o, base ≤ o → o < A.B → h'.get o = h.get o := fun o h1 h2 => w.upd.2 o (by omega) fun hs => by
    rcases hs with hs | hs
    · have := hS o hs; omega
    · have := hT o hs; omega
  exact {
    ord := ⟨o1, o2, o3, o4, o5, o6, o7, o8, by omega⟩
    gs := by rw [hg _ (by omega) (by omega)]; exact k.gs
    ib := k.ib.same ⟨hn, fun q hq hl => w.upd.2 q hl fun hs => by
      rcases hs with hs | hs
      · exact hq.2 hs
      · have := hT q hs; have := hq.1; omega⟩
    gd := by rw [hg _ (by omega) (by omega)]; exact k.gd
    gF := by rw [hg _ (by omega) (by omega)]; exact k.gF
    gf := by rw [hg _ (by omega) (by omega)]; exact k.gf
    gw := by rw [hg _ (by omega) (by omega)]; exact k.gw
    gg := by rw [hg _ (by omega) (by omega)]; exact k.gg
    gn := by rw [hg _ (by omega) (by omega)]; exact k.gn
    ws := k.ws.keep hn fun o ho => w.upd.2 o (k.ws.obj ho).2 fun hs => by
      rcases hs with hs | hs
      · have := hS o hs; have := (k.ws.obj ho).1; omega
      · exact (hT o hs).2 ho }
theorem WSu.put {base : Nat} {S : Nat → Prop} {A : WA} {n : Nat} {M : Nat → Bool} {b : Value} {X : List Int} {dv : Value} {h h' h2 : Hp} {W W' : List Nat} {v v' : Value} {bg : Bool} (k : WSu base S A n M b X dv h W v bg) (hS : ∀ o, S o → o < base)
    (w : Wr (fun o => objOf v = some o) h h') (hw : WS A.B h' v' W') (he : h2 = h'.put A.ow (.cells [v'] true true 1)) : WSu base S A n M b X dv h2 W' v' bg := by
  subst he
  obtain ⟨o1, o2, o3, o4, o5, o6, o7, o8, o9⟩ := k.ord
  have hn := w.upd.1
  have hg : ∀ o, o < A.B → o ≠ A.ow → (h'.put A.ow (.cells [v'] true true 1)).get o = h.get o := fun o h1 h2 => by
    simp [h2]
    exact w.upd.2 o (by omega) fun hs => by have := (k.ws.obj hs).1; omega
  exact {
    ord := ⟨o1, o2, o3, o4, o5, o6, o7, o8, by simp; omega⟩
    gs := by rw [hg _ (by omega) (by omega)]; exact k.gs
    ib := k.ib.same ⟨by simp; exact hn, fun q hq hl => hg q (by omega) (by omega)⟩
    gd := by rw [hg _ (by omega) (by omega)]; exact k.gd
    gF := by rw [hg _ (by omega) (by omega)]; exact k.gF
    gf := by rw [hg _ (by omega) (by omega)]; exact k.gf
    gw := by simp
    gg := by rw [hg _ (by omega) (by omega)]; exact k.gg
    gn := by rw [hg _ (by omega) (by omega)]; exact k.gn
    ws := hw.keep (by simp) fun o ho => by simp [show o ≠ A.ow by have := (hw.obj ho).1; omega] }
theorem WSu.putG {base : Nat} {S : Nat → Prop} {A : WA} {n : Nat} {M : Nat → Bool} {b : Value} {X : List Int} {dv : Value} {h h2 : Hp} {W : List Nat} {v : Value} {bg bg' : Bool} (k : WSu base S A n M b X dv h W v bg)
    (he : h2 = h.put A.og (.cells [.bool bg'] true true 1)) : WSu base S A n M b X dv h2 W v bg' := by
  subst he
  obtain ⟨o1, o2, o3, o4, o5, o6, o7, o8, o9⟩ := k.ord
  have hg : ∀ o, o ≠ A.og → (h.put A.og (.cells [.bool bg'] true true 1)).get o = h.get o := fun o h2 => by simp [h2]
  exact {
    ord := ⟨o1, o2, o3, o4, o5, o6, o7, o8, by simp; omega⟩
    gs := by rw [hg _ (by omega)]; exact k.gs
    ib := k.ib.same ⟨by simp, fun q hq hl => hg q (by omega)⟩
    gd := by rw [hg _ (by omega)]; exact k.gd
    gF := by rw [hg _ (by omega)]; exact k.gF
    gf := by rw [hg _ (by omega)]; exact k.gf
    gw := by rw [hg _ (by omega)]; exact k.gw
    gg := by simp
    gn := by rw [hg _ (by omega)]; exact k.gn
    ws := k.ws.keep (by simp) fun o ho => by simp [show o ≠ A.og by have := (k.ws.obj ho).1; omega] }
section
variable {σ : Type} (P : σ → (Nat → Prop) → Hp → Prop) (stop : σ → Bool) (step : σ → List Nat → σ) (Good : List Nat → Prop) (base : Nat) (S : Nat → Prop) (fid : Nat) (dc : Array Value)
structure DoerU : Prop where
  stab : ∀ s T h h', P s T h → base ≤ h.next → h.next ≤ h'.next → (∀ o, o < h.next → (o < base ∨ T o) → h'.get o = h.get o) → P s T h'
  run : ∀ s T h w v, stop s = false → P s T h → base ≤ h.next → Ints h v (toN w) → Good w → ∃ h', CallOK Try.prog fid (#[v] ++ dc) h (.bool (!stop (step s w))) h' ∧ Wr (fun o => S o ∨ T o) h h' ∧ ∃ T', P (step s w) T' h' ∧ ∀ o, T' o → (T o ∨ h.next ≤ o) ∧ o < h'.next
  low : ∀ o, S o → o < base
  fn : fnOK Try.prog fid = true
end
theorem nextU_ok {σ : Type} (P : σ → (Nat → Prop) → Hp → Prop) (stop : σ → Bool) (step : σ → List Nat → σ) (Good : List Nat → Prop) (base : Nat) (S : Nat → Prop) (fid : Nat) (dc : Array Value) (D : DoerU P stop step Good base S fid dc) (A : WA) (n : Nat) (xs : List Nat) (g : SpGood n xs) (b : Value) (X : List Int) :
    ∀ (k : Nat) (h : Hp) (W : List Nat) (set : Nat) (v : Value) (s : σ) (T : Nat → Prop), WSu base S A n (fam xs) b X (.func (.func fid) #[] dc) h W v true → stop s = false → P s T h → (∀ o, T o → (A.B ≤ o ∧ o < h.next) ∧ objOf v ≠ some o) → set ∈ xs → pcN set + k = n → W.length + k = n → (∀ w ∈ wordsF (fam xs) n k W set, Good w) →
    ∃ u h', CallOK Try.prog 248 #[.int .i64 (set : Int), .pointer (some ⟨A.os, 0, none⟩), .pointer (some ⟨A.od, 0, none⟩), .pointer (some ⟨A.ow, 0, none⟩), .pointer (some ⟨A.og, 0, none⟩), .pointer (some ⟨A.oF, 0, none⟩), .pointer (some ⟨A.on, 0, none⟩)] h u h' ∧ ∃ v' T',
      WSu base S A n (fam xs) b X (.func (.func fid) #[] dc) h' W v' (!stop ((wordsF (fam xs) n k W set).foldl (stepU stop step) s)) ∧ P ((wordsF (fam xs) n k W set).foldl (stepU stop step) s) T' h' ∧ (∀ o, T' o → (A.B ≤ o ∧ o < h'.next) ∧ objOf v' ≠ some o) ∧ (∀ o, T' o → T o ∨ h.next ≤ o) ∧ Wr (fun o => S o ∨ T o ∨ o = A.ow ∨ o = A.og ∨ objOf v = some o) h h' ∧ (objOf v' = objOf v ∨ ∃ p, objOf v' = some p ∧ h.next ≤ p) := by
  intro k
  induction k with
  | zero =>
    intro h W set v s T hw hst hP hT hset hk hWk hgood
    refine callY_L (args := [.int .i64 (set : Int), .pointer (some ⟨A.os, 0, none⟩), .pointer (some ⟨A.od, 0, none⟩), .pointer (some ⟨A.ow, 0, none⟩), .pointer (some ⟨A.og, 0, none⟩), .pointer (some ⟨A.oF, 0, none⟩), .pointer (some ⟨A.on, 0, none⟩)]) 44 _ [] Try.func248 rfl rfl rfl ?_
    have hsa : set = bit n - 1 := (pcN_lt g.n7 (g.lt set hset)).2 (by omega)
    have hgs := hw.gs
    have hgd := hw.gd
    have hgw := hw.gw
    have hfn := D.fn
    have n7 := g.n7
    try simp (disch := first | omega | (simp; done) | fail) [wrap64c, if_pos, if_neg, opAnd, opOr, opXor, opDiff, opShr, opBit, hgs, hgd, hgw, hfn]
    refine callG_c (by simp) (by simp) ?ha (all_ok h (.agg #[.int .i64 (n : Int), b]) n X (.mk hw.ib.ints) (by omega)) ?_
    (case ha => simp (disch := first | omega | (simp; done) | fail) [wrap64c, if_pos, if_neg, opAnd, opOr, opXor, opDiff, opShr, opBit, hgs, hgd, hgw, hfn])
    have hn := hw.ord
    try simp (disch := first | omega | (simp; done) | fail) [wrap64c, if_pos, if_neg, opAnd, opOr, opXor, opDiff, opShr, opBit, hgs, hgd, hgw, hfn, hsa]
    obtain ⟨h1, hc1, W1, T1, P1, hT1⟩ := D.run s T h W v hst hP (by omega) hw.ws.ints (hgood W (by simp [wordsF]))
    refine callG_f (fst := #[]) (cap := dc) (by simp) (by simp) ?hf ?hk ?ha (hc1) ?_
    (case hf => simp (disch := first | omega | (simp; done) | fail) [wrap64c, if_pos, if_neg, opAnd, opOr, opXor, opDiff, opShr, opBit, hgs, hgd, hgw, hfn]; try rfl)
    (case hk => simp (disch := first | omega | (simp; done) | fail) [wrap64c, if_pos, if_neg, opAnd, opOr, opXor, opDiff, opShr, opBit, hgs, hgd, hgw, hfn])
    (case ha => simp (disch := first | omega | (simp; done) | fail) [wrap64c, if_pos, if_neg, opAnd, opOr, opXor, opDiff, opShr, opBit, hgs, hgd, hgw, hfn])
    have hw1 := hw.keep D.low (fun o ho => ⟨(hT o ho).1.1, (hT o ho).2⟩) W1
    have hgg := hw1.gg
    try simp (disch := first | omega | (simp; done) | fail) [wrap64c, if_pos, if_neg, opAnd, opOr, opXor, opDiff, opShr, opBit, hgs, hgd, hgw, hfn, hgg, putCells]
    have hfo : (wordsF (fam xs) n 0 W set).foldl (stepU stop step) s = step s W := by simp [wordsF, stepU, hst]
    rw [hfo]
    have hw2 := hw1.putG (bg' := !stop (step s W)) (h2 := h1.put A.og (.cells [.bool (!stop (step s W))] true true 1)) rfl
    have hT2 : ∀ o, T1 o → A.B ≤ o := fun o ho => by
      rcases (hT1 o ho).1 with h1 | h1
      · exact (hT o h1).1.1
      · omega
    refine done_ret rfl ⟨v, T1, hw2, ?_, fun o ho => ⟨⟨hT2 o ho, (hT1 o ho).2⟩, fun e => ?_⟩, fun o ho => (hT1 o ho).1, ?_, .inl rfl⟩
    · exact D.stab _ T1 h1 _ P1 (by have := W1.upd.1; omega) (by simp) fun o _ ho => by
        have : o ≠ A.og := by
          rcases ho with ho | ho
          · omega
          · have := hT2 o ho; omega
        simp [this]
    · rcases (hT1 o ho).1 with h1 | h1
      · exact (hT o h1).2 e
      · have := (hw.ws.obj e).2; omega
    · exact (W1.mono fun o _ hs => hs.elim .inl fun h => .inr (.inl h)).put (.inr (.inr (.inr (.inl rfl)))) (fun _ => rfl)
  | succ k ih =>
    intro h W set v s T hw hst hP hT hset hk hWk hgood
    refine callY_L (args := [.int .i64 (set : Int), .pointer (some ⟨A.os, 0, none⟩), .pointer (some ⟨A.od, 0, none⟩), .pointer (some ⟨A.ow, 0, none⟩), .pointer (some ⟨A.og, 0, none⟩), .pointer (some ⟨A.oF, 0, none⟩), .pointer (some ⟨A.on, 0, none⟩)]) 44 _ [] Try.func248 rfl rfl rfl ?_
    have hsa : set ≠ bit n - 1 := fun e => by have := pcN_full g.n7; rw [← e] at this; omega
    have hs7 := g.lt7 set hset
    have hn := hw.ord
    have hgs := hw.gs
    have hgf := hw.gf
    have n7 := g.n7
    have hbn := bit7 n7
    have hsb : ((set : Int) == ((bit n - 1 : Nat) : Int)) = false := by simp; omega
    try simp (disch := first | omega | (simp; done) | fail) [wrap64c, if_pos, if_neg, opAnd, opOr, opXor, opDiff, opShr, opBit, hgs, hgf, hsb]
    refine callG_c (by simp) (by simp) ?ha (all_ok h (.agg #[.int .i64 (n : Int), b]) n X (.mk hw.ib.ints) (by omega)) ?_
    (case ha => simp (disch := first | omega | (simp; done) | fail) [wrap64c, if_pos, if_neg, opAnd, opOr, opXor, opDiff, opShr, opBit, hgs, hgf, hsb])
    try simp (disch := first | omega | (simp; done) | fail) [wrap64c, if_pos, if_neg, opAnd, opOr, opXor, opDiff, opShr, opBit, hgs, hgf, hsb]
    refine callG_c (by simp) (by simp) ?ha (imOuter_ok h A.fo (fam xs) true true 1 set (by omega) hw.gF hs7) ?_
    (case ha => simp (disch := first | omega | (simp; done) | fail) [wrap64c, if_pos, if_neg, opAnd, opOr, opXor, opDiff, opShr, opBit, hgs, hgf, hsb])
    rw [g.outer7 set]
    have hol := outerN_lt (fam xs) n set
    obtain ⟨q, h2, hc2, ha2, hi2, _⟩ := items_ok h (outerN (fam xs) n set) (by omega)
    try simp (disch := first | omega | (simp; done) | fail) [wrap64c, if_pos, if_neg, opAnd, opOr, opXor, opDiff, opShr, opBit, hgs, hgf, hsb]
    refine callG_c (by simp) (by simp) ?ha (hc2) ?_
    (case ha => simp (disch := first | omega | (simp; done) | fail) [wrap64c, if_pos, if_neg, opAnd, opOr, opXor, opDiff, opShr, opBit, hgs, hgf, hsb])
    obtain ⟨I, hI⟩ : ∃ I, I = itemsN (outerN (fam xs) n set) := ⟨_, rfl⟩
    have hIl : I.length ≤ 7 := by rw [hI]; exact items_len _
    rw [← hI] at hi2
    have hM2 := hi2.ints.lenD
    have hgt := toN_get I
    have hln := toN_length I
    have n2 := ha2.1.1
    have W2 : Wr (fun o => S o ∨ T o) h h2 := .of_adds ha2
    have hw2 := hw.keep D.low (fun o ho => ⟨(hT o ho).1.1, (hT o ho).2⟩) W2
    have P2 := D.stab _ T h h2 hP (by omega) ha2.1.1 fun o ho _ => ha2.1.2 o ho
    try simp (disch := first | omega | (simp; done) | fail) [wrap64c, if_pos, if_neg, opAnd, opOr, opXor, opDiff, opShr, opBit, hgs, hgf, hsb, hM2, hgt]
    refine WD_loopC [0, 3, 4, 6, 20, 21] (fun m tm h' => ∃ j u s1 T1, m = I.length - j ∧ tm 22 = .int .i64 (j : Int) ∧ (j ≤ I.length) ∧ (WSu base S A n (fam xs) b X (.func (.func fid) #[] dc) h' W u (!stop s1)) ∧ (P s1 T1 h') ∧ (∀ o, T1 o → (A.B ≤ o ∧ o < h'.next) ∧ objOf u ≠ some o) ∧ (∀ o, T1 o → T o ∨ h2.next ≤ o) ∧ (s1 = ((I.take j).flatMap fun i => wordsF (fam xs) n k (W ++ [i]) (nOr set (bit i))).foldl (stepU stop step) s) ∧ (Wr (fun o => S o ∨ T o ∨ o = A.ow ∨ o = A.og ∨ objOf v = some o) h2 h') ∧ (objOf u = objOf v ∨ ∃ p, objOf u = some p ∧ h2.next ≤ p)) _ ⟨0, v, s, T, rfl, (by simp (disch := first | omega | (simp; done) | fail) [wrap64c, if_pos, if_neg, opAnd, opOr, opXor, opDiff, opShr, opBit, hgs, hgf, hsb, hM2, hgt]), (by first | omega | assumption | (simp (disch := first | omega | (simp; done) | fail) [wrap64c, if_pos, if_neg, opAnd, opOr, opXor, opDiff, opShr, opBit, hgs, hgf, hsb, hM2, hgt] <;> omega)), (by rw [hst]; exact hw2), P2, (fun o ho => ⟨⟨(hT o ho).1.1, by have := (hT o ho).1.2; omega⟩, (hT o ho).2⟩), (fun o ho => .inl ho), rfl, (Wr.refl _ _), (.inl rfl)⟩ ?_
    rintro m tm h' hFr ⟨j, u, s1, T1, rfl, e22, hj, hww, hPP, hT1, hT2, hs1, hWr, ho⟩
    simp only [FrameL] at hFr
    obtain ⟨f0_0, f3_0, f4_0, f6_0, f20_0, f21_0, -⟩ := hFr
    try simp (disch := first | omega | (simp; done) | fail) [wrap64c, if_pos, if_neg, opAnd, opOr, opXor, opDiff, opShr, opBit, hgs, hgf, hsb, hM2, hgt] at f0_0 f3_0 f4_0 f6_0 f20_0 f21_0
    have e0 := f0_0
    have e3 := f3_0
    have e4 := f4_0
    have e6 := f6_0
    have e20 := f20_0
    have e21 := f21_0
    have hn3 := hWr.upd.1
    by_cases hlt : j < I.length
    · have hvI : Ints h' q (toN I) := (hi2.same (hWr.upd.same fun x hx hx' => by
        unfold Btw at hx
        rcases hx' with hx' | hx' | hx' | hx' | hx'
        · have := D.low x hx'; omega
        · have := (hT x hx').1.2; omega
        · omega
        · omega
        · have := (hw.ws.obj hx').2; omega)).ints
      obtain ⟨o_x, i_x, c_x, cs_x, own_x, ex_x, es_x, q_x, b_x, g_x, l_x, r_x⟩ := hvI.open ((by omega))
      have z_x : ∀ h2 : i_x < cs_x.length, cs_x[i_x] = _ := fun h2 => r_x 0 ((by omega)) h2
      obtain ⟨i, hi⟩ : ∃ i, i = I[j] := ⟨_, rfl⟩
      have hi' := hi.symm
      have hmi : i ∈ itemsN (outerN (fam xs) n set) := by rw [← hI, hi]; exact List.getElem_mem hlt
      obtain ⟨hin, hib, hix⟩ := g.learn hmi
      have hb7 := bit_lt7 (show i < 7 by omega)
      have hor := nOr128 (b := bit i) hs7 (by omega)
      cases hst1 : stop s1
      case true =>
        have hgg := hww.gg
        rw [hst1] at hgg
        have hgg := hgg
        have hall : (wordsF (fam xs) n (k + 1) W set).foldl (stepU stop step) s = s1 := by
          have hsp : I.flatMap (fun i => wordsF (fam xs) n k (W ++ [i]) (nOr set (bit i))) = (I.take j).flatMap (fun i => wordsF (fam xs) n k (W ++ [i]) (nOr set (bit i))) ++ (I.drop j).flatMap (fun i => wordsF (fam xs) n k (W ++ [i]) (nOr set (bit i))) := by
            rw [← List.flatMap_append, List.take_append_drop]
          rw [wordsF, ← hI, hsp, List.foldl_append, ← hs1, foldU_stop hst1]
        try simp (disch := first | omega | (simp; done) | fail) [wrap64c, if_pos, if_neg, opAnd, opOr, opXor, opDiff, opShr, opBit, hgs, hgf, hsb, hM2, hgt, e0, e3, e4, e6, e20, e21, e22, hlt, q_x, g_x, l_x, r_x, z_x, hi', hgg]
        rw [hall]
        refine done_ret (vs := []) rfl ⟨u, T1, hww, hPP, hT1, fun o ho => ?_, ?_, ?_⟩
        · rcases hT2 o ho with h1 | h1
          · exact .inl h1
          · exact .inr (by omega)
        · exact (W2.mono fun o _ hs => hs.elim .inl fun h => .inr (.inl h)).trans hWr
        · rcases ho with ho | ⟨p, ho, hp⟩
          · exact .inl ho
          · exact .inr ⟨p, ho, by omega⟩
      rw [hst1] at hww
      have hgg := hww.gg
      have hgw := hww.gw
      have hgn := hww.gn
      have hn4 := hww.ord
      have htk : (I.take (j + 1)).flatMap (fun i => wordsF (fam xs) n k (W ++ [i]) (nOr set (bit i))) = ((I.take j).flatMap fun i => wordsF (fam xs) n k (W ++ [i]) (nOr set (bit i))) ++ wordsF (fam xs) n k (W ++ [i]) (nOr set (bit i)) := by
        rw [List.take_succ_eq_append_getElem hlt, List.flatMap_append, ← hi]; simp
      obtain ⟨u3, h3, hap, hws3, W3, hn5, ho3⟩ := appW hww.ws i (by omega) (by omega)
      have nt3 := hws3.nt
      have cs3 := hws3.cs
      have g3w : h3.get A.ow = .cells [u] true true 1 := by rw [W3.upd.2 _ (by omega) (fun e => by have := (hww.ws.obj e).1; omega)]; exact hww.gw
      try simp (disch := first | omega | (simp; done) | fail) [wrap64c, if_pos, if_neg, opAnd, opOr, opXor, opDiff, opShr, opBit, hgs, hgf, hsb, hM2, hgt, e0, e3, e4, e6, e20, e21, e22, hlt, q_x, g_x, l_x, r_x, z_x, hi', hgg, hgw, hgn, nt3, cs3, hap, putCells, g3w]
      have hw4 := hww.put D.low W3 hws3 (h2 := h3.put A.ow (.cells [u3] true true 1)) rfl
      have W4 : Wr (fun o => S o ∨ T o ∨ o = A.ow ∨ o = A.og ∨ objOf u = some o) h' (h3.put A.ow (.cells [u3] true true 1)) := (W3.mono fun o _ e => .inr (.inr (.inr (.inr e)))).put (.inr (.inr (.inl rfl))) fun _ => rfl
      have P4 := D.stab _ T1 h' (h3.put A.ow (.cells [u3] true true 1)) hPP (by omega) (by simp; omega) fun o hlo ho => by
        have h1 : o ≠ A.ow ∧ objOf u ≠ some o := by
          rcases ho with ho | ho
          · exact ⟨by omega, fun e => by have := (hww.ws.obj e).1; omega⟩
          · exact ⟨by have := (hT1 o ho).1.1; omega, (hT1 o ho).2⟩
        simp [h1.1]
        exact W3.upd.2 _ hlo h1.2
      obtain ⟨h4, hh4⟩ : ∃ h4, h4 = h3.put A.ow (.cells [u3] true true 1) := ⟨_, rfl⟩
      rw [← hh4] at hw4 W4 P4
      have hn6 : h4.next = h3.next := by rw [hh4]; simp
      rw [← hh4]
      have hgn4 := hw4.gn
      refine WD_drawC 5 rfl (by kernel_rfl) ?_
      try simp (disch := first | omega | (simp; done) | fail) [wrap64c, if_pos, if_neg, opAnd, opOr, opXor, opDiff, opShr, opBit, hgs, hgf, hsb, hM2, hgt, e0, e3, e4, e6, e20, e21, e22, hlt, q_x, g_x, l_x, r_x, z_x, hi', hgg, hgw, hgn, nt3, cs3, hgn4]
      have hT4 : ∀ o, T1 o → (A.B ≤ o ∧ o < h4.next) ∧ objOf u3 ≠ some o := fun o ho => by
        refine ⟨⟨(hT1 o ho).1.1, by have := (hT1 o ho).1.2; omega⟩, fun e => ?_⟩
        rcases ho3 with ho3 | ⟨p, ho3, hp⟩
        · exact (hT1 o ho).2 (ho3 ▸ e)
        · rw [ho3] at e; cases e; have := (hT1 o ho).1.2; omega
      obtain ⟨_, h5, hc5, u5, T5, hw5, P5, hT5, hT6, W5, ho5⟩ := ih h4 (W ++ [i]) (nOr set (bit i)) u3 s1 T1 hw4 hst1 P4 hT4 hix (by rw [pcN_or hs7 (by omega) hib]; omega) (by simp; omega) (fun w hm => hgood w (by
        rw [wordsF, List.mem_flatMap]; exact ⟨i, hmi, hm⟩))
      refine callG_f (fst := #[]) (cap := #[.pointer (some ⟨A.os, 0, none⟩), .pointer (some ⟨A.od, 0, none⟩), .pointer (some ⟨A.ow, 0, none⟩), .pointer (some ⟨A.og, 0, none⟩), .pointer (some ⟨A.oF, 0, none⟩), .pointer (some ⟨A.on, 0, none⟩)]) (by simp) (by simp) ?hf ?hk ?ha (hc5) ?_
      (case hf => simp (disch := first | omega | (simp; done) | fail) [wrap64c, if_pos, if_neg, opAnd, opOr, opXor, opDiff, opShr, opBit, hgs, hgf, hsb, hM2, hgt, e0, e3, e4, e6, e20, e21, e22, hlt, q_x, g_x, l_x, r_x, z_x, hi', hgg, hgw, hgn, nt3, cs3, hgn4]; try rfl)
      (case hk => simp (disch := first | omega | (simp; done) | fail) [wrap64c, if_pos, if_neg, opAnd, opOr, opXor, opDiff, opShr, opBit, hgs, hgf, hsb, hM2, hgt, e0, e3, e4, e6, e20, e21, e22, hlt, q_x, g_x, l_x, r_x, z_x, hi', hgg, hgw, hgn, nt3, cs3, hgn4])
      (case ha => simp (disch := first | omega | (simp; done) | fail) [wrap64c, if_pos, if_neg, opAnd, opOr, opXor, opDiff, opShr, opBit, hgs, hgf, hsb, hM2, hgt, e0, e3, e4, e6, e20, e21, e22, hlt, q_x, g_x, l_x, r_x, z_x, hi', hgg, hgw, hgn, nt3, cs3, hgn4])
      have hgw5 := hw5.gw
      rcases hw5.ws with ⟨_, e⟩ | ⟨p5, c5, x5, e5, q1, q2, q3, q4, q5⟩
      · simp at e
      · have hl5 : (W ++ [i]).length = W.length + 1 := by simp
        rw [hl5] at e5 q4 q5
        subst e5
        have n8 := W5.upd.1
        have hw7 : WS A.B h5 (.slice (some ⟨p5, 0, none⟩) W.length c5.length) W := .inr ⟨p5, c5, x5, rfl, q1, q2, q3, by omega, by
          have := congrArg (List.take W.length) q5
          rw [List.take_take, show min W.length (W.length + 1) = W.length by omega, toN_snoc, List.map_append, List.take_left' (by simp [toN])] at this
          exact this⟩
        have hw8 := hw5.put D.low (Wr.refl _ _) hw7 (h2 := h5.put A.ow (.cells [.slice (some ⟨p5, 0, none⟩) W.length c5.length] true true 1)) rfl
        have hle5 := q4.1
        have n9 := hw5.ord
        try simp (disch := first | omega | (simp; done) | fail) [wrap64c, if_pos, if_neg, opAnd, opOr, opXor, opDiff, opShr, opBit, hgs, hgf, hsb, hM2, hgt, e0, e3, e4, e6, e20, e21, e22, hlt, q_x, g_x, l_x, r_x, z_x, hi', hgg, hgw, hgn, nt3, cs3, hgn4, hgw5, putCells]
        refine loopK_next _ ?hm ?hf ⟨j + 1, .slice (some ⟨p5, 0, none⟩) W.length c5.length, (wordsF (fam xs) n k (W ++ [i]) (nOr set (bit i))).foldl (stepU stop step) s1, T5, rfl, (by simp (disch := first | omega | (simp; done) | fail) [wrap64c, if_pos, if_neg, opAnd, opOr, opXor, opDiff, opShr, opBit, hgs, hgf, hsb, hM2, hgt, e0, e3, e4, e6, e20, e21, e22, hlt, q_x, g_x, l_x, r_x, z_x, hi', hgg, hgw, hgn, nt3, cs3, hgn4, hgw5] <;> omega), (by first | omega | assumption | (simp (disch := first | omega | (simp; done) | fail) [wrap64c, if_pos, if_neg, opAnd, opOr, opXor, opDiff, opShr, opBit, hgs, hgf, hsb, hM2, hgt, e0, e3, e4, e6, e20, e21, e22, hlt, q_x, g_x, l_x, r_x, z_x, hi', hgg, hgw, hgn, nt3, cs3, hgn4, hgw5] <;> omega)), hw8, ?c_hPP, (fun o ho => ⟨⟨(hT5 o ho).1.1, by simp; exact (hT5 o ho).1.2⟩, (hT5 o ho).2⟩), ?c_hT2, (by rw [htk, List.foldl_append, hs1]), ?c_hWr, ?c_ho⟩
        (case hm => first | omega | (simp; omega))
        (case hf => simp [FrameL, hgs, hgf, hsb, hM2, hgt, e0, e3, e4, e6, e20, e21, e22, hlt, q_x, g_x, l_x, r_x, z_x, hi', hgg, hgw, hgn, nt3, cs3, hgn4, hgw5, f0_0, f3_0, f4_0, f6_0, f20_0, f21_0])
        case c_hPP =>
          exact (D.stab _ T5 h5 _ P5 (by omega) (by simp) fun o _ ho => by
            have : o ≠ A.ow := by
              rcases ho with ho | ho
              · omega
              · have := (hT5 o ho).1.1; omega
            simp [this])
        case c_hT2 =>
          exact (fun o ho => by
            rcases hT6 o ho with h1 | h1
            · exact hT2 o h1
            · exact .inr (by omega))
        case c_hWr =>
          exact (by
            refine ((wr_trans2 (wr_trans2 hWr W4 ?_) W5 ?_)).put (.inr (.inr (.inl rfl))) fun _ => rfl
            · rintro o ho1 (e | e | e | e | e)
              · exact .inl e
              · exact .inr (.inl e)
              · exact .inr (.inr (.inl e))
              · exact .inr (.inr (.inr (.inl e)))
              · rcases ho with ho | ⟨p, ho, hp⟩
                · exact .inr (.inr (.inr (.inr (ho ▸ e))))
                · rw [ho] at e; cases e; omega
            · rintro o ho1 (e | e | e | e | e)
              · exact .inl e
              · rcases hT2 o e with h1 | h1
                · exact .inr (.inl h1)
                · omega
              · exact .inr (.inr (.inl e))
              · exact .inr (.inr (.inr (.inl e)))
              · rcases ho3 with ho3 | ⟨p, ho3, hp⟩
                · rw [ho3] at e
                  rcases ho with ho | ⟨p, ho, hp⟩
                  · exact .inr (.inr (.inr (.inr (ho ▸ e))))
                  · rw [ho] at e; cases e; omega
                · rw [ho3] at e; cases e; omega)
        case c_ho =>
          exact (by
            show some p5 = _ ∨ ∃ p, some p5 = some p ∧ _
            rcases ho5 with ho5 | ⟨p, ho5, hp⟩
            · rw [objOf_mk] at ho5
              rw [ho5]
              rcases ho3 with ho3 | ⟨p, ho3, hp⟩
              · rw [ho3]; exact ho
              · exact .inr ⟨p, ho3, by omega⟩
            · rw [objOf_mk] at ho5
              exact .inr ⟨p, ho5, by omega⟩)
    · have hje : I.take j = I := List.take_of_length_le (by omega)
      rw [hje] at hs1
      have hall : (wordsF (fam xs) n (k + 1) W set).foldl (stepU stop step) s = s1 := by rw [wordsF, ← hI, hs1]
      rw [hall]
      try simp (disch := first | omega | (simp; done) | fail) [wrap64c, if_pos, if_neg, opAnd, opOr, opXor, opDiff, opShr, opBit, hgs, hgf, hsb, hM2, hgt, e0, e3, e4, e6, e20, e21, e22, hlt]
      refine done_end rfl ⟨u, T1, hww, ?_, hT1, fun o ho => ?_, ?_, ?_⟩
      · exact hPP
      · rcases hT2 o ho with h1 | h1
        · exact .inl h1
        · exact .inr (by omega)
      · exact (W2.mono fun o _ hs => hs.elim .inl fun h => .inr (.inl h)).trans hWr
      · rcases ho with ho | ⟨p, ho, hp⟩
        · exact .inl ho
        · exact .inr ⟨p, ho, by omega⟩
theorem wordsU_ok {σ : Type} (P : σ → (Nat → Prop) → Hp → Prop) (stop : σ → Bool) (step : σ → List Nat → σ) (Good : List Nat → Prop) (base : Nat) (S : Nat → Prop) (fid : Nat) (dc : Array Value) (D : DoerU P stop step Good base S fid dc) (n : Nat) (xs : List Nat) (g : SpGood n xs) (h : Hp) (b : Value) (s : σ)
    (hb : IntsF (fun x => x < base ∧ ¬ S x) h b (toN xs)) (hst : stop s = false) (hP : P s (fun _ => False) h) (hbase : base ≤ h.next) (hgood : ∀ w ∈ wordsF (fam xs) n n [] 0, Good w) :
    ∃ u h', CallOK Try.prog 203 #[.agg #[.int .i64 (n : Int), b], .slice none 0 0, .func (.func fid) #[] dc] h u h' ∧ Wr S h h' ∧ ∃ T, P ((wordsF (fam xs) n n [] 0).foldl (stepU stop step) s) T h' ∧ ∀ o, T o → h.next ≤ o ∧ o < h'.next := by
  refine callY_L (args := [.agg #[.int .i64 (n : Int), b], .slice none 0 0, .func (.func fid) #[] dc]) 26 _ [] Try.func203 rfl rfl rfl ?_
  have hl7 := g.len7
  try simp (disch := first | omega | (simp; done) | fail) [wrap64c, if_pos, if_neg, opAnd, opOr, opXor, opDiff, opShr, opBit]
  first | refine WY_heap fun h0 q_h0 => ?_ | refine callG_heap fun h0 q_h0 => ?_ | refine callP_heap fun h0 q_h0 => ?_ | refine callS_heap fun h0 q_h0 => ?_ | refine RY_heap fun h0 q_h0 => ?_ | refine PY_heap fun h0 q_h0 => ?_ | refine SY_heap fun h0 q_h0 => ?_ | refine doneY_heap fun h0 q_h0 => ?_ | refine loopK_heap fun h0 q_h0 => ?_ | refine thenY_heap fun h0 q_h0 => ?_ | refine thenM_heap fun h0 q_h0 => ?_
  have k0 : Adds h h0 := by rw [q_h0]; exact (by first | exact aK | exact kK)
  have n0 : h0.next = h.next + 2 := by simp [q_h0]
  have g1 : h0.get h.next = .cells [.int .i64 (n : Int), b] true true 1 := by simp [q_h0]
  have g2 : h0.get (h.next + 1) = .cells [.func (.func fid) #[] dc] true true 1 := by simp [q_h0]
  obtain ⟨_, h1, hc1, fo, rfl, ha1, hfo1, hfo2, hgf⟩ := family_ok h0 (.agg #[.int .i64 (n : Int), b]) n xs (.mk (hb.ints.keep k0.1)) g.lt7 (by omega)
  try simp (disch := first | omega | (simp; done) | fail) [wrap64c, if_pos, if_neg, opAnd, opOr, opXor, opDiff, opShr, opBit]
  refine callG_c (by simp) (by simp) ?ha (hc1) ?_
  (case ha => simp (disch := first | omega | (simp; done) | fail) [wrap64c, if_pos, if_neg, opAnd, opOr, opXor, opDiff, opShr, opBit])
  try simp (disch := first | omega | (simp; done) | fail) [wrap64c, if_pos, if_neg, opAnd, opOr, opXor, opDiff, opShr, opBit]
  refine callG_c (by simp) (by simp) ?ha (cloneNil_ok h1) ?_
  (case ha => simp (disch := first | omega | (simp; done) | fail) [wrap64c, if_pos, if_neg, opAnd, opOr, opXor, opDiff, opShr, opBit])
  have n1 := ha1.1.1
  have g11 : h1.get h.next = .cells [.int .i64 (n : Int), b] true true 1 := by rw [ha1.1.2 _ (by omega)]; exact g1
  have g21 : h1.get (h.next + 1) = .cells [.func (.func fid) #[] dc] true true 1 := by rw [ha1.1.2 _ (by omega)]; exact g2
  try simp (disch := first | omega | (simp; done) | fail) [wrap64c, if_pos, if_neg, opAnd, opOr, opXor, opDiff, opShr, opBit, putCells]
  first | refine WY_heap fun h2 q_h2 => ?_ | refine callG_heap fun h2 q_h2 => ?_ | refine callP_heap fun h2 q_h2 => ?_ | refine callS_heap fun h2 q_h2 => ?_ | refine RY_heap fun h2 q_h2 => ?_ | refine PY_heap fun h2 q_h2 => ?_ | refine SY_heap fun h2 q_h2 => ?_ | refine doneY_heap fun h2 q_h2 => ?_ | refine loopK_heap fun h2 q_h2 => ?_ | refine thenY_heap fun h2 q_h2 => ?_ | refine thenM_heap fun h2 q_h2 => ?_
  have k2 : Adds h1 h2 := by rw [q_h2]; exact (by first | exact aK | exact kK)
  have n2 : h2.next = h1.next + 4 := by simp [q_h2]
  have hn0 := (k0.trans ha1).1.1
  have A2 := (k0.trans ha1).trans k2
  have hw : WSu base S ⟨h.next, h.next + 1, fo, h1.next, h1.next + 1, h1.next + 2, h1.next + 3, h1.next + 4⟩ n (fam xs) b (toN xs) (.func (.func fid) #[] dc) h2 [] (.slice none 0 0) true := by
    constructor
    · dsimp only; omega
    · dsimp only; rw [k2.1.2 _ (by omega)]; exact g11
    · exact hb.keep A2.1
    · dsimp only; rw [k2.1.2 _ (by omega)]; exact g21
    · dsimp only; rw [k2.1.2 _ (by omega)]; exact hgf
    · simp [q_h2, show ¬ h1.next = h1.next + 1 + 2 by omega]
    · simp [q_h2]
    · simp [q_h2]
    · simp [q_h2]
    · exact WS.nil _ _
  have g22 : h2.get h.next = .cells [.int .i64 (n : Int), b] true true 1 := hw.gs
  have gn := hw.gn
  try simp (disch := first | omega | (simp; done) | fail) [wrap64c, if_pos, if_neg, opAnd, opOr, opXor, opDiff, opShr, opBit, g22, gn, g11]
  refine callG_c (by simp) (by simp) ?ha (setOfNil_ok h2 (.agg #[.int .i64 (n : Int), b]) n xs (.mk (hb.ints.keep A2.1)) g.lt7 (by omega)) ?_
  (case ha => simp (disch := first | omega | (simp; done) | fail) [wrap64c, if_pos, if_neg, opAnd, opOr, opXor, opDiff, opShr, opBit, g22, gn])
  try simp (disch := first | omega | (simp; done) | fail) [wrap64c, if_pos, if_neg, opAnd, opOr, opXor, opDiff, opShr, opBit, g22, gn]
  have P2 := D.stab s _ h h2 hP hbase A2.1.1 fun o ho _ => A2.1.2 o ho
  have hpc : pcN 0 = 0 := rfl
  obtain ⟨u, h3, hc3, v3, T3, hw3, P3, hT3, hT4, W3, _⟩ := nextU_ok P stop step Good base S fid dc D ⟨h.next, h.next + 1, fo, h1.next, h1.next + 1, h1.next + 2, h1.next + 3, h1.next + 4⟩ n xs g b (toN xs) n h2 [] 0 (.slice none 0 0) s (fun _ => False) hw hst P2 (fun _ hf => hf.elim) g.zero (by omega) (by simp) hgood
  refine callG_f (fst := #[]) (cap := #[.pointer (some ⟨h.next, 0, none⟩), .pointer (some ⟨h.next + 1, 0, none⟩), .pointer (some ⟨h1.next + 1, 0, none⟩), .pointer (some ⟨h1.next + 2, 0, none⟩), .pointer (some ⟨h1.next, 0, none⟩), .pointer (some ⟨h1.next + 3, 0, none⟩)]) (by simp) (by simp) ?hf ?hk ?ha (hc3) ?_
  (case hf => simp (disch := first | omega | (simp; done) | fail) [wrap64c, if_pos, if_neg, opAnd, opOr, opXor, opDiff, opShr, opBit, g22, gn]; try rfl)
  (case hk => simp (disch := first | omega | (simp; done) | fail) [wrap64c, if_pos, if_neg, opAnd, opOr, opXor, opDiff, opShr, opBit, g22, gn])
  (case ha => simp (disch := first | omega | (simp; done) | fail) [wrap64c, if_pos, if_neg, opAnd, opOr, opXor, opDiff, opShr, opBit, g22, gn])
  try simp (disch := first | omega | (simp; done) | fail) [wrap64c, if_pos, if_neg, opAnd, opOr, opXor, opDiff, opShr, opBit, g22, gn]
  refine done_end rfl ⟨wr_trans2 (.of_adds A2) W3 ?_, T3, P3, fun o ho => ⟨?_, (hT3 o ho).1.2⟩⟩
  · rintro o ho (e | e | e | e | e)
    · exact e
    · exact e.elim
    · dsimp only at e; omega
    · dsimp only at e; omega
    · cases e
  · rcases hT4 o ho with h1 | h1
    · exact h1.elim
    · omega
end Go.Proofs.Ytnncipcldbopgaa
namespace Go.Proofs.Ytnncipcldbopgaa
set_option linter.unusedSimpArgs false
set_option linter.unusedVariables false
set_option maxHeartbeats 4000000
open Go Go.Eng
attribute [local irreducible] WD RunD PreD Runs CallOK
theorem slEq_ok (h : Hp) (v w : Value) (X Y : List Int) (hv : Ints h v X) (hw : Ints h w Y) : CallOK Try.prog 169 #[v, w] h (.bool (decide (X = Y))) h := by
  refine callY_P 26 _ [.tmp 4] Try.func169 rfl rfl rfl (by first | rfl | simp) ?_
  have hL := hv.lenD
  have hM := hw.lenD
  have hlx := hv.len
  have hly := hw.len
  by_cases hl : X.length = Y.length
  · have hlb : ((X.length : Int) != (Y.length : Int)) = false := by simp [hl]
    try simp (disch := first | omega | (simp; done) | fail) [wrap64c, if_pos, if_neg, hL, hM, hlb]
    refine WD_loopC [0, 1, 12] (fun m tm h' => ∃ j, m = X.length - j ∧ h = h' ∧ tm 13 = .int .i64 (j : Int) ∧ (j ≤ X.length) ∧ (∀ i (h1 : i < X.length) (h2 : i < Y.length), i < j → X[i] = Y[i])) _ ⟨0, rfl, rfl, (by simp (disch := first | omega | (simp; done) | fail) [wrap64c, if_pos, if_neg, hL, hM, hlb]), (by first | omega | assumption | (simp (disch := first | omega | (simp; done) | fail) [wrap64c, if_pos, if_neg, hL, hM, hlb] <;> omega)), (by intro i h1 h2 h3; omega)⟩ ?_
    rintro m tm h' hFr ⟨j, rfl, rfl, e13, hj, hx⟩
    simp only [FrameL] at hFr
    obtain ⟨f0_0, f1_0, f12_0, -⟩ := hFr
    try simp (disch := first | omega | (simp; done) | fail) [wrap64c, if_pos, if_neg, hL, hM, hlb] at f0_0 f1_0 f12_0
    have e0 := f0_0
    have e1 := f1_0
    have e12 := f12_0
    by_cases hlt : j < X.length
    · have hlt2 : j < Y.length := by omega
      obtain ⟨o_x, i_x, c_x, cs_x, own_x, ex_x, es_x, q_x, b_x, g_x, l_x, r_x⟩ := hv.open ((by omega))
      have z_x : ∀ h2 : i_x < cs_x.length, cs_x[i_x] = _ := fun h2 => r_x 0 ((by omega)) h2
      obtain ⟨o_y, i_y, c_y, cs_y, own_y, ex_y, es_y, q_y, b_y, g_y, l_y, r_y⟩ := hw.open ((by omega))
      have z_y : ∀ h2 : i_y < cs_y.length, cs_y[i_y] = _ := fun h2 => r_y 0 ((by omega)) h2
      try simp (disch := first | omega | (simp; done) | fail) [wrap64c, if_pos, if_neg, hL, hM, hlb, e0, e1, e12, e13, hlt, hlt2, q_x, g_x, l_x, r_x, z_x, q_y, g_y, l_y, r_y, z_y]
      refine WD_drawC 8 rfl (by kernel_rfl) ?_
      by_cases he : X[j] = Y[j]
      · have hb : (X[j] != Y[j]) = false := by simp [he]
        try simp (disch := first | omega | (simp; done) | fail) [wrap64c, if_pos, if_neg, hL, hM, hlb, e0, e1, e12, e13, hlt, hlt2, q_x, g_x, l_x, r_x, z_x, q_y, g_y, l_y, r_y, z_y, hb]
        refine loopK_next _ ?hm ?hf ⟨j + 1, rfl, rfl, (by simp (disch := first | omega | (simp; done) | fail) [wrap64c, if_pos, if_neg, hL, hM, hlb, e0, e1, e12, e13, hlt, hlt2, q_x, g_x, l_x, r_x, z_x, q_y, g_y, l_y, r_y, z_y] <;> omega), (by first | omega | assumption | (simp (disch := first | omega | (simp; done) | fail) [wrap64c, if_pos, if_neg, hL, hM, hlb, e0, e1, e12, e13, hlt, hlt2, q_x, g_x, l_x, r_x, z_x, q_y, g_y, l_y, r_y, z_y] <;> omega)), ?c_hx⟩
        (case hm => first | omega | (simp; omega))
        (case hf => simp [FrameL, hL, hM, hlb, e0, e1, e12, e13, hlt, hlt2, q_x, g_x, l_x, r_x, z_x, q_y, g_y, l_y, r_y, z_y, f0_0, f1_0, f12_0])
        case c_hx =>
          exact (fun i h1 h2 hi => by
            by_cases e : i = j
            · subst e; exact he
            · exact hx i h1 h2 (by omega))
      · have hb : (X[j] != Y[j]) = true := by simp [he]
        have hne : ¬ X = Y := fun e => he (by subst e; rfl)
        try simp (disch := first | omega | (simp; done) | fail) [wrap64c, if_pos, if_neg, hL, hM, hlb, e0, e1, e12, e13, hlt, hlt2, q_x, g_x, l_x, r_x, z_x, q_y, g_y, l_y, r_y, z_y, hb]
        exact done_ret rfl (by simp [hne])
    · try simp (disch := first | omega | (simp; done) | fail) [wrap64c, if_pos, if_neg, hL, hM, hlb, e0, e1, e12, e13, hlt]
      have e : X = Y := List.ext_getElem hl fun i h1 h2 => hx i h1 h2 (by omega)
      exact done_ret rfl (by simp [e])
  · have hlb : ((X.length : Int) != (Y.length : Int)) = true := by simp; omega
    have hne : ¬ X = Y := fun e => hl (by rw [e])
    try simp (disch := first | omega | (simp; done) | fail) [wrap64c, if_pos, if_neg, hL, hM, hlb]
    exact done_ret rfl (by simp [hne])
end Go.Proofs.Ytnncipcldbopgaa
namespace Go.Proofs.Ytnncipcldbopgaa
set_option linter.unusedSimpArgs false
set_option linter.unusedVariables false
set_option maxHeartbeats 4000000
open Go Go.Eng
attribute [local irreducible] WD RunD PreD Runs CallOK
def stepW (M : Nat → Bool) (n s : Nat) (i : Int) : Option Nat := if 0 ≤ i ∧ i < (n : Int) ∧ s.testBit i.toNat = false ∧ M (nOr s (bit i.toNat)) = true then some (nOr s (bit i.toNat)) else none
def setF (M : Nat → Bool) (n : Nat) : List Int → Nat → Option Nat
  | [], s => some s
  | i :: l, s => match stepW M n s i with
    | some t => setF M n l t
    | none => none
theorem setF_snoc (M : Nat → Bool) (n : Nat) (i : Int) : ∀ (l : List Int) (s : Nat), setF M n (l ++ [i]) s = (setF M n l s).bind fun t => stepW M n t i
  | [], s => by
    simp only [List.nil_append, setF, Option.bind_some]
    cases stepW M n s i <;> rfl
  | a :: l, s => by
    simp only [List.cons_append, setF]
    cases stepW M n s a with
    | none => rfl
    | some t => exact setF_snoc M n i l t
theorem setF_none (M : Nat → Bool) (n : Nat) {W : List Int} {j : Nat} (hj : j ≤ W.length) (h : setF M n (W.take j) 0 = none) : setF M n W 0 = none := by
  have : ∀ (l m : List Int) (s : Nat), setF M n l s = none → setF M n (l ++ m) s = none := by
    intro l
    induction l with
    | nil => intro m s h; simp [setF] at h
    | cons a l ih =>
      intro m s h
      simp only [List.cons_append, setF] at h ⊢
      cases hs : stepW M n s a with
      | none => rfl
      | some t => rw [hs] at h; exact ih m t h
  have e := this (W.take j) (W.drop j) 0 h
  rwa [List.take_append_drop] at e
theorem stepW_lt {M : Nat → Bool} {n s t : Nat} {i : Int} (hs : s < bit n) (h : stepW M n s i = some t) : t < bit n := by
  unfold stepW at h
  split at h
  · rename_i hc
    cases h
    exact nOr_lt hs (bit_lt_bit (by omega))
  · cases h
theorem setF_lt {M : Nat → Bool} {n : Nat} : ∀ {l : List Int} {s t : Nat}, s < bit n → setF M n l s = some t → t < bit n
  | [], s, t, hs, h => by cases h; exact hs
  | i :: l, s, t, hs, h => by
    simp only [setF] at h
    cases hst : stepW M n s i with
    | none => rw [hst] at h; cases h
    | some r => rw [hst] at h; exact setF_lt (stepW_lt hs hst) h
theorem setOf_ok (h : Hp) (v w : Value) (n : Nat) (xs : List Nat) (W : List Int) (hv : Space h v n (toN xs)) (hw : Ints h w W) (g : SpGood n xs) :
    CallOK Try.prog 249 #[v, w] h (.tuple #[.int .i64 (((setF (fam xs) n W 0).getD 0 : Nat) : Int), .bool (setF (fam xs) n W 0).isSome]) h := by
  refine callY_P 48 _ [.tmp 4, .tmp 5] Try.func249 rfl rfl rfl (by first | rfl | simp) ?_
  obtain ⟨b, rfl, hX⟩ := hv
  have ntw := hw.nt
  have csw := hw.cs
  refine WD_first ?_
  try simp (disch := first | omega | (simp; done) | fail) [wrap64c, if_pos, if_neg, opAnd, opOr, opXor, opDiff, opShr, opBit, ntw, csw]
  refine stopK_heap fun h0 q_h0 => ?_
  refine stopK_go ?_
  have g_h0 : h0.get h.next = .cells [.int .i64 n, b] true true 1 := by simp [q_h0]
  have k_h0 : Adds h h0 := by rw [q_h0]; exact (by first | exact aK | exact kK)
  have n_h0 : h.next < h0.next := by simp [q_h0]; try omega
  have hX0 := hX.keep k_h0.1
  have hw0 := hw.keep k_h0.1
  have hl7 := g.len7
  have n7 := g.n7
  have hb := bit7 n7
  obtain ⟨_, h1, p1, fo, rfl, a1, b1, b2, q1⟩ := family_ok h0 (.agg #[.int .i64 n, b]) n xs (.mk hX0) g.lt7 (by omega)
  have K1 := k_h0.1.trans a1.1
  have hw1 := hw0.keep a1.1
  have hL := hw1.lenD
  have hwl := hw1.len
  have gb : h1.get h.next = .cells [.int .i64 n, b] true true 1 := by rw [a1.1.2 _ (by omega)]; exact g_h0
  have q1' := q1
  have hf := famC_getD (fam xs)
  have hf2 := famC_at (fam xs)
  try simp (disch := first | omega | (simp; done) | fail) [wrap64c, if_pos, if_neg, opAnd, opOr, opXor, opDiff, opShr, opBit, ntw, csw, g_h0, hL, gb, q1', hf, hf2]
  refine callG_c (by simp) (by simp) ?ha (p1) ?_
  (case ha => simp (disch := first | omega | (simp; done) | fail) [wrap64c, if_pos, if_neg, opAnd, opOr, opXor, opDiff, opShr, opBit, ntw, csw, g_h0, hL, gb, q1', hf, hf2])
  try simp (disch := first | omega | (simp; done) | fail) [wrap64c, if_pos, if_neg, opAnd, opOr, opXor, opDiff, opShr, opBit, ntw, csw, g_h0, hL, gb, q1', hf, hf2]
  refine WD_loopC [2, 6, 12, 13] (fun m tm h' => ∃ j s, m = W.length - j + 0 * s ∧ h1 = h' ∧ tm 7 = .int .i64 (s : Int) ∧ tm 14 = .int .i64 (j : Int) ∧ (j ≤ W.length) ∧ (setF (fam xs) n (W.take j) 0 = some s)) _ ⟨0, 0, rfl, rfl, (by simp (disch := first | omega | (simp; done) | fail) [wrap64c, if_pos, if_neg, opAnd, opOr, opXor, opDiff, opShr, opBit, ntw, csw, g_h0, hL, gb, q1', hf, hf2]), (by simp (disch := first | omega | (simp; done) | fail) [wrap64c, if_pos, if_neg, opAnd, opOr, opXor, opDiff, opShr, opBit, ntw, csw, g_h0, hL, gb, q1', hf, hf2]), (by first | omega | assumption | (simp (disch := first | omega | (simp; done) | fail) [wrap64c, if_pos, if_neg, opAnd, opOr, opXor, opDiff, opShr, opBit, ntw, csw, g_h0, hL, gb, q1', hf, hf2] <;> omega)), (by simp [setF])⟩ ?_
  rintro m tm h' hFr ⟨j, s, rfl, rfl, e7, e14, hj, hs⟩
  simp only [FrameL] at hFr
  obtain ⟨f2_0, f6_0, f12_0, f13_0, -⟩ := hFr
  try simp (disch := first | omega | (simp; done) | fail) [wrap64c, if_pos, if_neg, opAnd, opOr, opXor, opDiff, opShr, opBit, ntw, csw, g_h0, hL, gb, q1', hf, hf2] at f2_0 f6_0 f12_0 f13_0
  have e2 := f2_0
  have e6 := f6_0
  have e12 := f12_0
  have e13 := f13_0
  have hs7 : s < bit n := setF_lt (by omega) hs
  by_cases hlt : j < W.length
  · have hsn := setF_snoc (fam xs) n W[j] (W.take j) 0
    rw [← List.take_succ_eq_append_getElem hlt, hs, Option.bind_some] at hsn
    obtain ⟨i, hi⟩ : ∃ i, i = W[j] := ⟨_, rfl⟩
    have hi' := hi.symm
    rw [← hi] at hsn
    obtain ⟨o_x, i_x, c_x, cs_x, own_x, ex_x, es_x, q_x, b_x, g_x, l_x, r_x⟩ := hw1.open ((by omega))
    have z_x : ∀ h2 : i_x < cs_x.length, cs_x[i_x] = _ := fun h2 => r_x 0 ((by omega)) h2
    have hwn := within_ok h1 i 0 ((n : Int) - 1)
    by_cases k1 : 0 ≤ i ∧ i ≤ (n : Int) - 1
    · rw [decide_eq_true k1] at hwn
      obtain ⟨a, ha⟩ : ∃ a : Nat, i = (a : Int) := ⟨i.toNat, by omega⟩
      have ha' := ha
      have han : a < n := by omega
      have hba := bit7 (i := a) (by omega)
      have hta : i.toNat = a := by omega
      have ho : nOr s (bit a) < bit n := nOr_lt hs7 (bit_lt_bit han)
      have h01 := nShr_and01 s a
      have hsl := nShr_le s a
      unfold stepW at hsn
      rw [hta] at hsn
      cases k2 : s.testBit a
      · rw [k2] at h01 hsn
        have h01 := h01
        cases k3 : fam xs (nOr s (bit a))
        · rw [k3] at hsn
          have hno := setF_none (fam xs) n (by omega) (hsn.trans (by simp))
          have k3 := k3
          try simp (disch := first | omega | (simp; done) | fail) [wrap64c, if_pos, if_neg, opAnd, opOr, opXor, opDiff, opShr, opBit, ntw, csw, g_h0, hL, gb, q1', hf, hf2, e2, e6, e7, e12, e13, e14, hlt, hi', q_x, g_x, l_x, r_x, z_x, ha', h01, k3]
          refine WD_chainC rfl (by kernel_rfl) (by kernel_rfl) ?_
          try simp (disch := first | omega | (simp; done) | fail) [wrap64c, if_pos, if_neg, opAnd, opOr, opXor, opDiff, opShr, opBit, ntw, csw, g_h0, hL, gb, q1', hf, hf2, e2, e6, e7, e12, e13, e14, hlt, hi', q_x, g_x, l_x, r_x, z_x, ha', h01, k3]
          refine callG_c (by simp) (by simp) ?ha (hwn) ?_
          (case ha => simp (disch := first | omega | (simp; done) | fail) [wrap64c, if_pos, if_neg, opAnd, opOr, opXor, opDiff, opShr, opBit, ntw, csw, g_h0, hL, gb, q1', hf, hf2, e2, e6, e7, e12, e13, e14, hlt, hi', q_x, g_x, l_x, r_x, z_x, ha', h01, k3])
          try simp (disch := first | omega | (simp; done) | fail) [wrap64c, if_pos, if_neg, opAnd, opOr, opXor, opDiff, opShr, opBit, ntw, csw, g_h0, hL, gb, q1', hf, hf2, e2, e6, e7, e12, e13, e14, hlt, hi', q_x, g_x, l_x, r_x, z_x, ha', h01, k3]
          exact done_ret rfl (by simp [hno, K1])
        · rw [k3] at hsn
          have k3 := k3
          try simp (disch := first | omega | (simp; done) | fail) [wrap64c, if_pos, if_neg, opAnd, opOr, opXor, opDiff, opShr, opBit, ntw, csw, g_h0, hL, gb, q1', hf, hf2, e2, e6, e7, e12, e13, e14, hlt, hi', q_x, g_x, l_x, r_x, z_x, ha', h01, k3]
          refine WD_chainC rfl (by kernel_rfl) (by kernel_rfl) ?_
          try simp (disch := first | omega | (simp; done) | fail) [wrap64c, if_pos, if_neg, opAnd, opOr, opXor, opDiff, opShr, opBit, ntw, csw, g_h0, hL, gb, q1', hf, hf2, e2, e6, e7, e12, e13, e14, hlt, hi', q_x, g_x, l_x, r_x, z_x, ha', h01, k3]
          refine callG_c (by simp) (by simp) ?ha (hwn) ?_
          (case ha => simp (disch := first | omega | (simp; done) | fail) [wrap64c, if_pos, if_neg, opAnd, opOr, opXor, opDiff, opShr, opBit, ntw, csw, g_h0, hL, gb, q1', hf, hf2, e2, e6, e7, e12, e13, e14, hlt, hi', q_x, g_x, l_x, r_x, z_x, ha', h01, k3])
          try simp (disch := first | omega | (simp; done) | fail) [wrap64c, if_pos, if_neg, opAnd, opOr, opXor, opDiff, opShr, opBit, ntw, csw, g_h0, hL, gb, q1', hf, hf2, e2, e6, e7, e12, e13, e14, hlt, hi', q_x, g_x, l_x, r_x, z_x, ha', h01, k3]
          refine loopK_next _ ?hm ?hf ⟨j + 1, nOr s (bit a), rfl, rfl, (by simp (disch := first | omega | (simp; done) | fail) [wrap64c, if_pos, if_neg, opAnd, opOr, opXor, opDiff, opShr, opBit, ntw, csw, g_h0, hL, gb, q1', hf, hf2, e2, e6, e7, e12, e13, e14, hlt, hi', q_x, g_x, l_x, r_x, z_x, ha', h01, k3] <;> omega), (by simp (disch := first | omega | (simp; done) | fail) [wrap64c, if_pos, if_neg, opAnd, opOr, opXor, opDiff, opShr, opBit, ntw, csw, g_h0, hL, gb, q1', hf, hf2, e2, e6, e7, e12, e13, e14, hlt, hi', q_x, g_x, l_x, r_x, z_x, ha', h01, k3] <;> omega), (by first | omega | assumption | (simp (disch := first | omega | (simp; done) | fail) [wrap64c, if_pos, if_neg, opAnd, opOr, opXor, opDiff, opShr, opBit, ntw, csw, g_h0, hL, gb, q1', hf, hf2, e2, e6, e7, e12, e13, e14, hlt, hi', q_x, g_x, l_x, r_x, z_x, ha', h01, k3] <;> omega)), (by rw [hsn, if_pos ⟨k1.1, by omega, rfl, rfl⟩])⟩
          (case hm => first | omega | (simp; omega))
          (case hf => simp [FrameL, ntw, csw, g_h0, hL, gb, q1', hf, hf2, e2, e6, e7, e12, e13, e14, hlt, hi', q_x, g_x, l_x, r_x, z_x, ha', h01, k3, f2_0, f6_0, f12_0, f13_0])
      · rw [k2] at h01 hsn
        have h01 := h01
        have hno := setF_none (fam xs) n (by omega) (hsn.trans (by simp))
        try simp (disch := first | omega | (simp; done) | fail) [wrap64c, if_pos, if_neg, opAnd, opOr, opXor, opDiff, opShr, opBit, ntw, csw, g_h0, hL, gb, q1', hf, hf2, e2, e6, e7, e12, e13, e14, hlt, hi', q_x, g_x, l_x, r_x, z_x, ha', h01]
        refine WD_chainC rfl (by kernel_rfl) (by kernel_rfl) ?_
        try simp (disch := first | omega | (simp; done) | fail) [wrap64c, if_pos, if_neg, opAnd, opOr, opXor, opDiff, opShr, opBit, ntw, csw, g_h0, hL, gb, q1', hf, hf2, e2, e6, e7, e12, e13, e14, hlt, hi', q_x, g_x, l_x, r_x, z_x, ha', h01]
        refine callG_c (by simp) (by simp) ?ha (hwn) ?_
        (case ha => simp (disch := first | omega | (simp; done) | fail) [wrap64c, if_pos, if_neg, opAnd, opOr, opXor, opDiff, opShr, opBit, ntw, csw, g_h0, hL, gb, q1', hf, hf2, e2, e6, e7, e12, e13, e14, hlt, hi', q_x, g_x, l_x, r_x, z_x, ha', h01])
        try simp (disch := first | omega | (simp; done) | fail) [wrap64c, if_pos, if_neg, opAnd, opOr, opXor, opDiff, opShr, opBit, ntw, csw, g_h0, hL, gb, q1', hf, hf2, e2, e6, e7, e12, e13, e14, hlt, hi', q_x, g_x, l_x, r_x, z_x, ha', h01]
        exact done_ret rfl (by simp [hno, K1])
    · rw [decide_eq_false k1] at hwn
      have hno := setF_none (fam xs) n (by omega) (hsn.trans (by unfold stepW; rw [if_neg]; intro hc; exact k1 ⟨hc.1, by omega⟩))
      try simp (disch := first | omega | (simp; done) | fail) [wrap64c, if_pos, if_neg, opAnd, opOr, opXor, opDiff, opShr, opBit, ntw, csw, g_h0, hL, gb, q1', hf, hf2, e2, e6, e7, e12, e13, e14, hlt, hi', q_x, g_x, l_x, r_x, z_x]
      refine WD_chainC rfl (by kernel_rfl) (by kernel_rfl) ?_
      try simp (disch := first | omega | (simp; done) | fail) [wrap64c, if_pos, if_neg, opAnd, opOr, opXor, opDiff, opShr, opBit, ntw, csw, g_h0, hL, gb, q1', hf, hf2, e2, e6, e7, e12, e13, e14, hlt, hi', q_x, g_x, l_x, r_x, z_x]
      refine callG_c (by simp) (by simp) ?ha (hwn) ?_
      (case ha => simp (disch := first | omega | (simp; done) | fail) [wrap64c, if_pos, if_neg, opAnd, opOr, opXor, opDiff, opShr, opBit, ntw, csw, g_h0, hL, gb, q1', hf, hf2, e2, e6, e7, e12, e13, e14, hlt, hi', q_x, g_x, l_x, r_x, z_x])
      try simp (disch := first | omega | (simp; done) | fail) [wrap64c, if_pos, if_neg, opAnd, opOr, opXor, opDiff, opShr, opBit, ntw, csw, g_h0, hL, gb, q1', hf, hf2, e2, e6, e7, e12, e13, e14, hlt, hi', q_x, g_x, l_x, r_x, z_x]
      exact done_ret rfl (by simp [hno, K1])
  · rw [List.take_of_length_le (by omega)] at hs
    try simp (disch := first | omega | (simp; done) | fail) [wrap64c, if_pos, if_neg, opAnd, opOr, opXor, opDiff, opShr, opBit, ntw, csw, g_h0, hL, gb, q1', hf, hf2, e2, e6, e7, e12, e13, e14, hlt]
    exact done_ret rfl (by simp [hs, K1])
noncomputable def wordB (N : Int) (X W : List Int) : Bool := spB N X && (setF (fam (natsOf X)) N.toNat W 0).isSome
noncomputable def fullB (N : Int) (X W : List Int) : Bool := wordB N X W && decide ((W.length : Int) = N)
theorem isWord_ok (h : Hp) (v w : Value) (N : Int) (X W : List Int) (hv : Space h v N X) (hw : Ints h w W) (hl : X.length < 2 ^ 40) : CallOK Try.prog 250 #[v, w] h (.bool (wordB N X W)) h := by
  refine callY_P 17 _ [.tmp 4] Try.func250 rfl rfl rfl (by first | rfl | simp) ?_
  obtain ⟨b, rfl, hX⟩ := hv
  have ntw := hw.nt
  have csw := hw.cs
  refine WD_first ?_
  try simp (disch := first | omega | (simp; done) | fail) [wrap64c, if_pos, if_neg, opAnd, opOr, opXor, opDiff, opShr, opBit, ntw, csw]
  refine stopK_heap fun h0 q_h0 => ?_
  refine stopK_go ?_
  have g_h0 : h0.get h.next = .cells [.int .i64 N, b] true true 1 := by simp [q_h0]
  have k_h0 : Adds h h0 := by rw [q_h0]; exact (by first | exact aK | exact kK)
  have n_h0 : h.next < h0.next := by simp [q_h0]; try omega
  have hX0 := hX.keep k_h0.1
  have K0 := k_h0.1
  try simp (disch := first | omega | (simp; done) | fail) [wrap64c, if_pos, if_neg, opAnd, opOr, opXor, opDiff, opShr, opBit, ntw, csw, g_h0]
  refine callG_c (by simp) (by simp) ?ha (isSpace_ok h0 (.agg #[.int .i64 N, b]) N X (.mk hX0) hl) ?_
  (case ha => simp (disch := first | omega | (simp; done) | fail) [wrap64c, if_pos, if_neg, opAnd, opOr, opXor, opDiff, opShr, opBit, ntw, csw, g_h0])
  cases c1 : spB N X
  · try simp (disch := first | omega | (simp; done) | fail) [wrap64c, if_pos, if_neg, opAnd, opOr, opXor, opDiff, opShr, opBit, ntw, csw, g_h0, c1]
    exact done_ret rfl (by simp [wordB, c1, K0])
  · obtain ⟨n, xs, hN, hXe, g⟩ := spB_true c1
    subst hN hXe
    try simp (disch := first | omega | (simp; done) | fail) [wrap64c, if_pos, if_neg, opAnd, opOr, opXor, opDiff, opShr, opBit, ntw, csw, g_h0, c1]
    refine callG_c (by simp) (by simp) ?ha (setOf_ok h0 (.agg #[.int .i64 n, b]) w n xs W (.mk hX0) (hw.keep K0) g) ?_
    (case ha => simp (disch := first | omega | (simp; done) | fail) [wrap64c, if_pos, if_neg, opAnd, opOr, opXor, opDiff, opShr, opBit, ntw, csw, g_h0, c1])
    try simp (disch := first | omega | (simp; done) | fail) [wrap64c, if_pos, if_neg, opAnd, opOr, opXor, opDiff, opShr, opBit, ntw, csw, g_h0, c1]
    exact done_ret rfl (by simp [wordB, c1, K0])
theorem isFull_ok (h : Hp) (v w : Value) (N : Int) (X W : List Int) (hv : Space h v N X) (hw : Ints h w W) (hl : X.length < 2 ^ 40) : CallOK Try.prog 209 #[v, w] h (.bool (fullB N X W)) h := by
  refine callY_P 15 _ [.tmp 4] Try.func209 rfl rfl rfl (by first | rfl | simp) ?_
  obtain ⟨b, rfl, hX⟩ := hv
  have ntw := hw.nt
  have csw := hw.cs
  refine WD_first ?_
  try simp (disch := first | omega | (simp; done) | fail) [wrap64c, if_pos, if_neg, opAnd, opOr, opXor, opDiff, opShr, opBit, ntw, csw]
  refine stopK_heap fun h0 q_h0 => ?_
  refine stopK_go ?_
  have g_h0 : h0.get h.next = .cells [.int .i64 N, b] true true 1 := by simp [q_h0]
  have k_h0 : Adds h h0 := by rw [q_h0]; exact (by first | exact aK | exact kK)
  have n_h0 : h.next < h0.next := by simp [q_h0]; try omega
  have hX0 := hX.keep k_h0.1
  have K0 := k_h0.1
  have hL := hw.lenD
  try simp (disch := first | omega | (simp; done) | fail) [wrap64c, if_pos, if_neg, opAnd, opOr, opXor, opDiff, opShr, opBit, ntw, csw, g_h0, hL]
  refine callG_c (by simp) (by simp) ?ha (isWord_ok h0 (.agg #[.int .i64 N, b]) w N X W (.mk hX0) (hw.keep K0) hl) ?_
  (case ha => simp (disch := first | omega | (simp; done) | fail) [wrap64c, if_pos, if_neg, opAnd, opOr, opXor, opDiff, opShr, opBit, ntw, csw, g_h0, hL])
  cases c1 : wordB N X W
  · try simp (disch := first | omega | (simp; done) | fail) [wrap64c, if_pos, if_neg, opAnd, opOr, opXor, opDiff, opShr, opBit, ntw, csw, g_h0, hL, c1]
    exact done_ret rfl (by simp [fullB, c1, K0])
  · try simp (disch := first | omega | (simp; done) | fail) [wrap64c, if_pos, if_neg, opAnd, opOr, opXor, opDiff, opShr, opBit, ntw, csw, g_h0, hL, c1]
    refine done_ret rfl ⟨?_, K0⟩
    by_cases hc : (W.length : Int) = N <;> simp [fullB, c1, hc]
theorem rankClo_ok (h : Hp) (oW oN : Nat) (v u : Value) (W : List Nat) (Y : List Int) (s : Int) (gW : h.get oW = .cells [u] true true 1) (gN : h.get oN = .cells [.int .i64 s] true true 1) (hv : Ints h v (toN W)) (hu : Ints h u Y) :
    ∃ v' h', CallOK Try.prog 246 #[v, .pointer (some ⟨oW, 0, none⟩), .pointer (some ⟨oN, 0, none⟩)] h v' h' ∧ v' = .bool (!decide (toN W = Y)) ∧ h' = if toN W = Y then h else h.put oN (.cells [.int .i64 (IntKind.wrap .i64 (s + 1))] true true 1) := by
  have ntu := hu.nt
  have csu := hu.cs
  have ntv := hv.nt
  have csv := hv.cs
  have this := slEq_ok h v u _ _ hv hu
  refine callY_L (args := [v, .pointer (some ⟨oW, 0, none⟩), .pointer (some ⟨oN, 0, none⟩)]) 10 _ [.tmp 4] Try.func246 rfl rfl rfl ?_
  have gW' := gW
  by_cases hc : toN W = Y
  · rw [decide_eq_true hc] at this
    try simp (disch := first | omega | (simp; done) | fail) [wrap64c, if_pos, if_neg, opAnd, opOr, opXor, opDiff, opShr, opBit, ntu, csu, ntv, csv, gW', gN]
    refine callG_c (by simp) (by simp) ?ha (this) ?_
    (case ha => simp (disch := first | omega | (simp; done) | fail) [wrap64c, if_pos, if_neg, opAnd, opOr, opXor, opDiff, opShr, opBit, ntu, csu, ntv, csv, gW', gN])
    try simp (disch := first | omega | (simp; done) | fail) [wrap64c, if_pos, if_neg, opAnd, opOr, opXor, opDiff, opShr, opBit, ntu, csu, ntv, csv, gW', gN]
    exact done_ret rfl (by simp [hc])
  · rw [decide_eq_false hc] at this
    try simp (disch := first | omega | (simp; done) | fail) [wrap64c, if_pos, if_neg, opAnd, opOr, opXor, opDiff, opShr, opBit, ntu, csu, ntv, csv, gW', gN]
    refine callG_c (by simp) (by simp) ?ha (this) ?_
    (case ha => simp (disch := first | omega | (simp; done) | fail) [wrap64c, if_pos, if_neg, opAnd, opOr, opXor, opDiff, opShr, opBit, ntu, csu, ntv, csv, gW', gN])
    try simp (disch := first | omega | (simp; done) | fail) [wrap64c, if_pos, if_neg, opAnd, opOr, opXor, opDiff, opShr, opBit, ntu, csu, ntv, csv, gW', gN, putCells]
    exact done_ret rfl (by simp [hc])
theorem implRank_ok (h : Hp) (v w : Value) (N : Int) (X W : List Int) (hv : Space h v N X) (hw : Ints h w W) (hl : X.length < 2 ^ 40) : ∃ v' h', CallOK Try.prog 200 #[v, w] h v' h' ∧ Adds h h' ∧ ∃ r : Int, v' = .tuple #[.int .i64 r, .bool (fullB N X W)] := by
  refine callY_L (args := [v, w]) 15 _ [.tmp 4, .tmp 5] Try.func200 rfl rfl rfl ?_
  obtain ⟨b, rfl, hX⟩ := hv
  have ntw := hw.nt
  have csw := hw.cs
  refine WD_first ?_
  try simp (disch := first | omega | (simp; done) | fail) [wrap64c, if_pos, if_neg, opAnd, opOr, opXor, opDiff, opShr, opBit, ntw, csw]
  refine stopK_heap fun h0 q_h0 => ?_
  refine stopK_go ?_
  have k0 : Adds h h0 := by rw [q_h0]; exact (by first | exact aK | exact kK)
  have n0 : h0.next = h.next + 2 := by simp [q_h0]
  have gs0 : h0.get h.next = .cells [.int .i64 N, b] true true 1 := by simp [q_h0]
  have gw0 : h0.get (h.next + 1) = .cells [w] true true 1 := by simp [q_h0]
  try simp (disch := first | omega | (simp; done) | fail) [wrap64c, if_pos, if_neg, opAnd, opOr, opXor, opDiff, opShr, opBit, ntw, csw, gs0, gw0]
  refine callG_c (by simp) (by simp) ?ha (isFull_ok h0 (.agg #[.int .i64 N, b]) w N X W (.mk (hX.keep k0.1)) (hw.keep k0.1) hl) ?_
  (case ha => simp (disch := first | omega | (simp; done) | fail) [wrap64c, if_pos, if_neg, opAnd, opOr, opXor, opDiff, opShr, opBit, ntw, csw, gs0, gw0])
  cases c1 : fullB N X W
  · try simp (disch := first | omega | (simp; done) | fail) [wrap64c, if_pos, if_neg, opAnd, opOr, opXor, opDiff, opShr, opBit, ntw, csw, gs0, gw0, c1]
    exact done_ret rfl ⟨k0, 0, by simp⟩
  · have c2 := c1
    unfold fullB wordB at c2
    simp only [Bool.and_eq_true] at c2
    obtain ⟨n, xs, hN, hXe, g⟩ := spB_true c2.1.1
    subst hN hXe
    try simp (disch := first | omega | (simp; done) | fail) [wrap64c, if_pos, if_neg, opAnd, opOr, opXor, opDiff, opShr, opBit, ntw, csw, gs0, gw0, c1, putCells]
    first | refine WY_heap fun h1 q_h1 => ?_ | refine callG_heap fun h1 q_h1 => ?_ | refine callP_heap fun h1 q_h1 => ?_ | refine callS_heap fun h1 q_h1 => ?_ | refine RY_heap fun h1 q_h1 => ?_ | refine PY_heap fun h1 q_h1 => ?_ | refine SY_heap fun h1 q_h1 => ?_ | refine doneY_heap fun h1 q_h1 => ?_ | refine loopK_heap fun h1 q_h1 => ?_ | refine thenY_heap fun h1 q_h1 => ?_ | refine thenM_heap fun h1 q_h1 => ?_
    have k1' : Adds h0 h1 := by rw [q_h1]; exact (by first | exact aK | exact kK)
    have k1 := k0.trans k1'
    have n1 : h1.next = h.next + 3 := by simp [q_h1]; omega
    have gs1 : h1.get h.next = .cells [.int .i64 n, b] true true 1 := by rw [k1'.1.2 _ (by omega)]; exact gs0
    have gw1 : h1.get (h.next + 1) = .cells [w] true true 1 := by rw [k1'.1.2 _ (by omega)]; exact gw0
    have gn1 : h1.get h0.next = .cells [.int .i64 0] true true 1 := by simp [q_h1]
    have D : DoerU (fun (s : Int × Bool) (T : Nat → Prop) h' => (∀ o, T o → False) ∧ h1.next ≤ h'.next ∧ (∀ o, o < h1.next → o ≠ h0.next → h'.get o = h1.get o) ∧ h'.get h0.next = .cells [.int .i64 s.1] true true 1) (fun s => s.2) (fun s u => if toN u = W then (s.1, true) else (IntKind.wrap .i64 (s.1 + 1), false)) (fun _ => True) h1.next (fun o => o = h0.next) 246 #[.pointer (some ⟨h.next + 1, 0, none⟩), .pointer (some ⟨h0.next, 0, none⟩)] := {
      stab := fun s T h' h'' hp hb1 hb2 hs => ⟨hp.1, by omega, fun o ho hne => by rw [hs o (by omega) (.inl ho)]; exact hp.2.2.1 o ho hne, by rw [hs _ (by omega) (.inl (by omega))]; exact hp.2.2.2⟩
      run := fun s T h' U u hst hp hb1 hv hg => by
        obtain ⟨hT, p1, p2, p3⟩ := hp
        have K1 : Keeps h h' := ⟨by omega, fun o ho => by rw [p2 o (by omega) (by omega)]; exact k1.1.2 o ho⟩
        obtain ⟨_, h3, hc3, rfl, he⟩ := rankClo_ok h' (h.next + 1) h0.next u w U W s.1 (by rw [p2 _ (by omega) (by omega)]; exact gw1) p3 hv (hw.keep K1)
        by_cases hc : toN U = W
        · rw [if_pos hc] at he
          subst he
          simp only [if_pos hc]
          rw [decide_eq_true hc] at hc3
          exact ⟨h3, hc3, .of_adds (adds_self _), fun _ => False, ⟨fun _ hf => hf, p1, p2, p3⟩, fun _ hf => hf.elim⟩
        · rw [if_neg hc] at he
          simp only [if_neg hc]
          rw [decide_eq_false hc] at hc3
          refine ⟨h3, hc3, ?_, fun _ => False, ⟨fun _ hf => hf, ?_, ?_, ?_⟩, fun _ hf => hf.elim⟩
          · rw [he]; exact (Wr.of_adds (adds_self _)).put (.inl rfl) fun _ => rfl
          · rw [he]; simpa using p1
          · intro o ho hne; rw [he]; simp [hne, p2 o ho hne]
          · rw [he]; simp
      low := fun o ho => by omega
      fn := by simp }
    have hX1 : IntsF (fun x => x < h1.next ∧ ¬ x = h0.next) h1 b (toN xs) := (hX.old.keep k1.1).sub fun o ho => by omega
    obtain ⟨u, h2, hc2, W2, T2, P2, hT2⟩ := wordsU_ok _ _ _ _ _ _ _ _ D n xs g h1 b (0, false) hX1 rfl ⟨fun _ hf => hf, Nat.le_refl _, fun o ho _ => rfl, gn1⟩ (Nat.le_refl _) (fun _ _ => trivial)
    generalize hst : (wordsF (fam xs) n n [] 0).foldl (stepU (fun s : Int × Bool => s.2) (fun s u => if toN u = W then (s.1, true) else (IntKind.wrap .i64 (s.1 + 1), false))) (0, false) = st at P2
    refine callG_c (by simp) (by simp) ?ha (hc2) ?_
    (case ha => simp (disch := first | omega | (simp; done) | fail) [wrap64c, if_pos, if_neg, opAnd, opOr, opXor, opDiff, opShr, opBit, ntw, csw, gs0, gw0, c1, gs1])
    have gc2 := P2.2.2.2
    try simp (disch := first | omega | (simp; done) | fail) [wrap64c, if_pos, if_neg, opAnd, opOr, opXor, opDiff, opShr, opBit, ntw, csw, gs0, gw0, c1, gs1, gc2]
    exact done_ret rfl ⟨k1.wr W2 fun o ho => by omega, st.1, by simp⟩
theorem iWord_ok (h : Hp) (v w : Value) (N : Int) (X W : List Int) (hv : Space h v N X) (hw : Ints h w W) (hl : X.length < 2 ^ 40) : CallOK Try.prog 95 #[v, w] h (.bool (fullB N X W)) h := by
  refine callY_P 14 _ [.tmp 4] Try.func95 rfl rfl rfl (by first | rfl | simp) ?_
  obtain ⟨b, rfl, hX⟩ := hv
  have ntw := hw.nt
  have csw := hw.cs
  refine WD_first ?_
  try simp (disch := first | omega | (simp; done) | fail) [wrap64c, if_pos, if_neg, opAnd, opOr, opXor, opDiff, opShr, opBit, ntw, csw]
  refine stopK_heap fun h0 q_h0 => ?_
  refine stopK_go ?_
  have g_h0 : h0.get h.next = .cells [.int .i64 N, b] true true 1 := by simp [q_h0]
  have k_h0 : Adds h h0 := by rw [q_h0]; exact (by first | exact aK | exact kK)
  have n_h0 : h.next < h0.next := by simp [q_h0]; try omega
  have K0 := k_h0.1
  obtain ⟨_, h1, pr, a1, r, rfl⟩ := implRank_ok h0 (.agg #[.int .i64 N, b]) w N X W (.mk (hX.keep K0)) (hw.keep K0) hl
  try simp (disch := first | omega | (simp; done) | fail) [wrap64c, if_pos, if_neg, opAnd, opOr, opXor, opDiff, opShr, opBit, ntw, csw, g_h0]
  refine callG_c (by simp) (by simp) ?ha (pr) ?_
  (case ha => simp (disch := first | omega | (simp; done) | fail) [wrap64c, if_pos, if_neg, opAnd, opOr, opXor, opDiff, opShr, opBit, ntw, csw, g_h0])
  try simp (disch := first | omega | (simp; done) | fail) [wrap64c, if_pos, if_neg, opAnd, opOr, opXor, opDiff, opShr, opBit, ntw, csw, g_h0]
  exact done_ret rfl (by simp [K0.trans a1.1])
end Go.Proofs.Ytnncipcldbopgaa
