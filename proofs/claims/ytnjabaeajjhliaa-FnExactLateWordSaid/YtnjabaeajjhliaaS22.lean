/- The greedy word of a space: always the first item with the least value comes next. -/
import Derived.Test.YtnjabaeajjhliaaS21
import Derived.Test.YtnjabaeajjhliaaS10
namespace Go.Proofs.Ytnjabaeajjhliaa
set_option linter.unusedSimpArgs false
set_option linter.unusedVariables false
set_option maxHeartbeats 4000000
open Go Go.Eng
attribute [local irreducible] WD RunD PreD Runs CallOK

/-- The first of some items with the least value. -/
def lessO (c : Nat → Int) (o : Option Nat) (i : Nat) : Option Nat := match o with
  | none => some i
  | some b => if c i < c b then some i else some b
def leastO (c : Nat → Int) : List Nat → Option Nat → Option Nat
  | [], o => o
  | i :: l, o => leastO c l (lessO c o i)
theorem leastO_snoc (c : Nat → Int) (a : Nat) : ∀ (l : List Nat) (o : Option Nat), leastO c (l ++ [a]) o = lessO c (leastO c l o) a
  | [], o => rfl
  | i :: l, o => by simp only [List.cons_append, leastO, leastO_snoc c a l]
theorem lessO_some (c : Nat → Int) (o : Option Nat) (i : Nat) : ∃ b, lessO c o i = some b ∧ (b = i ∨ o = some b) := by
  cases o with
  | none => exact ⟨i, rfl, .inl rfl⟩
  | some b =>
    simp only [lessO]
    by_cases h : c i < c b
    · exact ⟨i, by rw [if_pos h], .inl rfl⟩
    · exact ⟨b, by rw [if_neg h], .inr rfl⟩
theorem leastO_mem (c : Nat → Int) : ∀ (l : List Nat) (b : Nat), leastO c l none = some b → b ∈ l := by
  intro l
  suffices h : ∀ (l : List Nat) (o : Option Nat) (b : Nat), leastO c l o = some b → b ∈ l ∨ o = some b by
    intro b hb
    rcases h l none b hb with h1 | h1
    · exact h1
    · cases h1
  intro l
  induction l with
  | nil => intro o b h; exact .inr h
  | cons i l ih =>
    intro o b h
    rcases ih _ b h with h1 | h1
    · exact .inl (by simp [h1])
    · obtain ⟨b', e, h2⟩ := lessO_some c o i
      rw [e] at h1
      cases h1
      rcases h2 with rfl | h2
      · exact .inl (by simp)
      · exact .inr h2
theorem leastO_some (c : Nat → Int) {l : List Nat} (h : l ≠ []) : ∃ b, leastO c l none = some b ∧ b ∈ l := by
  suffices h' : ∀ (l : List Nat) (o : Option Nat), (l ≠ [] ∨ o ≠ none) → ∃ b, leastO c l o = some b by
    obtain ⟨b, hb⟩ := h' l none (.inl h)
    exact ⟨b, hb, leastO_mem c l b hb⟩
  intro l
  induction l with
  | nil =>
    intro o h
    cases o with
    | none => simp at h
    | some b => exact ⟨b, rfl⟩
  | cons i l ih =>
    intro o _
    obtain ⟨b, e, _⟩ := lessO_some c o i
    exact ih _ (.inr (by rw [e]; simp))
def optI : Option Nat → Int
  | none => -1
  | some b => (b : Int)
def optC (c : Nat → Int) : Option Nat → Int
  | none => 0
  | some b => c b
theorem leastO_congr {c d : Nat → Int} : ∀ (l : List Nat) (o : Option Nat), (∀ i ∈ l, c i = d i) → (∀ b, o = some b → c b = d b) → leastO c l o = leastO d l o
  | [], o, _, _ => rfl
  | i :: l, o, h, ho => by
    have e : lessO c o i = lessO d o i := by
      cases o with
      | none => rfl
      | some b => simp only [lessO, h i (by simp), ho b rfl]
    simp only [leastO, e]
    refine leastO_congr l _ (fun j hj => h j (by simp [hj])) fun b hb => ?_
    obtain ⟨b', e', h2⟩ := lessO_some d o i
    rw [e'] at hb
    cases hb
    rcases h2 with rfl | h2
    · exact h _ (by simp)
    · exact ho _ h2

/-- The item that comes next, the word and the set behind k items. -/
def nextG (c : Nat → Nat → Int) (M : Nat → Bool) (n s : Nat) : Nat := (leastO (c s) (itemsN (outerN M n s)) none).getD 0
def greedS (c : Nat → Nat → Int) (M : Nat → Bool) (n : Nat) : Nat → List Nat × Nat
  | 0 => ([], 0)
  | k + 1 => ((greedS c M n k).1 ++ [nextG c M n (greedS c M n k).2], nOr (greedS c M n k).2 (bit (nextG c M n (greedS c M n k).2)))
theorem greed_len (c : Nat → Nat → Int) (M : Nat → Bool) (n : Nat) : ∀ k, (greedS c M n k).1.length = k
  | 0 => rfl
  | k + 1 => by simp [greedS, greed_len c M n k]
theorem nextG_mem (c : Nat → Nat → Int) {M : Nat → Bool} {n s : Nat} (h : itemsN (outerN M n s) ≠ []) : leastO (c s) (itemsN (outerN M n s)) none = some (nextG c M n s) ∧ nextG c M n s ∈ itemsN (outerN M n s) := by
  obtain ⟨b, h1, h2⟩ := leastO_some (c s) h
  unfold nextG
  rw [h1]
  exact ⟨rfl, h2⟩
theorem greed_inv {n : Nat} {xs : List Nat} (g : SpGood n xs) (c : Nat → Nat → Int) : ∀ k, k ≤ n → (greedS c (fam xs) n k).2 ∈ xs ∧ pcN (greedS c (fam xs) n k).2 = k
  | 0, _ => ⟨g.zero, by show pcN 0 = 0; decide⟩
  | k + 1, hk => by
    obtain ⟨h1, h2⟩ := greed_inv g c k (by omega)
    have hne : (greedS c (fam xs) n k).2 ≠ bit n - 1 := by intro e; rw [e, pcN_full g.n7] at h2; omega
    have hm := (nextG_mem c (M := fam xs) (n := n) (s := (greedS c (fam xs) n k).2) (items_ne (by have := outerN_lt (fam xs) n (greedS c (fam xs) n k).2; have := bit7 g.n7; omega) (g.outer h1 hne))).2
    obtain ⟨l1, l2, l3⟩ := g.learn hm
    refine ⟨l3, ?_⟩
    rw [greedS, pcN_or (g.lt7 _ h1) (by have := g.n7; omega) l2, h2]
theorem greed_ne {n : Nat} {xs : List Nat} (g : SpGood n xs) (c : Nat → Nat → Int) {k : Nat} (hk : k < n) : itemsN (outerN (fam xs) n (greedS c (fam xs) n k).2) ≠ [] := by
  obtain ⟨h1, h2⟩ := greed_inv g c k (by omega)
  have hne : (greedS c (fam xs) n k).2 ≠ bit n - 1 := by intro e; rw [e, pcN_full g.n7] at h2; omega
  exact items_ne (by have := outerN_lt (fam xs) n (greedS c (fam xs) n k).2; have := bit7 g.n7; omega) (g.outer h1 hne)
theorem greed_end {n : Nat} {xs : List Nat} (g : SpGood n xs) (c : Nat → Nat → Int) {k : Nat} (hk : k ≤ n) : (greedS c (fam xs) n k).2 = bit n - 1 ↔ k = n := by
  obtain ⟨h1, h2⟩ := greed_inv g c k hk
  constructor
  · intro e; rw [e, pcN_full g.n7] at h2; omega
  · rintro rfl; exact (pcN_lt g.n7 (g.lt _ h1)).2 h2
def greedN (c : Nat → Nat → Int) (xs : List Nat) (n : Nat) : List Nat := (greedS c (fam xs) n n).1
@[simp] theorem greedN_len (c : Nat → Nat → Int) (xs : List Nat) (n : Nat) : (greedN c xs n).length = n := greed_len _ _ _ _

theorem greedy_ok (h : Hp) (v : Value) (n : Nat) (xs : List Nat) (c : Nat → Nat → Int) (f : Nat) (fst cap : Array Value) (hv : Space h v n (toN xs)) (g : SpGood n xs) (hf : fnOK Try.prog f = true)
    (hp : ∀ h' s i, Keeps h h' → s < 128 → i < n → CallOK Try.prog f (fst ++ #[.int .i64 (s : Int), .int .i64 (i : Int)] ++ cap) h' (.int .i64 (c s i)) h') :
    ∃ v' h', CallOK Try.prog 152 #[v, .func (.func f) fst cap] h v' h' ∧ Adds h h' ∧ IntsO (Btw h.next h'.next) h' v' (toN (greedN c xs n)) := by
  refine callY_L (args := [v, .func (.func f) fst cap]) 52 _ [.tmp 4] Try.func152 rfl rfl rfl ?_
  obtain ⟨b, rfl, hX⟩ := hv
  refine WD_first ?_
  try simp (disch := first | omega | (simp; done) | fail) [wrap64c, if_pos, if_neg, opAnd, opOr, opXor, opDiff, opShr, opBit]
  refine stopK_heap fun h0 q_h0 => ?_
  refine stopK_go ?_
  have g_h0 : h0.get h.next = .cells [.int .i64 n, b] true true 1 := by simp [q_h0]
  have k_h0 : Adds h h0 := by rw [q_h0]; exact (by first | exact aK | exact kK)
  have n_h0 : h.next < h0.next := by simp [q_h0]; try omega
  have hX1 := hX.keep k_h0.1
  have n7 := g.n7
  have hb7 := bit7 n7
  have hf1 := hf
  try simp (disch := first | omega | (simp; done) | fail) [wrap64c, if_pos, if_neg, opAnd, opOr, opXor, opDiff, opShr, opBit, g_h0, hf1]
  obtain ⟨_, h1, hc1, o1, rfl, ha1, ho1, ho2, hg1⟩ := family_ok h0 (.agg #[.int .i64 (n : Int), b]) n xs (.mk hX1) g.lt7 (by have := g.len7; omega)
  refine callG_c (by simp) (by simp) ?ha (hc1) ?_
  (case ha => simp (disch := first | omega | (simp; done) | fail) [wrap64c, if_pos, if_neg, opAnd, opOr, opXor, opDiff, opShr, opBit, g_h0, hf1])
  have g1 : h1.get h.next = .cells [.int .i64 n, b] true true 1 := by rw [ha1.1.2 _ (by omega)]; exact g_h0
  have A1 := k_h0.trans ha1
  have hX2 := hX1.keep ha1.1
  have hn1 := ha1.1.1
  try simp (disch := first | omega | (simp; done) | fail) [wrap64c, if_pos, if_neg, opAnd, opOr, opXor, opDiff, opShr, opBit, g_h0, hf1, g1]
  refine WD_loopC [1, 2, 5] (fun m tm h' => ∃ k u, m = n - k ∧ tm 6 = u ∧ tm 7 = .int .i64 (((greedS c (fam xs) n k).2 : Nat) : Int) ∧ (k ≤ n) ∧ (Adds h1 h') ∧ (IntsA h1.next h' u (toN (greedS c (fam xs) n k).1))) _ ⟨0, _, rfl, (by simp (disch := first | omega | (simp; done) | fail) [wrap64c, if_pos, if_neg, opAnd, opOr, opXor, opDiff, opShr, opBit, g_h0, hf1, g1]), (by simp [greedS]), (by first | omega | assumption | (simp (disch := first | omega | (simp; done) | fail) [wrap64c, if_pos, if_neg, opAnd, opOr, opXor, opDiff, opShr, opBit, g_h0, hf1, g1] <;> omega)), (by first | exact aK | exact kK), (.lit (ex := true) (Nat.le_refl _) (by simp) (by simp [greedS, toN]))⟩ ?_
  rintro m tm h' hFr ⟨k, u, rfl, e6, e7, hk, ha, hu⟩
  simp only [FrameL] at hFr
  obtain ⟨f1_0, f2_0, f5_0, -⟩ := hFr
  try simp (disch := first | omega | (simp; done) | fail) [wrap64c, if_pos, if_neg, opAnd, opOr, opXor, opDiff, opShr, opBit, g_h0, hf1, g1] at f1_0 f2_0 f5_0
  have e1 := f1_0
  have e2 := f2_0
  have e5 := f5_0
  have hlu := greed_len c (fam xs) n k
  obtain ⟨hi1, hi2⟩ := greed_inv g c k hk
  have hs128 := g.lt7 _ hi1
  have g1' : h'.get h.next = .cells [.int .i64 n, b] true true 1 := by rw [ha.1.2 _ (by omega)]; exact g1
  have hgf : h'.get o1 = .cells (famC (fam xs)) true true 1 := by rw [ha.1.2 _ (by omega)]; exact hg1
  have hn2 := ha.1.1
  try simp (disch := first | omega | (simp; done) | fail) [wrap64c, if_pos, if_neg, opAnd, opOr, opXor, opDiff, opShr, opBit, g_h0, hf1, g1, e1, e2, e5, e6, e7, g1']
  refine callG_c (by simp) (by simp) ?ha (all_ok h' (.agg #[.int .i64 (n : Int), b]) n _ (.mk (hX2.keep ha.1)) (by omega)) ?_
  (case ha => simp (disch := first | omega | (simp; done) | fail) [wrap64c, if_pos, if_neg, opAnd, opOr, opXor, opDiff, opShr, opBit, g_h0, hf1, g1, e1, e2, e5, e6, e7, g1'])
  by_cases hlt : k < n
  · have hne : ¬ ((greedS c (fam xs) n k).2 = bit n - 1) := fun e => by have := (greed_end g c hk).1 e; omega
    have hneb : ((((greedS c (fam xs) n k).2 : Nat) : Int) != ((bit n - 1 : Nat) : Int)) = true := by simp [hne]
    obtain ⟨s, hs⟩ : ∃ s, s = (greedS c (fam xs) n k).2 := ⟨_, rfl⟩
    have hout := outerN_lt (fam xs) n s
    have hwn := greed_ne g c hlt
    rw [← hs] at hwn hs128
    obtain ⟨hlo, hmem⟩ := nextG_mem c hwn
    obtain ⟨l1, l2, l3⟩ := g.learn hmem
    have hp64 := bit_lt7 (i := nextG c (fam xs) n s) (by omega)
    have hor := g.lt7 _ l3
    have hs2 := hs.symm
    try simp (disch := first | omega | (simp; done) | fail) [wrap64c, if_pos, if_neg, opAnd, opOr, opXor, opDiff, opShr, opBit, g_h0, hf1, g1, e1, e2, e5, e6, e7, g1', hneb, hs2]
    refine callG_c (by simp) (by simp) ?ha (imOuter_ok h' o1 (fam xs) true true 1 s (by omega) hgf (by omega)) ?_
    (case ha => simp (disch := first | omega | (simp; done) | fail) [wrap64c, if_pos, if_neg, opAnd, opOr, opXor, opDiff, opShr, opBit, g_h0, hf1, g1, e1, e2, e5, e6, e7, g1', hneb, hs2])
    have h7 := g.outer7 s
    try simp (disch := first | omega | (simp; done) | fail) [wrap64c, if_pos, if_neg, opAnd, opOr, opXor, opDiff, opShr, opBit, g_h0, hf1, g1, e1, e2, e5, e6, e7, g1', hneb, hs2, h7]
    obtain ⟨y, h2, hc2, ha2, hi2', _⟩ := items_ok h' (outerN (fam xs) n s) (by omega)
    refine callG_c (by simp) (by simp) ?ha (hc2) ?_
    (case ha => simp (disch := first | omega | (simp; done) | fail) [wrap64c, if_pos, if_neg, opAnd, opOr, opXor, opDiff, opShr, opBit, g_h0, hf1, g1, e1, e2, e5, e6, e7, g1', hneb, hs2, h7])
    have hu2 := hu.keep ha2.1
    have hn3 := ha2.1.1
    have hL := hi2'.lenD
    have hgt := toN_get (itemsN (outerN (fam xs) n s))
    have hln := toN_length (itemsN (outerN (fam xs) n s))
    have hl7 := items_len (outerN (fam xs) n s)
    have K2 := (A1.1.trans ha.1).trans ha2.1
    try simp (disch := first | omega | (simp; done) | fail) [wrap64c, if_pos, if_neg, opAnd, opOr, opXor, opDiff, opShr, opBit, g_h0, hf1, g1, e1, e2, e5, e6, e7, g1', hneb, hs2, h7, hL, hgt]
    refine WD_loopC [1, 2, 5, 6, 7, 23, 24] (fun m tm h' => ∃ j, m = (itemsN (outerN (fam xs) n s)).length - j ∧ h2 = h' ∧ tm 8 = .int .i64 (optI (leastO (c s) ((itemsN (outerN (fam xs) n s)).take j) none)) ∧ tm 9 = .int .i64 (optC (c s) (leastO (c s) ((itemsN (outerN (fam xs) n s)).take j) none)) ∧ tm 25 = .int .i64 (j : Int) ∧ (j ≤ (itemsN (outerN (fam xs) n s)).length)) _ ⟨0, rfl, rfl, (by simp [leastO, optI]), (by simp [leastO, optC]), (by simp (disch := first | omega | (simp; done) | fail) [wrap64c, if_pos, if_neg, opAnd, opOr, opXor, opDiff, opShr, opBit, g_h0, hf1, g1, e1, e2, e5, e6, e7, g1', hneb, hs2, h7, hL, hgt]), (by first | omega | assumption | (simp (disch := first | omega | (simp; done) | fail) [wrap64c, if_pos, if_neg, opAnd, opOr, opXor, opDiff, opShr, opBit, g_h0, hf1, g1, e1, e2, e5, e6, e7, g1', hneb, hs2, h7, hL, hgt] <;> omega))⟩ ?_
    rintro m tm h' hFr ⟨j, rfl, rfl, e8, e9, e25, hj⟩
    simp only [FrameL] at hFr
    obtain ⟨f1_1, f2_1, f5_1, f6_1, f7_1, f23_1, f24_1, -⟩ := hFr
    try simp (disch := first | omega | (simp; done) | fail) [wrap64c, if_pos, if_neg, opAnd, opOr, opXor, opDiff, opShr, opBit, g_h0, hf1, g1, e1, e2, e5, e6, e7, g1', hneb, hs2, h7, hL, hgt] at f1_1 f2_1 f5_1 f6_1 f7_1 f23_1 f24_1
    have e1 := f1_1
    have e2 := f2_1
    have e5 := f5_1
    have e6 := f6_1
    have e7 := f7_1
    have e23 := f23_1
    have e24 := f24_1
    by_cases hlt2 : j < (itemsN (outerN (fam xs) n s)).length
    · have hX3 := hi2'.ints
      obtain ⟨o_x, i_x, c_x, cs_x, own_x, ex_x, es_x, q_x, b_x, g_x, l_x, r_x⟩ := hX3.open ((by omega))
      have z_x : ∀ h2 : i_x < cs_x.length, cs_x[i_x] = _ := fun h2 => r_x 0 ((by omega)) h2
      have hin := (g.learn (List.getElem_mem hlt2)).1
      have hsn : leastO (c s) ((itemsN (outerN (fam xs) n s)).take (j + 1)) none = lessO (c s) (leastO (c s) ((itemsN (outerN (fam xs) n s)).take j) none) (itemsN (outerN (fam xs) n s))[j] := by rw [List.take_succ_eq_append_getElem hlt2]; exact leastO_snoc _ _ _ _
      try simp (disch := first | omega | (simp; done) | fail) [wrap64c, if_pos, if_neg, opAnd, opOr, opXor, opDiff, opShr, opBit, g_h0, hf1, g1, e1, e2, e5, e6, e7, g1', hneb, hs2, h7, hL, hgt, e8, e9, e23, e24, e25, hlt2, q_x, g_x, l_x, r_x, z_x]
      refine callG_f (fst := fst) (cap := cap) (by simp) (by simp) ?hf ?hk ?ha (hp h2 s (itemsN (outerN (fam xs) n s))[j] K2 hs128 hin) ?_
      (case hf => simp (disch := first | omega | (simp; done) | fail) [wrap64c, if_pos, if_neg, opAnd, opOr, opXor, opDiff, opShr, opBit, g_h0, hf1, g1, e1, e2, e5, e6, e7, g1', hneb, hs2, h7, hL, hgt, e8, e9, e23, e24, e25, hlt2, q_x, g_x, l_x, r_x, z_x]; try rfl)
      (case hk => simp (disch := first | omega | (simp; done) | fail) [wrap64c, if_pos, if_neg, opAnd, opOr, opXor, opDiff, opShr, opBit, g_h0, hf1, g1, e1, e2, e5, e6, e7, g1', hneb, hs2, h7, hL, hgt, e8, e9, e23, e24, e25, hlt2, q_x, g_x, l_x, r_x, z_x])
      (case ha => simp (disch := first | omega | (simp; done) | fail) [wrap64c, if_pos, if_neg, opAnd, opOr, opXor, opDiff, opShr, opBit, g_h0, hf1, g1, e1, e2, e5, e6, e7, g1', hneb, hs2, h7, hL, hgt, e8, e9, e23, e24, e25, hlt2, q_x, g_x, l_x, r_x, z_x])
      rcases ho : leastO (c s) ((itemsN (outerN (fam xs) n s)).take j) none with _ | b'
      · rw [ho] at hsn
        have hq1 : optI none = -1 := rfl
        try simp (disch := first | omega | (simp; done) | fail) [wrap64c, if_pos, if_neg, opAnd, opOr, opXor, opDiff, opShr, opBit, g_h0, hf1, g1, e1, e2, e5, e6, e7, g1', hneb, hs2, h7, hL, hgt, e8, e9, e23, e24, e25, hlt2, q_x, g_x, l_x, r_x, z_x, ho, hq1]
        refine loopK_next _ ?hm ?hf ⟨j + 1, rfl, rfl, (by simp [hsn, lessO, optI]), (by simp [hsn, lessO, optC]), (by simp (disch := first | omega | (simp; done) | fail) [wrap64c, if_pos, if_neg, opAnd, opOr, opXor, opDiff, opShr, opBit, g_h0, hf1, g1, e1, e2, e5, e6, e7, g1', hneb, hs2, h7, hL, hgt, e8, e9, e23, e24, e25, hlt2, q_x, g_x, l_x, r_x, z_x] <;> omega), (by first | omega | assumption | (simp (disch := first | omega | (simp; done) | fail) [wrap64c, if_pos, if_neg, opAnd, opOr, opXor, opDiff, opShr, opBit, g_h0, hf1, g1, e1, e2, e5, e6, e7, g1', hneb, hs2, h7, hL, hgt, e8, e9, e23, e24, e25, hlt2, q_x, g_x, l_x, r_x, z_x] <;> omega))⟩
        (case hm => first | omega | (simp; omega))
        (case hf => simp [FrameL, g_h0, hf1, g1, e1, e2, e5, e6, e7, g1', hneb, hs2, h7, hL, hgt, e8, e9, e23, e24, e25, hlt2, q_x, g_x, l_x, r_x, z_x, f1_1, f2_1, f5_1, f6_1, f7_1, f23_1, f24_1])
      · rw [ho] at hsn
        have hq1 : optI (some b') = (b' : Int) := rfl
        have hq2 : optC (c s) (some b') = c s b' := rfl
        have hq3 : ¬ (b' : Int) < 0 := by omega
        by_cases hcb : c s (itemsN (outerN (fam xs) n s))[j] < c s b'
        · try simp (disch := first | omega | (simp; done) | fail) [wrap64c, if_pos, if_neg, opAnd, opOr, opXor, opDiff, opShr, opBit, g_h0, hf1, g1, e1, e2, e5, e6, e7, g1', hneb, hs2, h7, hL, hgt, e8, e9, e23, e24, e25, hlt2, q_x, g_x, l_x, r_x, z_x, ho, hq1, hq2, hq3, hcb]
          refine loopK_next _ ?hm ?hf ⟨j + 1, rfl, rfl, (by simp [hsn, lessO, optI, hcb]), (by simp [hsn, lessO, optC, hcb]), (by simp (disch := first | omega | (simp; done) | fail) [wrap64c, if_pos, if_neg, opAnd, opOr, opXor, opDiff, opShr, opBit, g_h0, hf1, g1, e1, e2, e5, e6, e7, g1', hneb, hs2, h7, hL, hgt, e8, e9, e23, e24, e25, hlt2, q_x, g_x, l_x, r_x, z_x] <;> omega), (by first | omega | assumption | (simp (disch := first | omega | (simp; done) | fail) [wrap64c, if_pos, if_neg, opAnd, opOr, opXor, opDiff, opShr, opBit, g_h0, hf1, g1, e1, e2, e5, e6, e7, g1', hneb, hs2, h7, hL, hgt, e8, e9, e23, e24, e25, hlt2, q_x, g_x, l_x, r_x, z_x] <;> omega))⟩
          (case hm => first | omega | (simp; omega))
          (case hf => simp [FrameL, g_h0, hf1, g1, e1, e2, e5, e6, e7, g1', hneb, hs2, h7, hL, hgt, e8, e9, e23, e24, e25, hlt2, q_x, g_x, l_x, r_x, z_x, f1_1, f2_1, f5_1, f6_1, f7_1, f23_1, f24_1])
        · try simp (disch := first | omega | (simp; done) | fail) [wrap64c, if_pos, if_neg, opAnd, opOr, opXor, opDiff, opShr, opBit, g_h0, hf1, g1, e1, e2, e5, e6, e7, g1', hneb, hs2, h7, hL, hgt, e8, e9, e23, e24, e25, hlt2, q_x, g_x, l_x, r_x, z_x, ho, hq1, hq2, hq3, hcb]
          refine loopK_next _ ?hm ?hf ⟨j + 1, rfl, rfl, (by simp [hsn, lessO, optI, hcb, e8, ho]), (by simp [hsn, lessO, optC, hcb, e9, ho]), (by simp (disch := first | omega | (simp; done) | fail) [wrap64c, if_pos, if_neg, opAnd, opOr, opXor, opDiff, opShr, opBit, g_h0, hf1, g1, e1, e2, e5, e6, e7, g1', hneb, hs2, h7, hL, hgt, e8, e9, e23, e24, e25, hlt2, q_x, g_x, l_x, r_x, z_x] <;> omega), (by first | omega | assumption | (simp (disch := first | omega | (simp; done) | fail) [wrap64c, if_pos, if_neg, opAnd, opOr, opXor, opDiff, opShr, opBit, g_h0, hf1, g1, e1, e2, e5, e6, e7, g1', hneb, hs2, h7, hL, hgt, e8, e9, e23, e24, e25, hlt2, q_x, g_x, l_x, r_x, z_x] <;> omega))⟩
          (case hm => first | omega | (simp; omega))
          (case hf => simp [FrameL, g_h0, hf1, g1, e1, e2, e5, e6, e7, g1', hneb, hs2, h7, hL, hgt, e8, e9, e23, e24, e25, hlt2, q_x, g_x, l_x, r_x, z_x, f1_1, f2_1, f5_1, f6_1, f7_1, f23_1, f24_1])
    · rw [List.take_of_length_le (by omega), hlo] at e8
      have hq1 : optI (some (nextG c (fam xs) n s)) = ((nextG c (fam xs) n s : Nat) : Int) := rfl
      try simp (disch := first | omega | (simp; done) | fail) [wrap64c, if_pos, if_neg, opAnd, opOr, opXor, opDiff, opShr, opBit, g_h0, hf1, g1, e1, e2, e5, e6, e7, g1', hneb, hs2, h7, hL, hgt, e8, e9, e23, e24, e25, hlt2, hq1]
      refine WD_chainC rfl (by kernel_rfl) (by kernel_rfl) ?_
      try simp (disch := first | omega | (simp; done) | fail) [wrap64c, if_pos, if_neg, opAnd, opOr, opXor, opDiff, opShr, opBit, g_h0, hf1, g1, e1, e2, e5, e6, e7, g1', hneb, hs2, h7, hL, hgt, e8, e9, e23, e24, e25, hlt2, hq1]
      obtain ⟨u3, h3, hap, hu3, ha3, hn4, hs3⟩ := appI2 hu2 ((nextG c (fam xs) n s : Nat) : Int) (by simp [hlu]; omega) (by omega) (ha.trans ha2) (Nat.le_refl _)
      try simp (disch := first | omega | (simp; done) | fail) [wrap64c, if_pos, if_neg, opAnd, opOr, opXor, opDiff, opShr, opBit, g_h0, hf1, g1, e1, e2, e5, e6, e7, g1', hneb, hs2, h7, hL, hgt, e8, e9, e23, e24, e25, hlt2, hq1, hap]
      refine loopK_next _ ?hm ?hf ⟨k + 1, u3, rfl, (by simp (disch := first | omega | (simp; done) | fail) [wrap64c, if_pos, if_neg, opAnd, opOr, opXor, opDiff, opShr, opBit, g_h0, hf1, g1, e1, e2, e5, e6, e7, g1', hneb, hs2, h7, hL, hgt, e8, e9, e23, e24, e25, hlt2, hq1] <;> omega), (by simp [greedS, ← hs]), (by first | omega | assumption | (simp (disch := first | omega | (simp; done) | fail) [wrap64c, if_pos, if_neg, opAnd, opOr, opXor, opDiff, opShr, opBit, g_h0, hf1, g1, e1, e2, e5, e6, e7, g1', hneb, hs2, h7, hL, hgt, e8, e9, e23, e24, e25, hlt2, hq1] <;> omega)), ha3, (by simp only [greedS, ← hs]; rw [toN_snoc]; exact hu3)⟩
      (case hm => first | omega | (simp; omega))
      (case hf => simp [FrameL, g_h0, hf1, g1, e1, e2, e5, e6, e7, g1', hneb, hs2, h7, hL, hgt, e8, e9, e23, e24, e25, hlt2, hq1, f1_0, f2_0, f5_0])
  · have hke : k = n := by omega
    have hee := (greed_end g c hk).2 hke
    have hneb : ((((greedS c (fam xs) n k).2 : Nat) : Int) != ((bit n - 1 : Nat) : Int)) = false := by simp [hee]
    try simp (disch := first | omega | (simp; done) | fail) [wrap64c, if_pos, if_neg, opAnd, opOr, opXor, opDiff, opShr, opBit, g_h0, hf1, g1, e1, e2, e5, e6, e7, g1', hneb]
    refine done_ret rfl ⟨A1.trans ha, ?_⟩
    rw [hke] at hu
    exact (hu.own (by simp [greed_len]; omega)).sub fun o ho => ⟨by have := ho.1; omega, ho.2⟩
end Go.Proofs.Ytnjabaeajjhliaa
