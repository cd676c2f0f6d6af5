/- Part 5 of the proof of fringesOfSets_holds: what it uses of the texts that lie in the notes, merged. -/
import Derived.Test.YtnncipcldbopgaaQf4
namespace Go.Proofs.Ytnncipcldbopgaa
set_option linter.unusedSimpArgs false
set_option linter.unusedVariables false
set_option maxHeartbeats 4000000
open Go Go.Eng
attribute [local irreducible] WD RunD PreD Runs CallOK
def kle (a b : Nat) : Prop := pcN a < pcN b ∨ pcN a = pcN b ∧ a ≤ b
theorem kle_refl (a : Nat) : kle a a := .inr ⟨rfl, Nat.le_refl _⟩
theorem kle_trans {a b c : Nat} (h1 : kle a b) (h2 : kle b c) : kle a c := by unfold kle at *; omega
theorem kle_anti {a b : Nat} (h1 : kle a b) (h2 : kle b a) : a = b := by unfold kle at *; omega
def lasI (a o x : Nat) : Nat := if ndiff a x = 0 ∧ (pcN x < pcN o ∨ pcN x = pcN o ∧ x < o) then x else o
def lasS (a o x : Nat) : Nat := if ndiff a x = 0 ∧ pcN x ≤ pcN o then x else o
structure LeastOf (a f : Nat) (l : List Nat) (o : Nat) : Prop where
  mem : o ∈ l ∨ o = f
  abv : ndiff a o = 0
  top : kle o f
  low : ∀ x ∈ l, ndiff a x = 0 → kle o x
theorem LeastOf.uniq {a f : Nat} {l : List Nat} {o o' : Nat} (h : LeastOf a f l o) (h' : LeastOf a f l o') : o = o' := by
  have k1 : kle o o' := by
    rcases h'.mem with h1 | h1
    · exact h.low _ h1 h'.abv
    · rw [h1]; exact h.top
  have k2 : kle o' o := by
    rcases h.mem with h1 | h1
    · exact h'.low _ h1 h.abv
    · rw [h1]; exact h'.top
  exact kle_anti k1 k2
def aboveF (a f : Nat) (l : List Nat) : Nat := l.foldl (lasI a) f
theorem aboveF_snoc (a f x : Nat) (l : List Nat) : aboveF a f (l ++ [x]) = lasI a (aboveF a f l) x := by simp [aboveF]
theorem leastI_step {a f o x : Nat} {l : List Nat} (ih : LeastOf a f l o) : LeastOf a f (l ++ [x]) (lasI a o x) := by
  unfold lasI
  split
  · rename_i h
    have kx : kle x o := by unfold kle; omega
    exact ⟨.inl (by simp), h.1, kle_trans kx ih.top, fun y hy hay => by
      rcases List.mem_append.1 hy with h1 | h1
      · exact kle_trans kx (ih.low y h1 hay)
      · simp at h1; rw [h1]; exact kle_refl _⟩
  · rename_i h
    exact ⟨ih.mem.elim (fun h => .inl (by simp [h])) .inr, ih.abv, ih.top, fun y hy hay => by
      rcases List.mem_append.1 hy with h1 | h1
      · exact ih.low y h1 hay
      · simp at h1
        subst h1
        unfold kle
        rcases Classical.em (pcN y < pcN o ∨ pcN y = pcN o ∧ y < o) with h2 | h2
        · exact absurd ⟨hay, h2⟩ h
        · omega⟩
theorem leastI_from {a f : Nat} : ∀ (l pre : List Nat) (o : Nat), LeastOf a f pre o → LeastOf a f (pre ++ l) (l.foldl (lasI a) o)
  | [], pre, o, h => by simpa using h
  | x :: l, pre, o, h => by
    have := leastI_from l (pre ++ [x]) _ (leastI_step (x := x) h)
    simpa [List.append_assoc] using this
theorem leastI {a f : Nat} (hf : ndiff a f = 0) (l : List Nat) : LeastOf a f l (aboveF a f l) := by
  have := leastI_from l [] f ⟨.inr rfl, hf, kle_refl _, fun x hx => by cases hx⟩
  rw [List.nil_append] at this
  exact this
def aboveB (a f : Nat) (l : List Nat) : Nat := l.foldr (fun x o => lasS a o x) f
theorem leastS {a f : Nat} (hf : ndiff a f = 0) : ∀ l : List Nat, l.Pairwise (· < ·) → (∀ x ∈ l, x ≤ f) → LeastOf a f l (aboveB a f l)
  | [], _, _ => ⟨.inr rfl, hf, kle_refl _, fun x hx => by cases hx⟩
  | x :: l, hs, hl => by
    have hs' := List.pairwise_cons.1 hs
    have ih := leastS hf l hs'.2 fun y hy => hl y (by simp [hy])
    have hxo : x ≤ aboveB a f l := by
      rcases ih.mem with h1 | h1
      · exact Nat.le_of_lt (hs'.1 _ h1)
      · rw [h1]; exact hl x (by simp)
    show LeastOf a f (x :: l) (lasS a (aboveB a f l) x)
    unfold lasS
    split
    · rename_i h
      have kx : kle x (aboveB a f l) := by unfold kle; omega
      exact ⟨.inl (by simp), h.1, kle_trans kx ih.top, fun y hy hay => by
        rcases List.mem_cons.1 hy with h1 | h1
        · rw [h1]; exact kle_refl _
        · exact kle_trans kx (ih.low y h1 hay)⟩
    · rename_i h
      exact ⟨ih.mem.elim (fun h => .inl (by simp [h])) .inr, ih.abv, ih.top, fun y hy hay => by
        rcases List.mem_cons.1 hy with h1 | h1
        · subst h1
          unfold kle
          have : ¬ pcN y ≤ pcN (aboveB a f l) := fun h2 => h ⟨hay, h2⟩
          omega
        · exact ih.low y h1 hay⟩
theorem ndiff_in {n a : Nat} (ha : a < bit n) : ndiff a (bit n - 1) = 0 := by
  rw [ndiff_zero]
  intro i hi
  rw [full_bit, decide_eq_true_eq]
  apply Classical.byContradiction
  intro hn
  rw [Nat.testBit_lt_two_pow (Nat.lt_of_lt_of_le ha (bit_mono (by omega)))] at hi
  cases hi
theorem above_eq {n : Nat} {xs : List Nat} (g : SpGood n xs) {a : Nat} (ha : a < bit n) : aboveB a (bit n - 1) xs = aboveF a (bit n - 1) xs :=
  (leastS (ndiff_in ha) xs g.srt fun x hx => by have := g.lt x hx; omega).uniq (leastI (ndiff_in ha) xs)
noncomputable def aboveR (N : Int) (X : List Int) (a : Int) : Int := if inB N X a = true then ((aboveF a.toNat (bit N.toNat - 1) (natsOf X) : Nat) : Int) else 0
theorem implAbove_ok (h : Hp) (v : Value) (N : Int) (X : List Int) (a : Int) (hv : Space h v N X) (hl : X.length < 2 ^ 40) : CallOK Try.prog 22 #[v, .int .i64 a] h (.tuple #[.int .i64 (aboveR N X a), .bool (inB N X a)]) h := by
  refine callY_P 47 _ [.tmp 4, .tmp 5] Try.func22 rfl rfl rfl (by first | rfl | simp) ?_
  obtain ⟨b, rfl, hX⟩ := hv
  refine WD_first ?_
  try simp (disch := first | omega | (simp; done) | fail) [wrap64c, if_pos, if_neg, opAnd, opOr, opXor, opDiff, opShr, opBit]
  refine stopK_heap fun h0 q_h0 => ?_
  refine stopK_go ?_
  have g_h0 : h0.get h.next = .cells [.int .i64 N, b] true true 1 := by simp [q_h0]
  have k_h0 : Adds h h0 := by rw [q_h0]; exact (by first | exact aK | exact kK)
  have n_h0 : h.next < h0.next := by simp [q_h0]; try omega
  have hX0 := hX.keep k_h0.1
  have hL := hX0.lenD
  have K0 := k_h0.1
  have p0 : CallOK Try.prog 122 #[.agg #[.int .i64 N, b], .int .i64 a] h0 (.bool (inB N X a)) h0 := hasSet_ok h0 (.agg #[.int .i64 N, b]) N X a (.mk hX0) hl
  try simp (disch := first | omega | (simp; done) | fail) [wrap64c, if_pos, if_neg, opAnd, opOr, opXor, opDiff, opShr, opBit, g_h0, hL]
  refine callG_c (by simp) (by simp) ?ha (p0) ?_
  (case ha => simp (disch := first | omega | (simp; done) | fail) [wrap64c, if_pos, if_neg, opAnd, opOr, opXor, opDiff, opShr, opBit, g_h0, hL])
  cases c1 : inB N X a
  · try simp (disch := first | omega | (simp; done) | fail) [wrap64c, if_pos, if_neg, opAnd, opOr, opXor, opDiff, opShr, opBit, g_h0, hL, c1]
    exact done_ret rfl (by simp [aboveR, c1, K0])
  · obtain ⟨n, xs, x, hN, hXe, ha, g, hx⟩ := inB_true c1
    subst hN hXe ha
    have n7 := g.n7
    have hb := bit7 n7
    have x128 : x < 128 := by omega
    have hgt := toN_get xs
    have hln := toN_length xs
    have hLI := fun j => leastI (ndiff_in hx) (xs.take j)
    try simp (disch := first | omega | (simp; done) | fail) [wrap64c, if_pos, if_neg, opAnd, opOr, opXor, opDiff, opShr, opBit, g_h0, hL, c1, hgt]
    refine callG_c (by simp) (by simp) ?ha (all_ok h0 (.agg #[.int .i64 n, b]) n (toN xs) (.mk hX0) (by omega)) ?_
    (case ha => simp (disch := first | omega | (simp; done) | fail) [wrap64c, if_pos, if_neg, opAnd, opOr, opXor, opDiff, opShr, opBit, g_h0, hL, c1, hgt])
    try simp (disch := first | omega | (simp; done) | fail) [wrap64c, if_pos, if_neg, opAnd, opOr, opXor, opDiff, opShr, opBit, g_h0, hL, c1, hgt]
    refine WD_loopC [1, 16, 17] (fun m tm h' => ∃ j, m = xs.length - j ∧ h0 = h' ∧ tm 6 = .int .i64 ((aboveF x (bit n - 1) (xs.take j) : Nat) : Int) ∧ tm 18 = .int .i64 (j : Int) ∧ (j ≤ xs.length)) _ ⟨0, rfl, rfl, (by simp [aboveF]), (by simp (disch := first | omega | (simp; done) | fail) [wrap64c, if_pos, if_neg, opAnd, opOr, opXor, opDiff, opShr, opBit, g_h0, hL, c1, hgt]), (by first | omega | assumption | (simp (disch := first | omega | (simp; done) | fail) [wrap64c, if_pos, if_neg, opAnd, opOr, opXor, opDiff, opShr, opBit, g_h0, hL, c1, hgt] <;> omega))⟩ ?_
    rintro m tm h' hFr ⟨j, rfl, rfl, e6, e18, hj⟩
    simp only [FrameL] at hFr
    obtain ⟨f1_0, f16_0, f17_0, -⟩ := hFr
    try simp (disch := first | omega | (simp; done) | fail) [wrap64c, if_pos, if_neg, opAnd, opOr, opXor, opDiff, opShr, opBit, g_h0, hL, c1, hgt] at f1_0 f16_0 f17_0
    have e1 := f1_0
    have e16 := f16_0
    have e17 := f17_0
    by_cases hlt : j < xs.length
    · have hxj := g.l128 _ (List.getElem_mem hlt)
      obtain ⟨q, hq⟩ : ∃ q, q = aboveF x (bit n - 1) (xs.take j) := ⟨_, rfl⟩
      have q128 : q < 128 := by
        rcases (hLI j).mem with h1 | h1
        · rw [hq]; exact g.l128 _ (List.mem_of_mem_take h1)
        · rw [hq, h1]; omega
      have hst : aboveF x (bit n - 1) (xs.take (j + 1)) = lasI x q xs[j] := by rw [List.take_succ_eq_append_getElem hlt, aboveF_snoc, hq]
      rw [← hq] at e6
      obtain ⟨o_y, i_y, c_y, cs_y, own_y, ex_y, es_y, q_y, b_y, g_y, l_y, r_y⟩ := hX0.open ((by simp; omega))
      have z_y : ∀ h2 : i_y < cs_y.length, cs_y[i_y] = _ := fun h2 => r_y 0 ((by simp; omega)) h2
      try simp (disch := first | omega | (simp; done) | fail) [wrap64c, if_pos, if_neg, opAnd, opOr, opXor, opDiff, opShr, opBit, g_h0, hL, c1, hgt, e1, e6, e16, e17, e18, hlt, q_y, g_y, l_y, r_y, z_y]
      refine callG_c (by simp) (by simp) ?ha (partF_ok h0 x xs[j] x128 hxj) ?_
      (case ha => simp (disch := first | omega | (simp; done) | fail) [wrap64c, if_pos, if_neg, opAnd, opOr, opXor, opDiff, opShr, opBit, g_h0, hL, c1, hgt, e1, e6, e16, e17, e18, hlt, q_y, g_y, l_y, r_y, z_y])
      by_cases d1 : ndiff x xs[j] = 0
      · try simp (disch := first | omega | (simp; done) | fail) [wrap64c, if_pos, if_neg, opAnd, opOr, opXor, opDiff, opShr, opBit, g_h0, hL, c1, hgt, e1, e6, e16, e17, e18, hlt, q_y, g_y, l_y, r_y, z_y, d1]
        refine callG_c (by simp) (by simp) ?ha (count_ok h0 xs[j] hxj) ?_
        (case ha => simp (disch := first | omega | (simp; done) | fail) [wrap64c, if_pos, if_neg, opAnd, opOr, opXor, opDiff, opShr, opBit, g_h0, hL, c1, hgt, e1, e6, e16, e17, e18, hlt, q_y, g_y, l_y, r_y, z_y, d1])
        try simp (disch := first | omega | (simp; done) | fail) [wrap64c, if_pos, if_neg, opAnd, opOr, opXor, opDiff, opShr, opBit, g_h0, hL, c1, hgt, e1, e6, e16, e17, e18, hlt, q_y, g_y, l_y, r_y, z_y, d1]
        refine callG_c (by simp) (by simp) ?ha (count_ok h0 q q128) ?_
        (case ha => simp (disch := first | omega | (simp; done) | fail) [wrap64c, if_pos, if_neg, opAnd, opOr, opXor, opDiff, opShr, opBit, g_h0, hL, c1, hgt, e1, e6, e16, e17, e18, hlt, q_y, g_y, l_y, r_y, z_y, d1])
        by_cases d2 : pcN xs[j] < pcN q
        · have hs2 : lasI x q xs[j] = xs[j] := if_pos (by omega)
          try simp (disch := first | omega | (simp; done) | fail) [wrap64c, if_pos, if_neg, opAnd, opOr, opXor, opDiff, opShr, opBit, g_h0, hL, c1, hgt, e1, e6, e16, e17, e18, hlt, q_y, g_y, l_y, r_y, z_y, d1, d2]
          refine loopK_next _ ?hm ?hf ⟨j + 1, rfl, rfl, (by simp [hst, hs2]), (by simp (disch := first | omega | (simp; done) | fail) [wrap64c, if_pos, if_neg, opAnd, opOr, opXor, opDiff, opShr, opBit, g_h0, hL, c1, hgt, e1, e6, e16, e17, e18, hlt, q_y, g_y, l_y, r_y, z_y, d1, d2] <;> omega), (by first | omega | assumption | (simp (disch := first | omega | (simp; done) | fail) [wrap64c, if_pos, if_neg, opAnd, opOr, opXor, opDiff, opShr, opBit, g_h0, hL, c1, hgt, e1, e6, e16, e17, e18, hlt, q_y, g_y, l_y, r_y, z_y, d1, d2] <;> omega))⟩
          (case hm => first | omega | (simp; omega))
          (case hf => simp [FrameL, g_h0, hL, c1, hgt, e1, e6, e16, e17, e18, hlt, q_y, g_y, l_y, r_y, z_y, d1, d2, f1_0, f16_0, f17_0])
        · try simp (disch := first | omega | (simp; done) | fail) [wrap64c, if_pos, if_neg, opAnd, opOr, opXor, opDiff, opShr, opBit, g_h0, hL, c1, hgt, e1, e6, e16, e17, e18, hlt, q_y, g_y, l_y, r_y, z_y, d1, d2]
          refine callG_c (by simp) (by simp) ?ha (count_ok h0 xs[j] hxj) ?_
          (case ha => simp (disch := first | omega | (simp; done) | fail) [wrap64c, if_pos, if_neg, opAnd, opOr, opXor, opDiff, opShr, opBit, g_h0, hL, c1, hgt, e1, e6, e16, e17, e18, hlt, q_y, g_y, l_y, r_y, z_y, d1, d2])
          try simp (disch := first | omega | (simp; done) | fail) [wrap64c, if_pos, if_neg, opAnd, opOr, opXor, opDiff, opShr, opBit, g_h0, hL, c1, hgt, e1, e6, e16, e17, e18, hlt, q_y, g_y, l_y, r_y, z_y, d1, d2]
          refine callG_c (by simp) (by simp) ?ha (count_ok h0 q q128) ?_
          (case ha => simp (disch := first | omega | (simp; done) | fail) [wrap64c, if_pos, if_neg, opAnd, opOr, opXor, opDiff, opShr, opBit, g_h0, hL, c1, hgt, e1, e6, e16, e17, e18, hlt, q_y, g_y, l_y, r_y, z_y, d1, d2])
          by_cases d3 : pcN xs[j] = pcN q
          · by_cases d4 : xs[j] < q
            · have hs2 : lasI x q xs[j] = xs[j] := if_pos (by omega)
              try simp (disch := first | omega | (simp; done) | fail) [wrap64c, if_pos, if_neg, opAnd, opOr, opXor, opDiff, opShr, opBit, g_h0, hL, c1, hgt, e1, e6, e16, e17, e18, hlt, q_y, g_y, l_y, r_y, z_y, d1, d2, d3, d4]
              refine loopK_next _ ?hm ?hf ⟨j + 1, rfl, rfl, (by simp [hst, hs2]), (by simp (disch := first | omega | (simp; done) | fail) [wrap64c, if_pos, if_neg, opAnd, opOr, opXor, opDiff, opShr, opBit, g_h0, hL, c1, hgt, e1, e6, e16, e17, e18, hlt, q_y, g_y, l_y, r_y, z_y, d1, d2, d3, d4] <;> omega), (by first | omega | assumption | (simp (disch := first | omega | (simp; done) | fail) [wrap64c, if_pos, if_neg, opAnd, opOr, opXor, opDiff, opShr, opBit, g_h0, hL, c1, hgt, e1, e6, e16, e17, e18, hlt, q_y, g_y, l_y, r_y, z_y, d1, d2, d3, d4] <;> omega))⟩
              (case hm => first | omega | (simp; omega))
              (case hf => simp [FrameL, g_h0, hL, c1, hgt, e1, e6, e16, e17, e18, hlt, q_y, g_y, l_y, r_y, z_y, d1, d2, d3, d4, f1_0, f16_0, f17_0])
            · have hs2 : lasI x q xs[j] = q := if_neg (by omega)
              try simp (disch := first | omega | (simp; done) | fail) [wrap64c, if_pos, if_neg, opAnd, opOr, opXor, opDiff, opShr, opBit, g_h0, hL, c1, hgt, e1, e6, e16, e17, e18, hlt, q_y, g_y, l_y, r_y, z_y, d1, d2, d3, d4]
              refine loopK_next _ ?hm ?hf ⟨j + 1, rfl, rfl, (by simp [hst, hs2, e6]), (by simp (disch := first | omega | (simp; done) | fail) [wrap64c, if_pos, if_neg, opAnd, opOr, opXor, opDiff, opShr, opBit, g_h0, hL, c1, hgt, e1, e6, e16, e17, e18, hlt, q_y, g_y, l_y, r_y, z_y, d1, d2, d3, d4] <;> omega), (by first | omega | assumption | (simp (disch := first | omega | (simp; done) | fail) [wrap64c, if_pos, if_neg, opAnd, opOr, opXor, opDiff, opShr, opBit, g_h0, hL, c1, hgt, e1, e6, e16, e17, e18, hlt, q_y, g_y, l_y, r_y, z_y, d1, d2, d3, d4] <;> omega))⟩
              (case hm => first | omega | (simp; omega))
              (case hf => simp [FrameL, g_h0, hL, c1, hgt, e1, e6, e16, e17, e18, hlt, q_y, g_y, l_y, r_y, z_y, d1, d2, d3, d4, f1_0, f16_0, f17_0])
          · have hs2 : lasI x q xs[j] = q := if_neg (by omega)
            try simp (disch := first | omega | (simp; done) | fail) [wrap64c, if_pos, if_neg, opAnd, opOr, opXor, opDiff, opShr, opBit, g_h0, hL, c1, hgt, e1, e6, e16, e17, e18, hlt, q_y, g_y, l_y, r_y, z_y, d1, d2, d3]
            refine loopK_next _ ?hm ?hf ⟨j + 1, rfl, rfl, (by simp [hst, hs2, e6]), (by simp (disch := first | omega | (simp; done) | fail) [wrap64c, if_pos, if_neg, opAnd, opOr, opXor, opDiff, opShr, opBit, g_h0, hL, c1, hgt, e1, e6, e16, e17, e18, hlt, q_y, g_y, l_y, r_y, z_y, d1, d2, d3] <;> omega), (by first | omega | assumption | (simp (disch := first | omega | (simp; done) | fail) [wrap64c, if_pos, if_neg, opAnd, opOr, opXor, opDiff, opShr, opBit, g_h0, hL, c1, hgt, e1, e6, e16, e17, e18, hlt, q_y, g_y, l_y, r_y, z_y, d1, d2, d3] <;> omega))⟩
            (case hm => first | omega | (simp; omega))
            (case hf => simp [FrameL, g_h0, hL, c1, hgt, e1, e6, e16, e17, e18, hlt, q_y, g_y, l_y, r_y, z_y, d1, d2, d3, f1_0, f16_0, f17_0])
      · have hs2 : lasI x q xs[j] = q := if_neg (by omega)
        try simp (disch := first | omega | (simp; done) | fail) [wrap64c, if_pos, if_neg, opAnd, opOr, opXor, opDiff, opShr, opBit, g_h0, hL, c1, hgt, e1, e6, e16, e17, e18, hlt, q_y, g_y, l_y, r_y, z_y, d1]
        refine loopK_next _ ?hm ?hf ⟨j + 1, rfl, rfl, (by simp [hst, hs2, e6]), (by simp (disch := first | omega | (simp; done) | fail) [wrap64c, if_pos, if_neg, opAnd, opOr, opXor, opDiff, opShr, opBit, g_h0, hL, c1, hgt, e1, e6, e16, e17, e18, hlt, q_y, g_y, l_y, r_y, z_y, d1] <;> omega), (by first | omega | assumption | (simp (disch := first | omega | (simp; done) | fail) [wrap64c, if_pos, if_neg, opAnd, opOr, opXor, opDiff, opShr, opBit, g_h0, hL, c1, hgt, e1, e6, e16, e17, e18, hlt, q_y, g_y, l_y, r_y, z_y, d1] <;> omega))⟩
        (case hm => first | omega | (simp; omega))
        (case hf => simp [FrameL, g_h0, hL, c1, hgt, e1, e6, e16, e17, e18, hlt, q_y, g_y, l_y, r_y, z_y, d1, f1_0, f16_0, f17_0])
    · try simp (disch := first | omega | (simp; done) | fail) [wrap64c, if_pos, if_neg, opAnd, opOr, opXor, opDiff, opShr, opBit, g_h0, hL, c1, hgt, e1, e6, e16, e17, e18, hlt]
      exact done_ret rfl (by simp [aboveR, c1, K0, List.take_of_length_le (show xs.length ≤ j by omega)])
theorem aboveB_drop (a f : Nat) (xs : List Nat) (i : Nat) (hi : i < xs.length) : aboveB a f (xs.drop i) = lasS a (aboveB a f (xs.drop (i + 1))) xs[i] := by rw [List.drop_eq_getElem_cons hi]; rfl
theorem specAbove_ok (h : Hp) (v : Value) (N : Int) (X : List Int) (a : Int) (hv : Space h v N X) (hl : X.length < 2 ^ 40) : CallOK Try.prog 23 #[v, .int .i64 a] h (.tuple #[.int .i64 (aboveR N X a), .bool (inB N X a)]) h := by
  refine callY_P 43 _ [.tmp 4, .tmp 5] Try.func23 rfl rfl rfl (by first | rfl | simp) ?_
  obtain ⟨b, rfl, hX⟩ := hv
  refine WD_first ?_
  try simp (disch := first | omega | (simp; done) | fail) [wrap64c, if_pos, if_neg, opAnd, opOr, opXor, opDiff, opShr, opBit]
  refine stopK_heap fun h0 q_h0 => ?_
  refine stopK_go ?_
  have g_h0 : h0.get h.next = .cells [.int .i64 N, b] true true 1 := by simp [q_h0]
  have k_h0 : Adds h h0 := by rw [q_h0]; exact (by first | exact aK | exact kK)
  have n_h0 : h.next < h0.next := by simp [q_h0]; try omega
  have hX0 := hX.keep k_h0.1
  have hL := hX0.lenD
  have K0 := k_h0.1
  try simp (disch := first | omega | (simp; done) | fail) [wrap64c, if_pos, if_neg, opAnd, opOr, opXor, opDiff, opShr, opBit, g_h0, hL]
  refine callG_c (by simp) (by simp) ?ha (spSet_ok h0 (.agg #[.int .i64 N, b]) N X a (.mk hX0) hl) ?_
  (case ha => simp (disch := first | omega | (simp; done) | fail) [wrap64c, if_pos, if_neg, opAnd, opOr, opXor, opDiff, opShr, opBit, g_h0, hL])
  cases c1 : inB N X a
  · try simp (disch := first | omega | (simp; done) | fail) [wrap64c, if_pos, if_neg, opAnd, opOr, opXor, opDiff, opShr, opBit, g_h0, hL, c1]
    exact done_ret rfl (by simp [aboveR, c1, K0])
  · obtain ⟨n, xs, x, hN, hXe, ha, g, hx⟩ := inB_true c1
    subst hN hXe ha
    have n7 := g.n7
    have hb := bit7 n7
    have x128 : x < 128 := by omega
    have hgt := toN_get xs
    have hln := toN_length xs
    have lx := g.len7
    have gb : h0.get h.next = .cells [.int .i64 n, b] true true 1 := by simp [q_h0]
    have hle : ∀ y ∈ xs, y ≤ bit n - 1 := fun y hy => by have := g.lt y hy; omega
    have hLI := fun j => leastS (ndiff_in hx) (xs.drop j) (g.srt.sublist (List.drop_sublist j xs)) fun y hy => hle y (List.mem_of_mem_drop hy)
    try simp (disch := first | omega | (simp; done) | fail) [wrap64c, if_pos, if_neg, opAnd, opOr, opXor, opDiff, opShr, opBit, g_h0, hL, c1, hgt, gb]
    refine WD_loopC [1, 2] (fun m tm h' => ∃ k, m = xs.length - k ∧ h0 = h' ∧ tm 6 = .int .i64 ((aboveB x (bit n - 1) (xs.drop (xs.length - k)) : Nat) : Int) ∧ tm 7 = .int .i64 ((xs.length : Int) - 1 - (k : Int)) ∧ (k ≤ xs.length)) _ ⟨0, rfl, rfl, (by simp [aboveB]; omega), (by simp (disch := first | omega | (simp; done) | fail) [wrap64c, if_pos, if_neg, opAnd, opOr, opXor, opDiff, opShr, opBit, g_h0, hL, c1, hgt, gb]), (by first | omega | assumption | (simp (disch := first | omega | (simp; done) | fail) [wrap64c, if_pos, if_neg, opAnd, opOr, opXor, opDiff, opShr, opBit, g_h0, hL, c1, hgt, gb] <;> omega))⟩ ?_
    rintro m tm h' hFr ⟨k, rfl, rfl, e6, e7, hj⟩
    simp only [FrameL] at hFr
    obtain ⟨f1_0, f2_0, -⟩ := hFr
    try simp (disch := first | omega | (simp; done) | fail) [wrap64c, if_pos, if_neg, opAnd, opOr, opXor, opDiff, opShr, opBit, g_h0, hL, c1, hgt, gb] at f1_0 f2_0
    have e1 := f1_0
    have e2 := f2_0
    by_cases hlt : k < xs.length
    · obtain ⟨i, hi⟩ : ∃ i, i = xs.length - 1 - k := ⟨_, rfl⟩
      have hii : (xs.length : Int) - 1 - (k : Int) = (i : Int) := by omega
      have hi1 : xs.length - k = i + 1 := by omega
      have hi2 : xs.length - (k + 1) = i := by omega
      rw [hi1] at e6
      have hlt' : i < xs.length := by omega
      have hxj := g.l128 _ (List.getElem_mem hlt')
      obtain ⟨q, hq⟩ : ∃ q, q = aboveB x (bit n - 1) (xs.drop (i + 1)) := ⟨_, rfl⟩
      have q128 : q < 128 := by
        rcases (hLI (i + 1)).mem with h1 | h1
        · rw [hq]; exact g.l128 _ (List.mem_of_mem_drop h1)
        · rw [hq]; unfold aboveB at h1 ⊢; omega
      have hst : aboveB x (bit n - 1) (xs.drop i) = lasS x q xs[i] := by rw [aboveB_drop _ _ _ _ hlt', hq]
      rw [← hq] at e6
      obtain ⟨o_y, i_y, c_y, cs_y, own_y, ex_y, es_y, q_y, b_y, g_y, l_y, r_y⟩ := hX0.open ((by simp; omega))
      have z_y : ∀ h2 : i_y < cs_y.length, cs_y[i_y] = _ := fun h2 => r_y 0 ((by simp; omega)) h2
      try simp (disch := first | omega | (simp; done) | fail) [wrap64c, if_pos, if_neg, opAnd, opOr, opXor, opDiff, opShr, opBit, g_h0, hL, c1, hgt, gb, e1, e2, e6, e7, hii, hlt', q_y, g_y, l_y, r_y, z_y]
      by_cases d1 : ndiff x xs[i] = 0
      · try simp (disch := first | omega | (simp; done) | fail) [wrap64c, if_pos, if_neg, opAnd, opOr, opXor, opDiff, opShr, opBit, g_h0, hL, c1, hgt, gb, e1, e2, e6, e7, hii, hlt', q_y, g_y, l_y, r_y, z_y, d1]
        refine callG_c (by simp) (by simp) ?ha (spCount_ok h0 xs[i] hxj) ?_
        (case ha => simp (disch := first | omega | (simp; done) | fail) [wrap64c, if_pos, if_neg, opAnd, opOr, opXor, opDiff, opShr, opBit, g_h0, hL, c1, hgt, gb, e1, e2, e6, e7, hii, hlt', q_y, g_y, l_y, r_y, z_y, d1])
        try simp (disch := first | omega | (simp; done) | fail) [wrap64c, if_pos, if_neg, opAnd, opOr, opXor, opDiff, opShr, opBit, g_h0, hL, c1, hgt, gb, e1, e2, e6, e7, hii, hlt', q_y, g_y, l_y, r_y, z_y, d1]
        refine callG_c (by simp) (by simp) ?ha (spCount_ok h0 q q128) ?_
        (case ha => simp (disch := first | omega | (simp; done) | fail) [wrap64c, if_pos, if_neg, opAnd, opOr, opXor, opDiff, opShr, opBit, g_h0, hL, c1, hgt, gb, e1, e2, e6, e7, hii, hlt', q_y, g_y, l_y, r_y, z_y, d1])
        by_cases d2 : pcN xs[i] ≤ pcN q
        · have hs2 : lasS x q xs[i] = xs[i] := if_pos (by omega)
          try simp (disch := first | omega | (simp; done) | fail) [wrap64c, if_pos, if_neg, opAnd, opOr, opXor, opDiff, opShr, opBit, g_h0, hL, c1, hgt, gb, e1, e2, e6, e7, hii, hlt', q_y, g_y, l_y, r_y, z_y, d1, d2]
          refine loopK_next _ ?hm ?hf ⟨k + 1, rfl, rfl, (by simp [hi2, hst, hs2]), (by simp; omega), (by first | omega | assumption | (simp (disch := first | omega | (simp; done) | fail) [wrap64c, if_pos, if_neg, opAnd, opOr, opXor, opDiff, opShr, opBit, g_h0, hL, c1, hgt, gb, e1, e2, e6, e7, hii, hlt', q_y, g_y, l_y, r_y, z_y, d1, d2] <;> omega))⟩
          (case hm => first | omega | (simp; omega))
          (case hf => simp [FrameL, g_h0, hL, c1, hgt, gb, e1, e2, e6, e7, hii, hlt', q_y, g_y, l_y, r_y, z_y, d1, d2, f1_0, f2_0])
        · have hs2 : lasS x q xs[i] = q := if_neg (by omega)
          try simp (disch := first | omega | (simp; done) | fail) [wrap64c, if_pos, if_neg, opAnd, opOr, opXor, opDiff, opShr, opBit, g_h0, hL, c1, hgt, gb, e1, e2, e6, e7, hii, hlt', q_y, g_y, l_y, r_y, z_y, d1, d2]
          refine loopK_next _ ?hm ?hf ⟨k + 1, rfl, rfl, (by simp [hi2, hst, hs2, e6]), (by simp; omega), (by first | omega | assumption | (simp (disch := first | omega | (simp; done) | fail) [wrap64c, if_pos, if_neg, opAnd, opOr, opXor, opDiff, opShr, opBit, g_h0, hL, c1, hgt, gb, e1, e2, e6, e7, hii, hlt', q_y, g_y, l_y, r_y, z_y, d1, d2] <;> omega))⟩
          (case hm => first | omega | (simp; omega))
          (case hf => simp [FrameL, g_h0, hL, c1, hgt, gb, e1, e2, e6, e7, hii, hlt', q_y, g_y, l_y, r_y, z_y, d1, d2, f1_0, f2_0])
      · have hs2 : lasS x q xs[i] = q := if_neg (by omega)
        try simp (disch := first | omega | (simp; done) | fail) [wrap64c, if_pos, if_neg, opAnd, opOr, opXor, opDiff, opShr, opBit, g_h0, hL, c1, hgt, gb, e1, e2, e6, e7, hii, hlt', q_y, g_y, l_y, r_y, z_y, d1]
        refine loopK_next _ ?hm ?hf ⟨k + 1, rfl, rfl, (by simp [hi2, hst, hs2, e6]), (by simp; omega), (by first | omega | assumption | (simp (disch := first | omega | (simp; done) | fail) [wrap64c, if_pos, if_neg, opAnd, opOr, opXor, opDiff, opShr, opBit, g_h0, hL, c1, hgt, gb, e1, e2, e6, e7, hii, hlt', q_y, g_y, l_y, r_y, z_y, d1] <;> omega))⟩
        (case hm => first | omega | (simp; omega))
        (case hf => simp [FrameL, g_h0, hL, c1, hgt, gb, e1, e2, e6, e7, hii, hlt', q_y, g_y, l_y, r_y, z_y, d1, f1_0, f2_0])
    · have hj0 : k = xs.length := by omega
      subst hj0
      try simp (disch := first | omega | (simp; done) | fail) [wrap64c, if_pos, if_neg, opAnd, opOr, opXor, opDiff, opShr, opBit, g_h0, hL, c1, hgt, gb, e1, e2, e6, e7]
      have := above_eq g hx
      exact done_ret rfl (by simp [aboveR, c1, K0, ← this])
end Go.Proofs.Ytnncipcldbopgaa
namespace Go.Proofs.Ytnncipcldbopgaa
set_option linter.unusedSimpArgs false
set_option linter.unusedVariables false
set_option maxHeartbeats 4000000
open Go Go.Eng
attribute [local irreducible] WD RunD PreD Runs CallOK
theorem jCount_ok (h : Hp) (a : Nat) (ha : a < 128) : CallOK Try.prog 25 #[.int .i64 (a : Int)] h (.int .i64 ((pcN a : Nat) : Int)) h := by
  refine callY_P 13 _ [.tmp 2] Try.func25 rfl rfl rfl (by first | rfl | simp) ?_
  try simp (disch := first | omega | (simp; done) | fail) [wrap64c, if_pos, if_neg, opAnd, opOr, opXor, opDiff, opShr, opBit]
  refine WD_loopC [] (fun m tm h' => ∃ r c k, m = 2 * r + 0 * c ∧ h = h' ∧ tm 0 = .int .i64 (r : Int) ∧ tm 3 = .int .i64 (c : Int) ∧ (r < 2 ^ k) ∧ (k ≤ 7 ∧ c ≤ 7) ∧ (c + pcF k r = pcN a)) _ ⟨a, 0, 7, rfl, rfl, (by simp (disch := first | omega | (simp; done) | fail) [wrap64c, if_pos, if_neg, opAnd, opOr, opXor, opDiff, opShr, opBit]), (by simp (disch := first | omega | (simp; done) | fail) [wrap64c, if_pos, if_neg, opAnd, opOr, opXor, opDiff, opShr, opBit]), (by first | omega | assumption | (simp (disch := first | omega | (simp; done) | fail) [wrap64c, if_pos, if_neg, opAnd, opOr, opXor, opDiff, opShr, opBit] <;> omega)), (by first | omega | assumption | (simp (disch := first | omega | (simp; done) | fail) [wrap64c, if_pos, if_neg, opAnd, opOr, opXor, opDiff, opShr, opBit] <;> omega)), (by simp [pcN])⟩ ?_
  rintro m tm h' hFr ⟨r, c, k, rfl, rfl, e0, e3, hr, hk, hc⟩
  clear hFr
  by_cases hlt : 0 < r
  · have hk0 : k ≠ 0 := by rintro rfl; simp at hr; omega
    obtain ⟨k, rfl⟩ : ∃ q, k = q + 1 := ⟨k - 1, by omega⟩
    have h2 : Int.tmod (r : Int) 2 = ((r % 2 : Nat) : Int) := by rw [Int.tmod_eq_emod_of_nonneg (by omega)]; omega
    obtain ⟨q, hq⟩ : ∃ q, q = r % 2 := ⟨_, rfl⟩
    rw [← hq] at h2
    have h2 := h2
    have hr7 : r < 128 := Nat.lt_of_lt_of_le hr (Nat.pow_le_pow_right (by omega) (show k + 1 ≤ 7 by omega))
    simp only [pcF] at hc
    have := pcF_le k (r / 2)
    obtain ⟨s, hs⟩ : ∃ s, s = r / 2 := ⟨_, rfl⟩
    rw [← hs] at hc
    have hd1 : (r : Int) / 2 = (s : Int) := by omega
    have hd2 : Int.tdiv (r : Int) 2 = (s : Int) := by rw [Int.tdiv_eq_ediv_of_nonneg (by omega)]; omega
    have hpc := pcN_le a
    try simp (disch := first | omega | (simp; done) | fail) [wrap64c, if_pos, if_neg, opAnd, opOr, opXor, opDiff, opShr, opBit, e0, e3, hlt, h2, hd1, hd2]
    refine loopK_next _ ?hm ?hf ⟨s, c + q, k, rfl, rfl, (by simp (disch := first | omega | (simp; done) | fail) [wrap64c, if_pos, if_neg, opAnd, opOr, opXor, opDiff, opShr, opBit, e0, e3, hlt, h2, hd1, hd2] <;> omega), (by simp (disch := first | omega | (simp; done) | fail) [wrap64c, if_pos, if_neg, opAnd, opOr, opXor, opDiff, opShr, opBit, e0, e3, hlt, h2, hd1, hd2] <;> omega), (by rw [Nat.pow_succ] at hr; omega), (by first | omega | assumption | (simp (disch := first | omega | (simp; done) | fail) [wrap64c, if_pos, if_neg, opAnd, opOr, opXor, opDiff, opShr, opBit, e0, e3, hlt, h2, hd1, hd2] <;> omega)), (by omega)⟩
    (case hm => first | omega | (simp; omega))
    (case hf => simp [FrameL, e0, e3, hlt, h2, hd1, hd2])
  · try simp (disch := first | omega | (simp; done) | fail) [wrap64c, if_pos, if_neg, opAnd, opOr, opXor, opDiff, opShr, opBit, e0, e3, hlt]
    have : r = 0 := by omega
    subst this
    rw [pcF_zero] at hc
    exact done_ret rfl (by simp [← hc])
theorem outer_and (M : Nat → Bool) (n x : Nat) : nAnd (outerN M n x) x = 0 := by
  apply Nat.eq_of_testBit_eq
  intro i
  rw [nAnd_bit, outerN_bit]
  cases x.testBit i <;> simp
theorem inner_diff (M : Nat → Bool) (x : Nat) : ndiff (innerN M x) x = 0 := by
  rw [ndiff_zero]
  intro i hi
  rw [innerN_bit] at hi
  simp at hi
  exact hi.2.1
theorem outer_zero {n : Nat} {xs : List Nat} (g : SpGood n xs) {x : Nat} (hx : x ∈ xs) : outerN (fam xs) n x = 0 ↔ x = bit n - 1 := by
  constructor
  · intro h
    apply Classical.byContradiction
    intro hne
    exact g.outer hx hne h
  · intro h
    apply Nat.eq_of_testBit_eq
    intro i
    rw [outerN_bit, h, full_bit]
    cases hd : decide (i < n) <;> simp
theorem inner_zero {n : Nat} {xs : List Nat} (g : SpGood n xs) {x : Nat} (hx : x ∈ xs) : innerN (fam xs) x = 0 ↔ x = 0 := by
  constructor
  · intro h
    apply Classical.byContradiction
    intro hne
    exact g.inn x hx hne h
  · intro h
    apply Nat.eq_of_testBit_eq
    intro i
    rw [innerN_bit, h]
    simp
theorem outer_tell {n : Nat} {xs : List Nat} (g : SpGood n xs) {x y : Nat} (hx : x ∈ xs) (hy : y ∈ xs) (h : outerN (fam xs) n x = outerN (fam xs) n y) : ∀ j, y.testBit j = true → x.testBit j = true := by
  intro j hj
  apply Classical.byContradiction
  intro hn
  have hn' : x.testBit j = false := by simpa using hn
  obtain ⟨i, h1, h2, h3, h4⟩ := g.next hx y hy ⟨j, hj, hn'⟩
  have e1 : (outerN (fam xs) n x).testBit i = true := by
    rw [outerN_bit, h2]
    simp [h1]
    unfold fam
    exact decide_eq_true h3
  rw [h, outerN_bit, h4] at e1
  simp at e1
theorem outer_inj {n : Nat} {xs : List Nat} (g : SpGood n xs) {x y : Nat} (hx : x ∈ xs) (hy : y ∈ xs) (h : outerN (fam xs) n x = outerN (fam xs) n y) : x = y := by
  apply Nat.eq_of_testBit_eq
  intro i
  rw [Bool.eq_iff_iff]
  exact ⟨outer_tell g hy hx h.symm i, outer_tell g hx hy h i⟩
theorem fr_own {n : Nat} {xs : List Nat} (g : SpGood n xs) {x : Nat} (hx : x ∈ xs) : xs.find? (frP n xs (innerN (fam xs) x : Nat) (outerN (fam xs) n x : Nat)) = some x := by
  have hp : frP n xs (innerN (fam xs) x : Nat) (outerN (fam xs) n x : Nat) x = true := by simp [frP]
  cases h : xs.find? (frP n xs (innerN (fam xs) x : Nat) (outerN (fam xs) n x : Nat)) with
  | none => exact absurd hp (by simpa using List.find?_eq_none.1 h x hx)
  | some y =>
    have h1 := List.find?_some h
    have h2 := List.mem_of_find?_eq_some h
    simp [frP] at h1
    rw [outer_inj g h2 hx h1.2]
theorem innerN_le {n : Nat} {xs : List Nat} (g : SpGood n xs) {x : Nat} (hx : x ∈ xs) : innerN (fam xs) x < bit n := by
  have h := inner_diff (fam xs) x
  have hl := g.lt x hx
  apply Nat.lt_pow_two_of_testBit
  intro i hi
  cases hb : (innerN (fam xs) x).testBit i with
  | false => rfl
  | true =>
    have := (ndiff_zero _ _).1 h i hb
    rw [Nat.testBit_lt_two_pow (Nat.lt_of_lt_of_le hl (bit_mono hi))] at this
    cases this
theorem great_sub (xs : List Nat) (a : Nat) : ndiff (greatN xs a) a = 0 := by
  rw [ndiff_zero]
  intro i hi
  unfold greatN at hi
  rw [greatF_bit] at hi
  rcases hi with h | ⟨x, h1, h2, h3⟩
  · simp at h
  · exact (ndiff_zero _ _).1 h2 i h3
theorem great_top {xs : List Nat} {a y : Nat} (hy : y ∈ xs) (h : ndiff y a = 0) : ndiff y (greatN xs a) = 0 := by
  rw [ndiff_zero]
  intro i hi
  unfold greatN
  rw [greatF_bit]
  exact .inr ⟨y, hy, h, hi⟩
theorem greatF_mem {n : Nat} {xs : List Nat} (g : SpGood n xs) (a : Nat) : ∀ (l : List Nat) (o : Nat), o ∈ xs → (∀ x ∈ l, x ∈ xs) → greatF a l o ∈ xs
  | [], o, h, _ => h
  | x :: l, o, h, hl => by
    rw [greatF]
    apply greatF_mem g a l _ _ fun y hy => hl y (by simp [hy])
    split
    · exact g.uni o h x (hl x (by simp))
    · exact h
theorem great_mem {n : Nat} {xs : List Nat} (g : SpGood n xs) (a : Nat) : greatN xs a ∈ xs := greatF_mem g a xs 0 g.zero fun _ h => h
theorem ndiff_anti {a b : Nat} (h1 : ndiff a b = 0) (h2 : ndiff b a = 0) : a = b := by
  apply Nat.eq_of_testBit_eq
  intro i
  rw [Bool.eq_iff_iff]
  exact ⟨(ndiff_zero _ _).1 h1 i, (ndiff_zero _ _).1 h2 i⟩
theorem ndiff_self (a : Nat) : ndiff a a = 0 := (ndiff_zero _ _).2 fun _ h => h
theorem great_iff {n : Nat} {xs : List Nat} (g : SpGood n xs) (a : Nat) : a ∈ xs ↔ greatN xs a = a :=
  ⟨fun h => ndiff_anti (great_sub xs a) (great_top h (ndiff_self a)), fun h => h ▸ great_mem g a⟩
theorem pc_sub : ∀ a, a < 128 → ∀ b, b < 128 → ndiff a b = 0 → pcN a ≤ pcN b ∧ (pcN a = pcN b → a = b) := by decide +kernel
theorem above_least {n : Nat} {xs : List Nat} (g : SpGood n xs) {a : Nat} (ha : a < bit n) : LeastOf a (bit n - 1) xs (aboveF a (bit n - 1) xs) := leastI (ndiff_in ha) xs
theorem above_mem {n : Nat} {xs : List Nat} (g : SpGood n xs) {a : Nat} (ha : a < bit n) : aboveF a (bit n - 1) xs ∈ xs := by
  rcases (above_least g ha).mem with h | h
  · exact h
  · rw [h]; exact g.full
theorem above_iff {n : Nat} {xs : List Nat} (g : SpGood n xs) {a : Nat} (ha : a < bit n) : a ∈ xs ↔ aboveF a (bit n - 1) xs = a := by
  have hb := bit7 g.n7
  have hm := above_mem g ha
  have hl := g.l128 _ hm
  have L := above_least g ha
  constructor
  · intro h
    have h1 := L.low a h (ndiff_self a)
    have h2 := pc_sub a (by omega) _ hl L.abv
    unfold kle at h1
    exact (h2.2 (by omega)).symm
  · intro h; exact h ▸ hm
theorem above_low {n : Nat} {xs : List Nat} (g : SpGood n xs) {a : Nat} (ha : a < bit n) {y : Nat} (hy : y ∈ xs) (h : ndiff a y = 0) : pcN (aboveF a (bit n - 1) xs) ≤ pcN y := by
  have := (above_least g ha).low y hy h
  unfold kle at this
  omega
end Go.Proofs.Ytnncipcldbopgaa
namespace Go.Proofs.Ytnncipcldbopgaa
set_option linter.unusedSimpArgs false
set_option linter.unusedVariables false
set_option maxHeartbeats 4000000
set_option maxRecDepth 20000
open Go Go.Eng
attribute [local irreducible] WD RunD PreD Runs CallOK
theorem lawFringesOfSets_ok (h0 : Hp) (v : Value) (xs : List Int) (hv : Bytes h0 v xs) (w : Value) (ys : List Int) (hw : Bytes h0 w ys) : CallOK Try.prog 3 #[v, w] h0 (.bool true) h0 := by
  have ntv := hv.nt
  have csv := hv.cs
  have ntw := hw.nt
  have csw := hw.cs
  refine callY_P 402 _ [.tmp 4] Try.func3 rfl rfl rfl (by first | rfl | simp) ?_
  try simp (disch := first | omega | (simp; done) | fail) [wrap64c, if_pos, if_neg, opAnd, opOr, opXor, opDiff, opShr, opBit, ntv, csv, ntw, csw]
  refine callG_c (by simp) (by simp) ?ha (big_ok h0 _ _ _ _ hv hw) ?_
  (case ha => simp (disch := first | omega | (simp; done) | fail) [wrap64c, if_pos, if_neg, opAnd, opOr, opXor, opDiff, opShr, opBit, ntv, csv, ntw, csw])
  by_cases hbig : 1048576 < xs.length ∨ 1048576 - (xs.length : Int) < ys.length
  case pos =>
    try simp (disch := first | omega | (simp; done) | fail) [wrap64c, if_pos, if_neg, opAnd, opOr, opXor, opDiff, opShr, opBit, ntv, csv, ntw, csw, hbig]
    exact done_ret rfl (by simp)
  have lxs : xs.length ≤ 1048576 := by omega
  have lys : ys.length ≤ 1048576 := by omega
  try simp (disch := first | omega | (simp; done) | fail) [wrap64c, if_pos, if_neg, opAnd, opOr, opXor, opDiff, opShr, opBit, ntv, csv, ntw, csw, hbig]
  have K0 : Keeps h0 h0 := .refl _
  obtain ⟨_, h1, p1, a1, s1, N, X, a, rfl, hC, lX⟩ := drawOuter_ok h0 v xs (bytes_old hv)
  refine callG_c (by simp) (by simp) ?ha (p1) ?_
  (case ha => simp (disch := first | omega | (simp; done) | fail) [wrap64c, if_pos, if_neg, opAnd, opOr, opXor, opDiff, opShr, opBit, ntv, csv, ntw, csw, hbig])
  have n1 := a1.1.1
  have K1 := K0.trans a1.1
  have hv := hv.keep a1.1
  have hw := hw.keep a1.1
  obtain ⟨sv1, rfl, hsv1⟩ := hC
  have hsv1 := hsv1.ints
  have ntsv1 := hsv1.nt
  have cssv1 := hsv1.cs
  have hC : Space h1 (.agg #[.int .i64 N, sv1]) N X := .mk hsv1
  try simp (disch := first | omega | (simp; done) | fail) [wrap64c, if_pos, if_neg, opAnd, opOr, opXor, opDiff, opShr, opBit, ntv, csv, ntw, csw, hbig, ntsv1, cssv1, putCells]
  first | refine WY_heap fun h2 q_h2 => ?_ | refine callG_heap fun h2 q_h2 => ?_ | refine callP_heap fun h2 q_h2 => ?_ | refine callS_heap fun h2 q_h2 => ?_ | refine RY_heap fun h2 q_h2 => ?_ | refine PY_heap fun h2 q_h2 => ?_ | refine SY_heap fun h2 q_h2 => ?_ | refine doneY_heap fun h2 q_h2 => ?_ | refine loopK_heap fun h2 q_h2 => ?_ | refine thenY_heap fun h2 q_h2 => ?_ | refine thenM_heap fun h2 q_h2 => ?_
  have b2 : Adds h1 h2 := by rw [q_h2]; exact (by first | exact aK | exact kK)
  have n2 := b2.1.1
  have K2 := K1.trans b2.1
  have hv := hv.keep b2.1
  have hw := hw.keep b2.1
  have hC := hC.keep b2.1
  have m2 : h2.next = h1.next + 1 := by simp [q_h2]
  have gs : h2.get h1.next = .cells [.int .i64 N, sv1] true true 1 := by simp [q_h2]
  have lX' : X.length < 2 ^ 40 := by omega
  refine callG_c (by simp) (by simp) ?ha (implOuter_ok h2 _ N X a hC lX') ?_
  (case ha => simp (disch := first | omega | (simp; done) | fail) [wrap64c, if_pos, if_neg, opAnd, opOr, opXor, opDiff, opShr, opBit, ntv, csv, ntw, csw, hbig, ntsv1, cssv1, gs])
  try simp (disch := first | omega | (simp; done) | fail) [wrap64c, if_pos, if_neg, opAnd, opOr, opXor, opDiff, opShr, opBit, ntv, csv, ntw, csw, hbig, ntsv1, cssv1, gs]
  refine callG_c (by simp) (by simp) ?ha (specOuter_ok h2 _ N X a hC lX') ?_
  (case ha => simp (disch := first | omega | (simp; done) | fail) [wrap64c, if_pos, if_neg, opAnd, opOr, opXor, opDiff, opShr, opBit, ntv, csv, ntw, csw, hbig, ntsv1, cssv1, gs])
  try simp (disch := first | omega | (simp; done) | fail) [wrap64c, if_pos, if_neg, opAnd, opOr, opXor, opDiff, opShr, opBit, ntv, csv, ntw, csw, hbig, ntsv1, cssv1, gs]
  refine callG_c (by simp) (by simp) ?ha (implInner_ok h2 _ N X a hC lX') ?_
  (case ha => simp (disch := first | omega | (simp; done) | fail) [wrap64c, if_pos, if_neg, opAnd, opOr, opXor, opDiff, opShr, opBit, ntv, csv, ntw, csw, hbig, ntsv1, cssv1, gs])
  try simp (disch := first | omega | (simp; done) | fail) [wrap64c, if_pos, if_neg, opAnd, opOr, opXor, opDiff, opShr, opBit, ntv, csv, ntw, csw, hbig, ntsv1, cssv1, gs]
  refine callG_c (by simp) (by simp) ?ha (specInner_ok h2 _ N X a hC lX') ?_
  (case ha => simp (disch := first | omega | (simp; done) | fail) [wrap64c, if_pos, if_neg, opAnd, opOr, opXor, opDiff, opShr, opBit, ntv, csv, ntw, csw, hbig, ntsv1, cssv1, gs])
  try simp (disch := first | omega | (simp; done) | fail) [wrap64c, if_pos, if_neg, opAnd, opOr, opXor, opDiff, opShr, opBit, ntv, csv, ntw, csw, hbig, ntsv1, cssv1, gs]
  cases c1 : oneB N X a
  · try simp (disch := first | omega | (simp; done) | fail) [wrap64c, if_pos, if_neg, opAnd, opOr, opXor, opDiff, opShr, opBit, ntv, csv, ntw, csw, hbig, ntsv1, cssv1, gs, c1]
    obtain ⟨g0, hg0⟩ : ∃ x, x = h2 := ⟨_, rfl⟩
    have K0 := K2
    rw [← hg0] at K0
    have hv := hv
    have hw := hw
    rw [← hg0] at hv
    rw [← hg0] at hw
    try rw [← hg0]
    obtain ⟨_, g1, p1, a1, s2, G, Y, c, rfl, hD, lY⟩ := drawGreat_ok g0 w ys (bytes_old hw)
    refine callG_c (by simp) (by simp) ?ha (p1) ?_
    (case ha => simp (disch := first | omega | (simp; done) | fail) [wrap64c, if_pos, if_neg, opAnd, opOr, opXor, opDiff, opShr, opBit, ntv, csv, ntw, csw, hbig, ntsv1, cssv1, gs, c1])
    have n1 := a1.1.1
    have K1 := K0.trans a1.1
    have hv := hv.keep a1.1
    have hw := hw.keep a1.1
    obtain ⟨sv2, rfl, hsv2⟩ := hD
    have hsv2 := hsv2.ints
    have ntsv2 := hsv2.nt
    have cssv2 := hsv2.cs
    have hD : Space g1 (.agg #[.int .i64 G, sv2]) G Y := .mk hsv2
    try simp (disch := first | omega | (simp; done) | fail) [wrap64c, if_pos, if_neg, opAnd, opOr, opXor, opDiff, opShr, opBit, ntv, csv, ntw, csw, hbig, ntsv1, cssv1, gs, c1, ntsv2, cssv2, putCells]
    first | refine WY_heap fun g2 q_g2 => ?_ | refine callG_heap fun g2 q_g2 => ?_ | refine callP_heap fun g2 q_g2 => ?_ | refine callS_heap fun g2 q_g2 => ?_ | refine RY_heap fun g2 q_g2 => ?_ | refine PY_heap fun g2 q_g2 => ?_ | refine SY_heap fun g2 q_g2 => ?_ | refine doneY_heap fun g2 q_g2 => ?_ | refine loopK_heap fun g2 q_g2 => ?_ | refine thenY_heap fun g2 q_g2 => ?_ | refine thenM_heap fun g2 q_g2 => ?_
    have b2 : Adds g1 g2 := by rw [q_g2]; exact (by first | exact aK | exact kK)
    have n2 := b2.1.1
    have K2 := K1.trans b2.1
    have hv := hv.keep b2.1
    have hw := hw.keep b2.1
    have hD := hD.keep b2.1
    have m2 : g2.next = g1.next + 1 := by simp [q_g2]
    have gt : g2.get g1.next = .cells [.int .i64 G, sv2] true true 1 := by simp [q_g2]
    have lY' : Y.length < 2 ^ 40 := by omega
    refine callG_c (by simp) (by simp) ?ha (implGreat_ok g2 _ G Y c hD lY') ?_
    (case ha => simp (disch := first | omega | (simp; done) | fail) [wrap64c, if_pos, if_neg, opAnd, opOr, opXor, opDiff, opShr, opBit, ntv, csv, ntw, csw, hbig, ntsv1, cssv1, gs, c1, ntsv2, cssv2, gt])
    try simp (disch := first | omega | (simp; done) | fail) [wrap64c, if_pos, if_neg, opAnd, opOr, opXor, opDiff, opShr, opBit, ntv, csv, ntw, csw, hbig, ntsv1, cssv1, gs, c1, ntsv2, cssv2, gt]
    refine callG_c (by simp) (by simp) ?ha (specGreat_ok g2 _ G Y c hD lY') ?_
    (case ha => simp (disch := first | omega | (simp; done) | fail) [wrap64c, if_pos, if_neg, opAnd, opOr, opXor, opDiff, opShr, opBit, ntv, csv, ntw, csw, hbig, ntsv1, cssv1, gs, c1, ntsv2, cssv2, gt])
    try simp (disch := first | omega | (simp; done) | fail) [wrap64c, if_pos, if_neg, opAnd, opOr, opXor, opDiff, opShr, opBit, ntv, csv, ntw, csw, hbig, ntsv1, cssv1, gs, c1, ntsv2, cssv2, gt]
    refine callG_c (by simp) (by simp) ?ha (implAbove_ok g2 _ G Y c hD lY') ?_
    (case ha => simp (disch := first | omega | (simp; done) | fail) [wrap64c, if_pos, if_neg, opAnd, opOr, opXor, opDiff, opShr, opBit, ntv, csv, ntw, csw, hbig, ntsv1, cssv1, gs, c1, ntsv2, cssv2, gt])
    try simp (disch := first | omega | (simp; done) | fail) [wrap64c, if_pos, if_neg, opAnd, opOr, opXor, opDiff, opShr, opBit, ntv, csv, ntw, csw, hbig, ntsv1, cssv1, gs, c1, ntsv2, cssv2, gt]
    refine callG_c (by simp) (by simp) ?ha (specAbove_ok g2 _ G Y c hD lY') ?_
    (case ha => simp (disch := first | omega | (simp; done) | fail) [wrap64c, if_pos, if_neg, opAnd, opOr, opXor, opDiff, opShr, opBit, ntv, csv, ntw, csw, hbig, ntsv1, cssv1, gs, c1, ntsv2, cssv2, gt])
    try simp (disch := first | omega | (simp; done) | fail) [wrap64c, if_pos, if_neg, opAnd, opOr, opXor, opDiff, opShr, opBit, ntv, csv, ntw, csw, hbig, ntsv1, cssv1, gs, c1, ntsv2, cssv2, gt]
    refine callG_c (by simp) (by simp) ?ha (implHas_ok g2 _ G Y c hD lY') ?_
    (case ha => simp (disch := first | omega | (simp; done) | fail) [wrap64c, if_pos, if_neg, opAnd, opOr, opXor, opDiff, opShr, opBit, ntv, csv, ntw, csw, hbig, ntsv1, cssv1, gs, c1, ntsv2, cssv2, gt])
    try simp (disch := first | omega | (simp; done) | fail) [wrap64c, if_pos, if_neg, opAnd, opOr, opXor, opDiff, opShr, opBit, ntv, csv, ntw, csw, hbig, ntsv1, cssv1, gs, c1, ntsv2, cssv2, gt]
    refine callG_c (by simp) (by simp) ?ha (specHas_ok g2 _ G Y c hD lY') ?_
    (case ha => simp (disch := first | omega | (simp; done) | fail) [wrap64c, if_pos, if_neg, opAnd, opOr, opXor, opDiff, opShr, opBit, ntv, csv, ntw, csw, hbig, ntsv1, cssv1, gs, c1, ntsv2, cssv2, gt])
    try simp (disch := first | omega | (simp; done) | fail) [wrap64c, if_pos, if_neg, opAnd, opOr, opXor, opDiff, opShr, opBit, ntv, csv, ntw, csw, hbig, ntsv1, cssv1, gs, c1, ntsv2, cssv2, gt]
    cases d1 : inB G Y c
    · try simp (disch := first | omega | (simp; done) | fail) [wrap64c, if_pos, if_neg, opAnd, opOr, opXor, opDiff, opShr, opBit, ntv, csv, ntw, csw, hbig, ntsv1, cssv1, gs, c1, ntsv2, cssv2, gt, d1]
      obtain ⟨f0, hf0⟩ : ∃ x, x = g2 := ⟨_, rfl⟩
      have K0 := K2
      rw [← hf0] at K0
      have hv := hv
      have hw := hw
      rw [← hf0] at hv
      rw [← hf0] at hw
      try rw [← hf0]
      obtain ⟨_, f1, p1, a1, s3, J, Z, u, z, rfl, hE, lZ⟩ := drawFr_ok f0 w ys (bytes_old hw)
      refine callG_c (by simp) (by simp) ?ha (p1) ?_
      (case ha => simp (disch := first | omega | (simp; done) | fail) [wrap64c, if_pos, if_neg, opAnd, opOr, opXor, opDiff, opShr, opBit, ntv, csv, ntw, csw, hbig, ntsv1, cssv1, gs, c1, ntsv2, cssv2, gt, d1])
      have n1 := a1.1.1
      have K1 := K0.trans a1.1
      have hv := hv.keep a1.1
      have hw := hw.keep a1.1
      obtain ⟨sv3, rfl, hsv3⟩ := hE
      have hsv3 := hsv3.ints
      have ntsv3 := hsv3.nt
      have cssv3 := hsv3.cs
      have hE : Space f1 (.agg #[.int .i64 J, sv3]) J Z := .mk hsv3
      try simp (disch := first | omega | (simp; done) | fail) [wrap64c, if_pos, if_neg, opAnd, opOr, opXor, opDiff, opShr, opBit, ntv, csv, ntw, csw, hbig, ntsv1, cssv1, gs, c1, ntsv2, cssv2, gt, d1, ntsv3, cssv3, putCells]
      first | refine WY_heap fun f2 q_f2 => ?_ | refine callG_heap fun f2 q_f2 => ?_ | refine callP_heap fun f2 q_f2 => ?_ | refine callS_heap fun f2 q_f2 => ?_ | refine RY_heap fun f2 q_f2 => ?_ | refine PY_heap fun f2 q_f2 => ?_ | refine SY_heap fun f2 q_f2 => ?_ | refine doneY_heap fun f2 q_f2 => ?_ | refine loopK_heap fun f2 q_f2 => ?_ | refine thenY_heap fun f2 q_f2 => ?_ | refine thenM_heap fun f2 q_f2 => ?_
      have b2 : Adds f1 f2 := by rw [q_f2]; exact (by first | exact aK | exact kK)
      have n2 := b2.1.1
      have K2 := K1.trans b2.1
      have hv := hv.keep b2.1
      have hw := hw.keep b2.1
      have hE := hE.keep b2.1
      have m2 : f2.next = f1.next + 1 := by simp [q_f2]
      have gu : f2.get f1.next = .cells [.int .i64 J, sv3] true true 1 := by simp [q_f2]
      have lZ' : Z.length < 2 ^ 40 := by omega
      refine callG_c (by simp) (by simp) ?ha (implFr_ok f2 _ J Z u z hE lZ') ?_
      (case ha => simp (disch := first | omega | (simp; done) | fail) [wrap64c, if_pos, if_neg, opAnd, opOr, opXor, opDiff, opShr, opBit, ntv, csv, ntw, csw, hbig, ntsv1, cssv1, gs, c1, ntsv2, cssv2, gt, d1, ntsv3, cssv3, gu])
      try simp (disch := first | omega | (simp; done) | fail) [wrap64c, if_pos, if_neg, opAnd, opOr, opXor, opDiff, opShr, opBit, ntv, csv, ntw, csw, hbig, ntsv1, cssv1, gs, c1, ntsv2, cssv2, gt, d1, ntsv3, cssv3, gu]
      refine callG_c (by simp) (by simp) ?ha (specFr_ok f2 _ J Z u z hE lZ') ?_
      (case ha => simp (disch := first | omega | (simp; done) | fail) [wrap64c, if_pos, if_neg, opAnd, opOr, opXor, opDiff, opShr, opBit, ntv, csv, ntw, csw, hbig, ntsv1, cssv1, gs, c1, ntsv2, cssv2, gt, d1, ntsv3, cssv3, gu])
      try simp (disch := first | omega | (simp; done) | fail) [wrap64c, if_pos, if_neg, opAnd, opOr, opXor, opDiff, opShr, opBit, ntv, csv, ntw, csw, hbig, ntsv1, cssv1, gs, c1, ntsv2, cssv2, gt, d1, ntsv3, cssv3, gu]
      exact done_ret rfl (by simp [K2])
    · obtain ⟨n2, ys2, y, eG, eY, ey, gd2, hy⟩ := inB_true d1
      subst eG eY ey
      have n27 := gd2.n7
      have hb2 := bit7 n27
      have y128 : y < 128 := by omega
      have spg2 : spB (n2 : Int) (toN ys2) = true := spB_of gd2
      obtain ⟨wi, hwi⟩ : ∃ q, q = greatN ys2 y := ⟨_, rfl⟩
      obtain ⟨ab, hab⟩ : ∃ q, q = aboveF y (bit n2 - 1) ys2 := ⟨_, rfl⟩
      have eGr : greatR (n2 : Int) (toN ys2) (y : Int) = (wi : Int) := by simp [greatR, d1, hwi]
      have eAb : aboveR (n2 : Int) (toN ys2) (y : Int) = (ab : Int) := by simp [aboveR, d1, hab]
      have wim : wi ∈ ys2 := hwi ▸ great_mem gd2 y
      have abm : ab ∈ ys2 := hab ▸ above_mem gd2 hy
      have wil := gd2.l128 _ wim
      have abl := gd2.l128 _ abm
      have one1 : ∀ q ∈ ys2, oneB (n2 : Int) (toN ys2) (q : Int) = true := fun q hq => by simp [oneB, spg2, hq, mem_toN]
      have q1 := implHas_ok g2 _ (n2 : Int) (toN ys2) (wi : Int) hD lY'
      rw [one1 wi wim, oneB_in (one1 wi wim)] at q1
      have q2 := implHas_ok g2 _ (n2 : Int) (toN ys2) (ab : Int) hD lY'
      rw [one1 ab abm, oneB_in (one1 ab abm)] at q2
      have z1 : ndiff wi y = 0 := hwi ▸ great_sub ys2 y
      have z2 : ndiff y ab = 0 := by rw [hab]; exact (above_least gd2 hy).abv
      obtain ⟨hs, hhs⟩ : ∃ b : Bool, b = oneB (n2 : Int) (toN ys2) (y : Int) := ⟨_, rfl⟩
      have hs1 : hs = decide (y ∈ ys2) := by rw [hhs]; simp [oneB, spg2, mem_toN]
      have z3 : ((wi : Int) == (y : Int)) = hs := by rw [hs1, Bool.eq_iff_iff, decide_eq_true_iff, great_iff gd2 y, ← hwi]; simp
      have z4 : ((ab : Int) == (y : Int)) = hs := by rw [hs1, Bool.eq_iff_iff, decide_eq_true_iff, above_iff gd2 hy, ← hab]; simp
      have hhs' : oneB (n2 : Int) (toN ys2) (y : Int) = hs := hhs.symm
      have hgt2 := toN_get ys2
      have hln2 := toN_length ys2
      have lY2 : Ints g2 sv2 (toN ys2) := by have := hD; obtain ⟨_, z, zz⟩ := this; cases z; exact zz
      have lyl := lY2.lenD
      try simp (disch := first | omega | (simp; done) | fail) [wrap64c, if_pos, if_neg, opAnd, opOr, opXor, opDiff, opShr, opBit, ntv, csv, ntw, csw, hbig, ntsv1, cssv1, gs, c1, ntsv2, cssv2, gt, d1, eGr, eAb, z1, z2, z3, z4, hhs', hgt2, lyl]
      refine callG_c (by simp) (by simp) ?ha (q1) ?_
      (case ha => simp (disch := first | omega | (simp; done) | fail) [wrap64c, if_pos, if_neg, opAnd, opOr, opXor, opDiff, opShr, opBit, ntv, csv, ntw, csw, hbig, ntsv1, cssv1, gs, c1, ntsv2, cssv2, gt, d1, eGr, eAb, z1, z2, z3, z4, hhs', hgt2, lyl])
      try simp (disch := first | omega | (simp; done) | fail) [wrap64c, if_pos, if_neg, opAnd, opOr, opXor, opDiff, opShr, opBit, ntv, csv, ntw, csw, hbig, ntsv1, cssv1, gs, c1, ntsv2, cssv2, gt, d1, eGr, eAb, z1, z2, z3, z4, hhs', hgt2, lyl]
      refine callG_c (by simp) (by simp) ?ha (q2) ?_
      (case ha => simp (disch := first | omega | (simp; done) | fail) [wrap64c, if_pos, if_neg, opAnd, opOr, opXor, opDiff, opShr, opBit, ntv, csv, ntw, csw, hbig, ntsv1, cssv1, gs, c1, ntsv2, cssv2, gt, d1, eGr, eAb, z1, z2, z3, z4, hhs', hgt2, lyl])
      try simp (disch := first | omega | (simp; done) | fail) [wrap64c, if_pos, if_neg, opAnd, opOr, opXor, opDiff, opShr, opBit, ntv, csv, ntw, csw, hbig, ntsv1, cssv1, gs, c1, ntsv2, cssv2, gt, d1, eGr, eAb, z1, z2, z3, z4, hhs', hgt2, lyl]
      refine WD_loopC [1, 24, 25, 29, 344, 345] (fun m tm h' => ∃ j, m = ys2.length - j ∧ g2 = h' ∧ tm 346 = .int .i64 (j : Int) ∧ (j ≤ ys2.length)) _ ⟨0, rfl, rfl, (by simp (disch := first | omega | (simp; done) | fail) [wrap64c, if_pos, if_neg, opAnd, opOr, opXor, opDiff, opShr, opBit, ntv, csv, ntw, csw, hbig, ntsv1, cssv1, gs, c1, ntsv2, cssv2, gt, d1, eGr, eAb, z1, z2, z3, z4, hhs', hgt2, lyl]), (by first | omega | assumption | (simp (disch := first | omega | (simp; done) | fail) [wrap64c, if_pos, if_neg, opAnd, opOr, opXor, opDiff, opShr, opBit, ntv, csv, ntw, csw, hbig, ntsv1, cssv1, gs, c1, ntsv2, cssv2, gt, d1, eGr, eAb, z1, z2, z3, z4, hhs', hgt2, lyl] <;> omega))⟩ ?_
      rintro m tm h' hFr ⟨j, rfl, rfl, e346, hj⟩
      simp only [FrameL] at hFr
      obtain ⟨f1_0, f24_0, f25_0, f29_0, f344_0, f345_0, -⟩ := hFr
      try simp (disch := first | omega | (simp; done) | fail) [wrap64c, if_pos, if_neg, opAnd, opOr, opXor, opDiff, opShr, opBit, ntv, csv, ntw, csw, hbig, ntsv1, cssv1, gs, c1, ntsv2, cssv2, gt, d1, eGr, eAb, z1, z2, z3, z4, hhs', hgt2, lyl] at f1_0 f24_0 f25_0 f29_0 f344_0 f345_0
      have e1 := f1_0
      have e24 := f24_0
      have e25 := f25_0
      have e29 := f29_0
      have e344 := f344_0
      have e345 := f345_0
      by_cases hlt : j < ys2.length
      · have hxj := gd2.l128 _ (List.getElem_mem hlt)
        have t1 : ndiff ys2[j] y = 0 → ndiff ys2[j] wi = 0 := fun h => hwi ▸ great_top (List.getElem_mem hlt) h
        have t2 : ndiff y ys2[j] = 0 → pcN ab ≤ pcN ys2[j] := fun h => hab ▸ above_low gd2 hy (List.getElem_mem hlt) h
        obtain ⟨o_x, i_x, c_x, cs_x, own_x, ex_x, es_x, q_x, b_x, g_x, l_x, r_x⟩ := lY2.open ((by simp; omega))
        have z_x : ∀ h2 : i_x < cs_x.length, cs_x[i_x] = _ := fun h2 => r_x 0 ((by simp; omega)) h2
        have pj1 := jCount_ok g2 ys2[j] hxj
        have pj2 := jCount_ok g2 ab abl
        have q0 : ((ndiff ys2[j] y : Nat) : Int) == 0 → True := fun _ => trivial
        by_cases k1 : ndiff ys2[j] y = 0
        · have k2 := t1 k1
          by_cases k3 : ndiff y ys2[j] = 0
          · have k4 := t2 k3
            have k4' : ¬ ((pcN ys2[j] : Nat) : Int) < ((pcN ab : Nat) : Int) := by omega
            try simp (disch := first | omega | (simp; done) | fail) [wrap64c, if_pos, if_neg, opAnd, opOr, opXor, opDiff, opShr, opBit, ntv, csv, ntw, csw, hbig, ntsv1, cssv1, gs, c1, ntsv2, cssv2, gt, d1, eGr, eAb, z1, z2, z3, z4, hhs', hgt2, lyl, e1, e24, e25, e29, e344, e345, e346, hlt, q_x, g_x, l_x, r_x, z_x, k1, k2, k3, k4']
            refine callG_c (by simp) (by simp) ?ha (pj1) ?_
            (case ha => simp (disch := first | omega | (simp; done) | fail) [wrap64c, if_pos, if_neg, opAnd, opOr, opXor, opDiff, opShr, opBit, ntv, csv, ntw, csw, hbig, ntsv1, cssv1, gs, c1, ntsv2, cssv2, gt, d1, eGr, eAb, z1, z2, z3, z4, hhs', hgt2, lyl, e1, e24, e25, e29, e344, e345, e346, hlt, q_x, g_x, l_x, r_x, z_x, k1, k2, k3, k4'])
            try simp (disch := first | omega | (simp; done) | fail) [wrap64c, if_pos, if_neg, opAnd, opOr, opXor, opDiff, opShr, opBit, ntv, csv, ntw, csw, hbig, ntsv1, cssv1, gs, c1, ntsv2, cssv2, gt, d1, eGr, eAb, z1, z2, z3, z4, hhs', hgt2, lyl, e1, e24, e25, e29, e344, e345, e346, hlt, q_x, g_x, l_x, r_x, z_x, k1, k2, k3, k4']
            refine callG_c (by simp) (by simp) ?ha (pj2) ?_
            (case ha => simp (disch := first | omega | (simp; done) | fail) [wrap64c, if_pos, if_neg, opAnd, opOr, opXor, opDiff, opShr, opBit, ntv, csv, ntw, csw, hbig, ntsv1, cssv1, gs, c1, ntsv2, cssv2, gt, d1, eGr, eAb, z1, z2, z3, z4, hhs', hgt2, lyl, e1, e24, e25, e29, e344, e345, e346, hlt, q_x, g_x, l_x, r_x, z_x, k1, k2, k3, k4'])
            try simp (disch := first | omega | (simp; done) | fail) [wrap64c, if_pos, if_neg, opAnd, opOr, opXor, opDiff, opShr, opBit, ntv, csv, ntw, csw, hbig, ntsv1, cssv1, gs, c1, ntsv2, cssv2, gt, d1, eGr, eAb, z1, z2, z3, z4, hhs', hgt2, lyl, e1, e24, e25, e29, e344, e345, e346, hlt, q_x, g_x, l_x, r_x, z_x, k1, k2, k3, k4']
            refine loopK_next _ ?hm ?hf ⟨j + 1, rfl, rfl, (by simp (disch := first | omega | (simp; done) | fail) [wrap64c, if_pos, if_neg, opAnd, opOr, opXor, opDiff, opShr, opBit, ntv, csv, ntw, csw, hbig, ntsv1, cssv1, gs, c1, ntsv2, cssv2, gt, d1, eGr, eAb, z1, z2, z3, z4, hhs', hgt2, lyl, e1, e24, e25, e29, e344, e345, e346, hlt, q_x, g_x, l_x, r_x, z_x, k1, k2, k3, k4'] <;> omega), (by first | omega | assumption | (simp (disch := first | omega | (simp; done) | fail) [wrap64c, if_pos, if_neg, opAnd, opOr, opXor, opDiff, opShr, opBit, ntv, csv, ntw, csw, hbig, ntsv1, cssv1, gs, c1, ntsv2, cssv2, gt, d1, eGr, eAb, z1, z2, z3, z4, hhs', hgt2, lyl, e1, e24, e25, e29, e344, e345, e346, hlt, q_x, g_x, l_x, r_x, z_x, k1, k2, k3, k4'] <;> omega))⟩
            (case hm => first | omega | (simp; omega))
            (case hf => simp [FrameL, ntv, csv, ntw, csw, hbig, ntsv1, cssv1, gs, c1, ntsv2, cssv2, gt, d1, eGr, eAb, z1, z2, z3, z4, hhs', hgt2, lyl, e1, e24, e25, e29, e344, e345, e346, hlt, q_x, g_x, l_x, r_x, z_x, k1, k2, k3, k4', f1_0, f24_0, f25_0, f29_0, f344_0, f345_0])
          · try simp (disch := first | omega | (simp; done) | fail) [wrap64c, if_pos, if_neg, opAnd, opOr, opXor, opDiff, opShr, opBit, ntv, csv, ntw, csw, hbig, ntsv1, cssv1, gs, c1, ntsv2, cssv2, gt, d1, eGr, eAb, z1, z2, z3, z4, hhs', hgt2, lyl, e1, e24, e25, e29, e344, e345, e346, hlt, q_x, g_x, l_x, r_x, z_x, k1, k2, k3]
            refine loopK_next _ ?hm ?hf ⟨j + 1, rfl, rfl, (by simp (disch := first | omega | (simp; done) | fail) [wrap64c, if_pos, if_neg, opAnd, opOr, opXor, opDiff, opShr, opBit, ntv, csv, ntw, csw, hbig, ntsv1, cssv1, gs, c1, ntsv2, cssv2, gt, d1, eGr, eAb, z1, z2, z3, z4, hhs', hgt2, lyl, e1, e24, e25, e29, e344, e345, e346, hlt, q_x, g_x, l_x, r_x, z_x, k1, k2, k3] <;> omega), (by first | omega | assumption | (simp (disch := first | omega | (simp; done) | fail) [wrap64c, if_pos, if_neg, opAnd, opOr, opXor, opDiff, opShr, opBit, ntv, csv, ntw, csw, hbig, ntsv1, cssv1, gs, c1, ntsv2, cssv2, gt, d1, eGr, eAb, z1, z2, z3, z4, hhs', hgt2, lyl, e1, e24, e25, e29, e344, e345, e346, hlt, q_x, g_x, l_x, r_x, z_x, k1, k2, k3] <;> omega))⟩
            (case hm => first | omega | (simp; omega))
            (case hf => simp [FrameL, ntv, csv, ntw, csw, hbig, ntsv1, cssv1, gs, c1, ntsv2, cssv2, gt, d1, eGr, eAb, z1, z2, z3, z4, hhs', hgt2, lyl, e1, e24, e25, e29, e344, e345, e346, hlt, q_x, g_x, l_x, r_x, z_x, k1, k2, k3, f1_0, f24_0, f25_0, f29_0, f344_0, f345_0])
        · by_cases k3 : ndiff y ys2[j] = 0
          · have k4 := t2 k3
            have k4' : ¬ ((pcN ys2[j] : Nat) : Int) < ((pcN ab : Nat) : Int) := by omega
            try simp (disch := first | omega | (simp; done) | fail) [wrap64c, if_pos, if_neg, opAnd, opOr, opXor, opDiff, opShr, opBit, ntv, csv, ntw, csw, hbig, ntsv1, cssv1, gs, c1, ntsv2, cssv2, gt, d1, eGr, eAb, z1, z2, z3, z4, hhs', hgt2, lyl, e1, e24, e25, e29, e344, e345, e346, hlt, q_x, g_x, l_x, r_x, z_x, k1, k3, k4']
            refine callG_c (by simp) (by simp) ?ha (pj1) ?_
            (case ha => simp (disch := first | omega | (simp; done) | fail) [wrap64c, if_pos, if_neg, opAnd, opOr, opXor, opDiff, opShr, opBit, ntv, csv, ntw, csw, hbig, ntsv1, cssv1, gs, c1, ntsv2, cssv2, gt, d1, eGr, eAb, z1, z2, z3, z4, hhs', hgt2, lyl, e1, e24, e25, e29, e344, e345, e346, hlt, q_x, g_x, l_x, r_x, z_x, k1, k3, k4'])
            try simp (disch := first | omega | (simp; done) | fail) [wrap64c, if_pos, if_neg, opAnd, opOr, opXor, opDiff, opShr, opBit, ntv, csv, ntw, csw, hbig, ntsv1, cssv1, gs, c1, ntsv2, cssv2, gt, d1, eGr, eAb, z1, z2, z3, z4, hhs', hgt2, lyl, e1, e24, e25, e29, e344, e345, e346, hlt, q_x, g_x, l_x, r_x, z_x, k1, k3, k4']
            refine callG_c (by simp) (by simp) ?ha (pj2) ?_
            (case ha => simp (disch := first | omega | (simp; done) | fail) [wrap64c, if_pos, if_neg, opAnd, opOr, opXor, opDiff, opShr, opBit, ntv, csv, ntw, csw, hbig, ntsv1, cssv1, gs, c1, ntsv2, cssv2, gt, d1, eGr, eAb, z1, z2, z3, z4, hhs', hgt2, lyl, e1, e24, e25, e29, e344, e345, e346, hlt, q_x, g_x, l_x, r_x, z_x, k1, k3, k4'])
            try simp (disch := first | omega | (simp; done) | fail) [wrap64c, if_pos, if_neg, opAnd, opOr, opXor, opDiff, opShr, opBit, ntv, csv, ntw, csw, hbig, ntsv1, cssv1, gs, c1, ntsv2, cssv2, gt, d1, eGr, eAb, z1, z2, z3, z4, hhs', hgt2, lyl, e1, e24, e25, e29, e344, e345, e346, hlt, q_x, g_x, l_x, r_x, z_x, k1, k3, k4']
            refine loopK_next _ ?hm ?hf ⟨j + 1, rfl, rfl, (by simp (disch := first | omega | (simp; done) | fail) [wrap64c, if_pos, if_neg, opAnd, opOr, opXor, opDiff, opShr, opBit, ntv, csv, ntw, csw, hbig, ntsv1, cssv1, gs, c1, ntsv2, cssv2, gt, d1, eGr, eAb, z1, z2, z3, z4, hhs', hgt2, lyl, e1, e24, e25, e29, e344, e345, e346, hlt, q_x, g_x, l_x, r_x, z_x, k1, k3, k4'] <;> omega), (by first | omega | assumption | (simp (disch := first | omega | (simp; done) | fail) [wrap64c, if_pos, if_neg, opAnd, opOr, opXor, opDiff, opShr, opBit, ntv, csv, ntw, csw, hbig, ntsv1, cssv1, gs, c1, ntsv2, cssv2, gt, d1, eGr, eAb, z1, z2, z3, z4, hhs', hgt2, lyl, e1, e24, e25, e29, e344, e345, e346, hlt, q_x, g_x, l_x, r_x, z_x, k1, k3, k4'] <;> omega))⟩
            (case hm => first | omega | (simp; omega))
            (case hf => simp [FrameL, ntv, csv, ntw, csw, hbig, ntsv1, cssv1, gs, c1, ntsv2, cssv2, gt, d1, eGr, eAb, z1, z2, z3, z4, hhs', hgt2, lyl, e1, e24, e25, e29, e344, e345, e346, hlt, q_x, g_x, l_x, r_x, z_x, k1, k3, k4', f1_0, f24_0, f25_0, f29_0, f344_0, f345_0])
          · try simp (disch := first | omega | (simp; done) | fail) [wrap64c, if_pos, if_neg, opAnd, opOr, opXor, opDiff, opShr, opBit, ntv, csv, ntw, csw, hbig, ntsv1, cssv1, gs, c1, ntsv2, cssv2, gt, d1, eGr, eAb, z1, z2, z3, z4, hhs', hgt2, lyl, e1, e24, e25, e29, e344, e345, e346, hlt, q_x, g_x, l_x, r_x, z_x, k1, k3]
            refine loopK_next _ ?hm ?hf ⟨j + 1, rfl, rfl, (by simp (disch := first | omega | (simp; done) | fail) [wrap64c, if_pos, if_neg, opAnd, opOr, opXor, opDiff, opShr, opBit, ntv, csv, ntw, csw, hbig, ntsv1, cssv1, gs, c1, ntsv2, cssv2, gt, d1, eGr, eAb, z1, z2, z3, z4, hhs', hgt2, lyl, e1, e24, e25, e29, e344, e345, e346, hlt, q_x, g_x, l_x, r_x, z_x, k1, k3] <;> omega), (by first | omega | assumption | (simp (disch := first | omega | (simp; done) | fail) [wrap64c, if_pos, if_neg, opAnd, opOr, opXor, opDiff, opShr, opBit, ntv, csv, ntw, csw, hbig, ntsv1, cssv1, gs, c1, ntsv2, cssv2, gt, d1, eGr, eAb, z1, z2, z3, z4, hhs', hgt2, lyl, e1, e24, e25, e29, e344, e345, e346, hlt, q_x, g_x, l_x, r_x, z_x, k1, k3] <;> omega))⟩
            (case hm => first | omega | (simp; omega))
            (case hf => simp [FrameL, ntv, csv, ntw, csw, hbig, ntsv1, cssv1, gs, c1, ntsv2, cssv2, gt, d1, eGr, eAb, z1, z2, z3, z4, hhs', hgt2, lyl, e1, e24, e25, e29, e344, e345, e346, hlt, q_x, g_x, l_x, r_x, z_x, k1, k3, f1_0, f24_0, f25_0, f29_0, f344_0, f345_0])
      · try simp (disch := first | omega | (simp; done) | fail) [wrap64c, if_pos, if_neg, opAnd, opOr, opXor, opDiff, opShr, opBit, ntv, csv, ntw, csw, hbig, ntsv1, cssv1, gs, c1, ntsv2, cssv2, gt, d1, eGr, eAb, z1, z2, z3, z4, hhs', hgt2, lyl, e1, e24, e25, e29, e344, e345, e346, hlt]
        obtain ⟨f0, hf0⟩ : ∃ x, x = g2 := ⟨_, rfl⟩
        have K0 := K2
        rw [← hf0] at K0
        have hv := hv
        have hw := hw
        rw [← hf0] at hv
        rw [← hf0] at hw
        try rw [← hf0]
        obtain ⟨_, f1, p1, a1, s3, J, Z, u, z, rfl, hE, lZ⟩ := drawFr_ok f0 w ys (bytes_old hw)
        refine callG_c (by simp) (by simp) ?ha (p1) ?_
        (case ha => simp (disch := first | omega | (simp; done) | fail) [wrap64c, if_pos, if_neg, opAnd, opOr, opXor, opDiff, opShr, opBit, ntv, csv, ntw, csw, hbig, ntsv1, cssv1, gs, c1, ntsv2, cssv2, gt, d1, eGr, eAb, z1, z2, z3, z4, hhs', hgt2, lyl, e1, e24, e25, e29, e344, e345, e346, hlt])
        have n1 := a1.1.1
        have K1 := K0.trans a1.1
        have hv := hv.keep a1.1
        have hw := hw.keep a1.1
        obtain ⟨sv3, rfl, hsv3⟩ := hE
        have hsv3 := hsv3.ints
        have ntsv3 := hsv3.nt
        have cssv3 := hsv3.cs
        have hE : Space f1 (.agg #[.int .i64 J, sv3]) J Z := .mk hsv3
        try simp (disch := first | omega | (simp; done) | fail) [wrap64c, if_pos, if_neg, opAnd, opOr, opXor, opDiff, opShr, opBit, ntv, csv, ntw, csw, hbig, ntsv1, cssv1, gs, c1, ntsv2, cssv2, gt, d1, eGr, eAb, z1, z2, z3, z4, hhs', hgt2, lyl, e1, e24, e25, e29, e344, e345, e346, hlt, ntsv3, cssv3, putCells]
        first | refine WY_heap fun f2 q_f2 => ?_ | refine callG_heap fun f2 q_f2 => ?_ | refine callP_heap fun f2 q_f2 => ?_ | refine callS_heap fun f2 q_f2 => ?_ | refine RY_heap fun f2 q_f2 => ?_ | refine PY_heap fun f2 q_f2 => ?_ | refine SY_heap fun f2 q_f2 => ?_ | refine doneY_heap fun f2 q_f2 => ?_ | refine loopK_heap fun f2 q_f2 => ?_ | refine thenY_heap fun f2 q_f2 => ?_ | refine thenM_heap fun f2 q_f2 => ?_
        have b2 : Adds f1 f2 := by rw [q_f2]; exact (by first | exact aK | exact kK)
        have n2 := b2.1.1
        have K2 := K1.trans b2.1
        have hv := hv.keep b2.1
        have hw := hw.keep b2.1
        have hE := hE.keep b2.1
        have m2 : f2.next = f1.next + 1 := by simp [q_f2]
        have gu : f2.get f1.next = .cells [.int .i64 J, sv3] true true 1 := by simp [q_f2]
        have lZ' : Z.length < 2 ^ 40 := by omega
        refine callG_c (by simp) (by simp) ?ha (implFr_ok f2 _ J Z u z hE lZ') ?_
        (case ha => simp (disch := first | omega | (simp; done) | fail) [wrap64c, if_pos, if_neg, opAnd, opOr, opXor, opDiff, opShr, opBit, ntv, csv, ntw, csw, hbig, ntsv1, cssv1, gs, c1, ntsv2, cssv2, gt, d1, eGr, eAb, z1, z2, z3, z4, hhs', hgt2, lyl, e1, e24, e25, e29, e344, e345, e346, hlt, ntsv3, cssv3, gu])
        try simp (disch := first | omega | (simp; done) | fail) [wrap64c, if_pos, if_neg, opAnd, opOr, opXor, opDiff, opShr, opBit, ntv, csv, ntw, csw, hbig, ntsv1, cssv1, gs, c1, ntsv2, cssv2, gt, d1, eGr, eAb, z1, z2, z3, z4, hhs', hgt2, lyl, e1, e24, e25, e29, e344, e345, e346, hlt, ntsv3, cssv3, gu]
        refine callG_c (by simp) (by simp) ?ha (specFr_ok f2 _ J Z u z hE lZ') ?_
        (case ha => simp (disch := first | omega | (simp; done) | fail) [wrap64c, if_pos, if_neg, opAnd, opOr, opXor, opDiff, opShr, opBit, ntv, csv, ntw, csw, hbig, ntsv1, cssv1, gs, c1, ntsv2, cssv2, gt, d1, eGr, eAb, z1, z2, z3, z4, hhs', hgt2, lyl, e1, e24, e25, e29, e344, e345, e346, hlt, ntsv3, cssv3, gu])
        try simp (disch := first | omega | (simp; done) | fail) [wrap64c, if_pos, if_neg, opAnd, opOr, opXor, opDiff, opShr, opBit, ntv, csv, ntw, csw, hbig, ntsv1, cssv1, gs, c1, ntsv2, cssv2, gt, d1, eGr, eAb, z1, z2, z3, z4, hhs', hgt2, lyl, e1, e24, e25, e29, e344, e345, e346, hlt, ntsv3, cssv3, gu]
        exact done_ret rfl (by simp [K2])
  · obtain ⟨n, fs, x, eN, eX, ea, gd, hx⟩ := oneB_true c1
    subst eN eX ea
    have n7 := gd.n7
    have hb := bit7 n7
    have hxl := gd.lt x hx
    have x128 : x < 128 := by omega
    have spg : spB (n : Int) (toN fs) = true := spB_of gd
    obtain ⟨ou, hou⟩ : ∃ q, q = outerN (fam fs) n x := ⟨_, rfl⟩
    obtain ⟨inn, hinn⟩ : ∃ q, q = innerN (fam fs) x := ⟨_, rfl⟩
    have eO : outerR (n : Int) (toN fs) (x : Int) = (ou : Int) := by simp [outerR, c1, hou]
    have eI : innerR (n : Int) (toN fs) (x : Int) = (inn : Int) := by simp [innerR, c1, hinn]
    have oul : ou < bit n := hou ▸ outerN_lt _ _ _
    have inl : inn < bit n := hinn ▸ innerN_le gd hx
    have z1 : nAnd ou x = 0 := hou ▸ outer_and _ _ _
    have z2 : ndiff inn x = 0 := hinn ▸ inner_diff _ _
    have z3 : ((ou : Int) == 0) = ((x : Int) == ((bit n : Nat) : Int) - 1) := by
      rw [Bool.eq_iff_iff]; simp only [beq_iff_eq]; rw [show ((ou : Int) = 0 ↔ ou = 0) by omega, hou, outer_zero gd hx]; omega
    have z3' := z3
    have z4 : ((inn : Int) == 0) = ((x : Int) == 0) := by
      rw [Bool.eq_iff_iff]; simp only [beq_iff_eq]; rw [show ((inn : Int) = 0 ↔ inn = 0) by omega, hinn, inner_zero gd hx]; omega
    have z4' := z4
    have one1 : ∀ q : Nat, oneB (n : Int) (toN fs) (q : Int) = fam fs q := fun q => by rw [fam_toN (n := 0)]; simp [oneB, spg]
    have in1 : ∀ q : Nat, q < bit n → inB (n : Int) (toN fs) (q : Int) = true := fun q hq => by simp [inB, spg, setB_of hq]
    try simp (disch := first | omega | (simp; done) | fail) [wrap64c, if_pos, if_neg, opAnd, opOr, opXor, opDiff, opShr, opBit, ntv, csv, ntw, csw, hbig, ntsv1, cssv1, gs, c1, eO, eI, z1, z2, z3', z4']
    refine WD_loopC [1, 5, 6, 7, 11] (fun m tm h' => ∃ j, m = n - j ∧ h2 = h' ∧ tm 16 = .int .i64 (j : Int) ∧ (j ≤ n)) _ ⟨0, rfl, rfl, (by simp (disch := first | omega | (simp; done) | fail) [wrap64c, if_pos, if_neg, opAnd, opOr, opXor, opDiff, opShr, opBit, ntv, csv, ntw, csw, hbig, ntsv1, cssv1, gs, c1, eO, eI, z1, z2, z3', z4']), (by first | omega | assumption | (simp (disch := first | omega | (simp; done) | fail) [wrap64c, if_pos, if_neg, opAnd, opOr, opXor, opDiff, opShr, opBit, ntv, csv, ntw, csw, hbig, ntsv1, cssv1, gs, c1, eO, eI, z1, z2, z3', z4'] <;> omega))⟩ ?_
    rintro m tm h' hFr ⟨j, rfl, rfl, e16, hj⟩
    simp only [FrameL] at hFr
    obtain ⟨f1_1, f5_1, f6_1, f7_1, f11_1, -⟩ := hFr
    try simp (disch := first | omega | (simp; done) | fail) [wrap64c, if_pos, if_neg, opAnd, opOr, opXor, opDiff, opShr, opBit, ntv, csv, ntw, csw, hbig, ntsv1, cssv1, gs, c1, eO, eI, z1, z2, z3', z4'] at f1_1 f5_1 f6_1 f7_1 f11_1
    have e1 := f1_1
    have e5 := f5_1
    have e6 := f6_1
    have e7 := f7_1
    have e11 := f11_1
    by_cases hlt : j < n
    · have hbj := bit7 (i := j) (by omega)
      have wl : nOr x (bit j) < bit n := nOr_lt hxl (bit_lt_bit hlt)
      have ll : ndiff x (bit j) < bit n := ndiff_lt hxl
      have pW := implHas_ok h2 _ (n : Int) (toN fs) ((nOr x (bit j) : Nat) : Int) hC lX'
      have pL := implHas_ok h2 _ (n : Int) (toN fs) ((ndiff x (bit j) : Nat) : Int) hC lX'
      rw [one1, in1 _ wl] at pW
      rw [one1, in1 _ ll] at pL
      have tx := shrMod x j
      have to := shrMod ou j
      have ti := shrMod inn j
      obtain ⟨bw, hbw⟩ : ∃ q, q = fam fs (nOr x (bit j)) := ⟨_, rfl⟩
      obtain ⟨bl, hbl⟩ : ∃ q, q = fam fs (ndiff x (bit j)) := ⟨_, rfl⟩
      rw [← hbw] at pW
      rw [← hbl] at pL
      cases xb : x.testBit j
      · rw [xb] at tx
        have tx := tx
        have bo : (Int.tmod ((nShr ou j : Nat) : Int) 2 == 1) = bw := by
          rw [to, hbw, hou, outerN_bit, xb]; cases fam fs (nOr x (bit j)) <;> simp [hlt]
        have bo' := bo
        try simp (disch := first | omega | (simp; done) | fail) [wrap64c, if_pos, if_neg, opAnd, opOr, opXor, opDiff, opShr, opBit, ntv, csv, ntw, csw, hbig, ntsv1, cssv1, gs, c1, eO, eI, z1, z2, z3', z4', e1, e5, e6, e7, e11, e16, hlt, tx, bo']
        refine WD_chainC rfl (by kernel_rfl) (by kernel_rfl) ?_
        try simp (disch := first | omega | (simp; done) | fail) [wrap64c, if_pos, if_neg, opAnd, opOr, opXor, opDiff, opShr, opBit, ntv, csv, ntw, csw, hbig, ntsv1, cssv1, gs, c1, eO, eI, z1, z2, z3', z4', e1, e5, e6, e7, e11, e16, hlt, tx, bo']
        refine callG_c (by simp) (by simp) ?ha (pW) ?_
        (case ha => simp (disch := first | omega | (simp; done) | fail) [wrap64c, if_pos, if_neg, opAnd, opOr, opXor, opDiff, opShr, opBit, ntv, csv, ntw, csw, hbig, ntsv1, cssv1, gs, c1, eO, eI, z1, z2, z3', z4', e1, e5, e6, e7, e11, e16, hlt, tx, bo'])
        try simp (disch := first | omega | (simp; done) | fail) [wrap64c, if_pos, if_neg, opAnd, opOr, opXor, opDiff, opShr, opBit, ntv, csv, ntw, csw, hbig, ntsv1, cssv1, gs, c1, eO, eI, z1, z2, z3', z4', e1, e5, e6, e7, e11, e16, hlt, tx, bo']
        refine WD_chainC rfl (by kernel_rfl) (by kernel_rfl) ?_
        try simp (disch := first | omega | (simp; done) | fail) [wrap64c, if_pos, if_neg, opAnd, opOr, opXor, opDiff, opShr, opBit, ntv, csv, ntw, csw, hbig, ntsv1, cssv1, gs, c1, eO, eI, z1, z2, z3', z4', e1, e5, e6, e7, e11, e16, hlt, tx, bo']
        refine callG_c (by simp) (by simp) ?ha (pL) ?_
        (case ha => simp (disch := first | omega | (simp; done) | fail) [wrap64c, if_pos, if_neg, opAnd, opOr, opXor, opDiff, opShr, opBit, ntv, csv, ntw, csw, hbig, ntsv1, cssv1, gs, c1, eO, eI, z1, z2, z3', z4', e1, e5, e6, e7, e11, e16, hlt, tx, bo'])
        try simp (disch := first | omega | (simp; done) | fail) [wrap64c, if_pos, if_neg, opAnd, opOr, opXor, opDiff, opShr, opBit, ntv, csv, ntw, csw, hbig, ntsv1, cssv1, gs, c1, eO, eI, z1, z2, z3', z4', e1, e5, e6, e7, e11, e16, hlt, tx, bo']
        refine loopK_next _ ?hm ?hf ⟨j + 1, rfl, rfl, (by simp (disch := first | omega | (simp; done) | fail) [wrap64c, if_pos, if_neg, opAnd, opOr, opXor, opDiff, opShr, opBit, ntv, csv, ntw, csw, hbig, ntsv1, cssv1, gs, c1, eO, eI, z1, z2, z3', z4', e1, e5, e6, e7, e11, e16, hlt, tx, bo'] <;> omega), (by first | omega | assumption | (simp (disch := first | omega | (simp; done) | fail) [wrap64c, if_pos, if_neg, opAnd, opOr, opXor, opDiff, opShr, opBit, ntv, csv, ntw, csw, hbig, ntsv1, cssv1, gs, c1, eO, eI, z1, z2, z3', z4', e1, e5, e6, e7, e11, e16, hlt, tx, bo'] <;> omega))⟩
        (case hm => first | omega | (simp; omega))
        (case hf => simp [FrameL, ntv, csv, ntw, csw, hbig, ntsv1, cssv1, gs, c1, eO, eI, z1, z2, z3', z4', e1, e5, e6, e7, e11, e16, hlt, tx, bo', f1_1, f5_1, f6_1, f7_1, f11_1])
      · rw [xb] at tx
        have tx := tx
        have bi : (Int.tmod ((nShr inn j : Nat) : Int) 2 == 1) = bl := by
          rw [ti, hbl, hinn, innerN_bit, xb, ← ndiff_one xb]; cases fam fs (ndiff x (bit j)) <;> simp [show j < 7 by omega]
        have bi' := bi
        try simp (disch := first | omega | (simp; done) | fail) [wrap64c, if_pos, if_neg, opAnd, opOr, opXor, opDiff, opShr, opBit, ntv, csv, ntw, csw, hbig, ntsv1, cssv1, gs, c1, eO, eI, z1, z2, z3', z4', e1, e5, e6, e7, e11, e16, hlt, tx, bi']
        refine WD_chainC rfl (by kernel_rfl) (by kernel_rfl) ?_
        try simp (disch := first | omega | (simp; done) | fail) [wrap64c, if_pos, if_neg, opAnd, opOr, opXor, opDiff, opShr, opBit, ntv, csv, ntw, csw, hbig, ntsv1, cssv1, gs, c1, eO, eI, z1, z2, z3', z4', e1, e5, e6, e7, e11, e16, hlt, tx, bi']
        refine callG_c (by simp) (by simp) ?ha (pW) ?_
        (case ha => simp (disch := first | omega | (simp; done) | fail) [wrap64c, if_pos, if_neg, opAnd, opOr, opXor, opDiff, opShr, opBit, ntv, csv, ntw, csw, hbig, ntsv1, cssv1, gs, c1, eO, eI, z1, z2, z3', z4', e1, e5, e6, e7, e11, e16, hlt, tx, bi'])
        try simp (disch := first | omega | (simp; done) | fail) [wrap64c, if_pos, if_neg, opAnd, opOr, opXor, opDiff, opShr, opBit, ntv, csv, ntw, csw, hbig, ntsv1, cssv1, gs, c1, eO, eI, z1, z2, z3', z4', e1, e5, e6, e7, e11, e16, hlt, tx, bi']
        refine WD_chainC rfl (by kernel_rfl) (by kernel_rfl) ?_
        try simp (disch := first | omega | (simp; done) | fail) [wrap64c, if_pos, if_neg, opAnd, opOr, opXor, opDiff, opShr, opBit, ntv, csv, ntw, csw, hbig, ntsv1, cssv1, gs, c1, eO, eI, z1, z2, z3', z4', e1, e5, e6, e7, e11, e16, hlt, tx, bi']
        refine callG_c (by simp) (by simp) ?ha (pL) ?_
        (case ha => simp (disch := first | omega | (simp; done) | fail) [wrap64c, if_pos, if_neg, opAnd, opOr, opXor, opDiff, opShr, opBit, ntv, csv, ntw, csw, hbig, ntsv1, cssv1, gs, c1, eO, eI, z1, z2, z3', z4', e1, e5, e6, e7, e11, e16, hlt, tx, bi'])
        try simp (disch := first | omega | (simp; done) | fail) [wrap64c, if_pos, if_neg, opAnd, opOr, opXor, opDiff, opShr, opBit, ntv, csv, ntw, csw, hbig, ntsv1, cssv1, gs, c1, eO, eI, z1, z2, z3', z4', e1, e5, e6, e7, e11, e16, hlt, tx, bi']
        refine loopK_next _ ?hm ?hf ⟨j + 1, rfl, rfl, (by simp (disch := first | omega | (simp; done) | fail) [wrap64c, if_pos, if_neg, opAnd, opOr, opXor, opDiff, opShr, opBit, ntv, csv, ntw, csw, hbig, ntsv1, cssv1, gs, c1, eO, eI, z1, z2, z3', z4', e1, e5, e6, e7, e11, e16, hlt, tx, bi'] <;> omega), (by first | omega | assumption | (simp (disch := first | omega | (simp; done) | fail) [wrap64c, if_pos, if_neg, opAnd, opOr, opXor, opDiff, opShr, opBit, ntv, csv, ntw, csw, hbig, ntsv1, cssv1, gs, c1, eO, eI, z1, z2, z3', z4', e1, e5, e6, e7, e11, e16, hlt, tx, bi'] <;> omega))⟩
        (case hm => first | omega | (simp; omega))
        (case hf => simp [FrameL, ntv, csv, ntw, csw, hbig, ntsv1, cssv1, gs, c1, eO, eI, z1, z2, z3', z4', e1, e5, e6, e7, e11, e16, hlt, tx, bi', f1_1, f5_1, f6_1, f7_1, f11_1])
    · have pF := implFr_ok h2 _ (n : Int) (toN fs) (inn : Int) (ou : Int) hC lX'
      have eF : frR (n : Int) (toN fs) (inn : Int) (ou : Int) = some x := by
        have hin := in1 inn inl
        have hso := setB_of oul
        rw [frR, hin, Int.toNat_natCast, hso]
        simp only [Bool.and_self, if_true, natsOf_toN]
        rw [hinn, hou]
        exact fr_own gd hx
      have eV : frV (n : Int) (toN fs) (inn : Int) (ou : Int) = (x : Int) := by rw [frV, eF]
      rw [eF, eV] at pF
      try simp (disch := first | omega | (simp; done) | fail) [wrap64c, if_pos, if_neg, opAnd, opOr, opXor, opDiff, opShr, opBit, ntv, csv, ntw, csw, hbig, ntsv1, cssv1, gs, c1, eO, eI, z1, z2, z3', z4', e1, e5, e6, e7, e11, e16, hlt]
      refine callG_c (by simp) (by simp) ?ha (pF) ?_
      (case ha => simp (disch := first | omega | (simp; done) | fail) [wrap64c, if_pos, if_neg, opAnd, opOr, opXor, opDiff, opShr, opBit, ntv, csv, ntw, csw, hbig, ntsv1, cssv1, gs, c1, eO, eI, z1, z2, z3', z4', e1, e5, e6, e7, e11, e16, hlt])
      try simp (disch := first | omega | (simp; done) | fail) [wrap64c, if_pos, if_neg, opAnd, opOr, opXor, opDiff, opShr, opBit, ntv, csv, ntw, csw, hbig, ntsv1, cssv1, gs, c1, eO, eI, z1, z2, z3', z4', e1, e5, e6, e7, e11, e16, hlt]
      obtain ⟨g0, hg0⟩ : ∃ x, x = h2 := ⟨_, rfl⟩
      have K0 := K2
      rw [← hg0] at K0
      have hv := hv
      have hw := hw
      rw [← hg0] at hv
      rw [← hg0] at hw
      try rw [← hg0]
      obtain ⟨_, g1, p1, a1, s2, G, Y, c, rfl, hD, lY⟩ := drawGreat_ok g0 w ys (bytes_old hw)
      refine callG_c (by simp) (by simp) ?ha (p1) ?_
      (case ha => simp (disch := first | omega | (simp; done) | fail) [wrap64c, if_pos, if_neg, opAnd, opOr, opXor, opDiff, opShr, opBit, ntv, csv, ntw, csw, hbig, ntsv1, cssv1, gs, c1, eO, eI, z1, z2, z3', z4', e1, e5, e6, e7, e11, e16, hlt])
      have n1 := a1.1.1
      have K1 := K0.trans a1.1
      have hv := hv.keep a1.1
      have hw := hw.keep a1.1
      obtain ⟨sv2, rfl, hsv2⟩ := hD
      have hsv2 := hsv2.ints
      have ntsv2 := hsv2.nt
      have cssv2 := hsv2.cs
      have hD : Space g1 (.agg #[.int .i64 G, sv2]) G Y := .mk hsv2
      try simp (disch := first | omega | (simp; done) | fail) [wrap64c, if_pos, if_neg, opAnd, opOr, opXor, opDiff, opShr, opBit, ntv, csv, ntw, csw, hbig, ntsv1, cssv1, gs, c1, eO, eI, z1, z2, z3', z4', e1, e5, e6, e7, e11, e16, hlt, ntsv2, cssv2, putCells]
      first | refine WY_heap fun g2 q_g2 => ?_ | refine callG_heap fun g2 q_g2 => ?_ | refine callP_heap fun g2 q_g2 => ?_ | refine callS_heap fun g2 q_g2 => ?_ | refine RY_heap fun g2 q_g2 => ?_ | refine PY_heap fun g2 q_g2 => ?_ | refine SY_heap fun g2 q_g2 => ?_ | refine doneY_heap fun g2 q_g2 => ?_ | refine loopK_heap fun g2 q_g2 => ?_ | refine thenY_heap fun g2 q_g2 => ?_ | refine thenM_heap fun g2 q_g2 => ?_
      have b2 : Adds g1 g2 := by rw [q_g2]; exact (by first | exact aK | exact kK)
      have n2 := b2.1.1
      have K2 := K1.trans b2.1
      have hv := hv.keep b2.1
      have hw := hw.keep b2.1
      have hD := hD.keep b2.1
      have m2 : g2.next = g1.next + 1 := by simp [q_g2]
      have gt : g2.get g1.next = .cells [.int .i64 G, sv2] true true 1 := by simp [q_g2]
      have lY' : Y.length < 2 ^ 40 := by omega
      refine callG_c (by simp) (by simp) ?ha (implGreat_ok g2 _ G Y c hD lY') ?_
      (case ha => simp (disch := first | omega | (simp; done) | fail) [wrap64c, if_pos, if_neg, opAnd, opOr, opXor, opDiff, opShr, opBit, ntv, csv, ntw, csw, hbig, ntsv1, cssv1, gs, c1, eO, eI, z1, z2, z3', z4', e1, e5, e6, e7, e11, e16, hlt, ntsv2, cssv2, gt])
      try simp (disch := first | omega | (simp; done) | fail) [wrap64c, if_pos, if_neg, opAnd, opOr, opXor, opDiff, opShr, opBit, ntv, csv, ntw, csw, hbig, ntsv1, cssv1, gs, c1, eO, eI, z1, z2, z3', z4', e1, e5, e6, e7, e11, e16, hlt, ntsv2, cssv2, gt]
      refine callG_c (by simp) (by simp) ?ha (specGreat_ok g2 _ G Y c hD lY') ?_
      (case ha => simp (disch := first | omega | (simp; done) | fail) [wrap64c, if_pos, if_neg, opAnd, opOr, opXor, opDiff, opShr, opBit, ntv, csv, ntw, csw, hbig, ntsv1, cssv1, gs, c1, eO, eI, z1, z2, z3', z4', e1, e5, e6, e7, e11, e16, hlt, ntsv2, cssv2, gt])
      try simp (disch := first | omega | (simp; done) | fail) [wrap64c, if_pos, if_neg, opAnd, opOr, opXor, opDiff, opShr, opBit, ntv, csv, ntw, csw, hbig, ntsv1, cssv1, gs, c1, eO, eI, z1, z2, z3', z4', e1, e5, e6, e7, e11, e16, hlt, ntsv2, cssv2, gt]
      refine callG_c (by simp) (by simp) ?ha (implAbove_ok g2 _ G Y c hD lY') ?_
      (case ha => simp (disch := first | omega | (simp; done) | fail) [wrap64c, if_pos, if_neg, opAnd, opOr, opXor, opDiff, opShr, opBit, ntv, csv, ntw, csw, hbig, ntsv1, cssv1, gs, c1, eO, eI, z1, z2, z3', z4', e1, e5, e6, e7, e11, e16, hlt, ntsv2, cssv2, gt])
      try simp (disch := first | omega | (simp; done) | fail) [wrap64c, if_pos, if_neg, opAnd, opOr, opXor, opDiff, opShr, opBit, ntv, csv, ntw, csw, hbig, ntsv1, cssv1, gs, c1, eO, eI, z1, z2, z3', z4', e1, e5, e6, e7, e11, e16, hlt, ntsv2, cssv2, gt]
      refine callG_c (by simp) (by simp) ?ha (specAbove_ok g2 _ G Y c hD lY') ?_
      (case ha => simp (disch := first | omega | (simp; done) | fail) [wrap64c, if_pos, if_neg, opAnd, opOr, opXor, opDiff, opShr, opBit, ntv, csv, ntw, csw, hbig, ntsv1, cssv1, gs, c1, eO, eI, z1, z2, z3', z4', e1, e5, e6, e7, e11, e16, hlt, ntsv2, cssv2, gt])
      try simp (disch := first | omega | (simp; done) | fail) [wrap64c, if_pos, if_neg, opAnd, opOr, opXor, opDiff, opShr, opBit, ntv, csv, ntw, csw, hbig, ntsv1, cssv1, gs, c1, eO, eI, z1, z2, z3', z4', e1, e5, e6, e7, e11, e16, hlt, ntsv2, cssv2, gt]
      refine callG_c (by simp) (by simp) ?ha (implHas_ok g2 _ G Y c hD lY') ?_
      (case ha => simp (disch := first | omega | (simp; done) | fail) [wrap64c, if_pos, if_neg, opAnd, opOr, opXor, opDiff, opShr, opBit, ntv, csv, ntw, csw, hbig, ntsv1, cssv1, gs, c1, eO, eI, z1, z2, z3', z4', e1, e5, e6, e7, e11, e16, hlt, ntsv2, cssv2, gt])
      try simp (disch := first | omega | (simp; done) | fail) [wrap64c, if_pos, if_neg, opAnd, opOr, opXor, opDiff, opShr, opBit, ntv, csv, ntw, csw, hbig, ntsv1, cssv1, gs, c1, eO, eI, z1, z2, z3', z4', e1, e5, e6, e7, e11, e16, hlt, ntsv2, cssv2, gt]
      refine callG_c (by simp) (by simp) ?ha (specHas_ok g2 _ G Y c hD lY') ?_
      (case ha => simp (disch := first | omega | (simp; done) | fail) [wrap64c, if_pos, if_neg, opAnd, opOr, opXor, opDiff, opShr, opBit, ntv, csv, ntw, csw, hbig, ntsv1, cssv1, gs, c1, eO, eI, z1, z2, z3', z4', e1, e5, e6, e7, e11, e16, hlt, ntsv2, cssv2, gt])
      try simp (disch := first | omega | (simp; done) | fail) [wrap64c, if_pos, if_neg, opAnd, opOr, opXor, opDiff, opShr, opBit, ntv, csv, ntw, csw, hbig, ntsv1, cssv1, gs, c1, eO, eI, z1, z2, z3', z4', e1, e5, e6, e7, e11, e16, hlt, ntsv2, cssv2, gt]
      cases d1 : inB G Y c
      · try simp (disch := first | omega | (simp; done) | fail) [wrap64c, if_pos, if_neg, opAnd, opOr, opXor, opDiff, opShr, opBit, ntv, csv, ntw, csw, hbig, ntsv1, cssv1, gs, c1, eO, eI, z1, z2, z3', z4', e1, e5, e6, e7, e11, e16, hlt, ntsv2, cssv2, gt, d1]
        obtain ⟨f0, hf0⟩ : ∃ x, x = g2 := ⟨_, rfl⟩
        have K0 := K2
        rw [← hf0] at K0
        have hv := hv
        have hw := hw
        rw [← hf0] at hv
        rw [← hf0] at hw
        try rw [← hf0]
        obtain ⟨_, f1, p1, a1, s3, J, Z, u, z, rfl, hE, lZ⟩ := drawFr_ok f0 w ys (bytes_old hw)
        refine callG_c (by simp) (by simp) ?ha (p1) ?_
        (case ha => simp (disch := first | omega | (simp; done) | fail) [wrap64c, if_pos, if_neg, opAnd, opOr, opXor, opDiff, opShr, opBit, ntv, csv, ntw, csw, hbig, ntsv1, cssv1, gs, c1, eO, eI, z1, z2, z3', z4', e1, e5, e6, e7, e11, e16, hlt, ntsv2, cssv2, gt, d1])
        have n1 := a1.1.1
        have K1 := K0.trans a1.1
        have hv := hv.keep a1.1
        have hw := hw.keep a1.1
        obtain ⟨sv3, rfl, hsv3⟩ := hE
        have hsv3 := hsv3.ints
        have ntsv3 := hsv3.nt
        have cssv3 := hsv3.cs
        have hE : Space f1 (.agg #[.int .i64 J, sv3]) J Z := .mk hsv3
        try simp (disch := first | omega | (simp; done) | fail) [wrap64c, if_pos, if_neg, opAnd, opOr, opXor, opDiff, opShr, opBit, ntv, csv, ntw, csw, hbig, ntsv1, cssv1, gs, c1, eO, eI, z1, z2, z3', z4', e1, e5, e6, e7, e11, e16, hlt, ntsv2, cssv2, gt, d1, ntsv3, cssv3, putCells]
        first | refine WY_heap fun f2 q_f2 => ?_ | refine callG_heap fun f2 q_f2 => ?_ | refine callP_heap fun f2 q_f2 => ?_ | refine callS_heap fun f2 q_f2 => ?_ | refine RY_heap fun f2 q_f2 => ?_ | refine PY_heap fun f2 q_f2 => ?_ | refine SY_heap fun f2 q_f2 => ?_ | refine doneY_heap fun f2 q_f2 => ?_ | refine loopK_heap fun f2 q_f2 => ?_ | refine thenY_heap fun f2 q_f2 => ?_ | refine thenM_heap fun f2 q_f2 => ?_
        have b2 : Adds f1 f2 := by rw [q_f2]; exact (by first | exact aK | exact kK)
        have n2 := b2.1.1
        have K2 := K1.trans b2.1
        have hv := hv.keep b2.1
        have hw := hw.keep b2.1
        have hE := hE.keep b2.1
        have m2 : f2.next = f1.next + 1 := by simp [q_f2]
        have gu : f2.get f1.next = .cells [.int .i64 J, sv3] true true 1 := by simp [q_f2]
        have lZ' : Z.length < 2 ^ 40 := by omega
        refine callG_c (by simp) (by simp) ?ha (implFr_ok f2 _ J Z u z hE lZ') ?_
        (case ha => simp (disch := first | omega | (simp; done) | fail) [wrap64c, if_pos, if_neg, opAnd, opOr, opXor, opDiff, opShr, opBit, ntv, csv, ntw, csw, hbig, ntsv1, cssv1, gs, c1, eO, eI, z1, z2, z3', z4', e1, e5, e6, e7, e11, e16, hlt, ntsv2, cssv2, gt, d1, ntsv3, cssv3, gu])
        try simp (disch := first | omega | (simp; done) | fail) [wrap64c, if_pos, if_neg, opAnd, opOr, opXor, opDiff, opShr, opBit, ntv, csv, ntw, csw, hbig, ntsv1, cssv1, gs, c1, eO, eI, z1, z2, z3', z4', e1, e5, e6, e7, e11, e16, hlt, ntsv2, cssv2, gt, d1, ntsv3, cssv3, gu]
        refine callG_c (by simp) (by simp) ?ha (specFr_ok f2 _ J Z u z hE lZ') ?_
        (case ha => simp (disch := first | omega | (simp; done) | fail) [wrap64c, if_pos, if_neg, opAnd, opOr, opXor, opDiff, opShr, opBit, ntv, csv, ntw, csw, hbig, ntsv1, cssv1, gs, c1, eO, eI, z1, z2, z3', z4', e1, e5, e6, e7, e11, e16, hlt, ntsv2, cssv2, gt, d1, ntsv3, cssv3, gu])
        try simp (disch := first | omega | (simp; done) | fail) [wrap64c, if_pos, if_neg, opAnd, opOr, opXor, opDiff, opShr, opBit, ntv, csv, ntw, csw, hbig, ntsv1, cssv1, gs, c1, eO, eI, z1, z2, z3', z4', e1, e5, e6, e7, e11, e16, hlt, ntsv2, cssv2, gt, d1, ntsv3, cssv3, gu]
        exact done_ret rfl (by simp [K2])
      · obtain ⟨n2, ys2, y, eG, eY, ey, gd2, hy⟩ := inB_true d1
        subst eG eY ey
        have n27 := gd2.n7
        have hb2 := bit7 n27
        have y128 : y < 128 := by omega
        have spg2 : spB (n2 : Int) (toN ys2) = true := spB_of gd2
        obtain ⟨wi, hwi⟩ : ∃ q, q = greatN ys2 y := ⟨_, rfl⟩
        obtain ⟨ab, hab⟩ : ∃ q, q = aboveF y (bit n2 - 1) ys2 := ⟨_, rfl⟩
        have eGr : greatR (n2 : Int) (toN ys2) (y : Int) = (wi : Int) := by simp [greatR, d1, hwi]
        have eAb : aboveR (n2 : Int) (toN ys2) (y : Int) = (ab : Int) := by simp [aboveR, d1, hab]
        have wim : wi ∈ ys2 := hwi ▸ great_mem gd2 y
        have abm : ab ∈ ys2 := hab ▸ above_mem gd2 hy
        have wil := gd2.l128 _ wim
        have abl := gd2.l128 _ abm
        have one1 : ∀ q ∈ ys2, oneB (n2 : Int) (toN ys2) (q : Int) = true := fun q hq => by simp [oneB, spg2, hq, mem_toN]
        have q1 := implHas_ok g2 _ (n2 : Int) (toN ys2) (wi : Int) hD lY'
        rw [one1 wi wim, oneB_in (one1 wi wim)] at q1
        have q2 := implHas_ok g2 _ (n2 : Int) (toN ys2) (ab : Int) hD lY'
        rw [one1 ab abm, oneB_in (one1 ab abm)] at q2
        have z1 : ndiff wi y = 0 := hwi ▸ great_sub ys2 y
        have z2 : ndiff y ab = 0 := by rw [hab]; exact (above_least gd2 hy).abv
        obtain ⟨hs, hhs⟩ : ∃ b : Bool, b = oneB (n2 : Int) (toN ys2) (y : Int) := ⟨_, rfl⟩
        have hs1 : hs = decide (y ∈ ys2) := by rw [hhs]; simp [oneB, spg2, mem_toN]
        have z3 : ((wi : Int) == (y : Int)) = hs := by rw [hs1, Bool.eq_iff_iff, decide_eq_true_iff, great_iff gd2 y, ← hwi]; simp
        have z4 : ((ab : Int) == (y : Int)) = hs := by rw [hs1, Bool.eq_iff_iff, decide_eq_true_iff, above_iff gd2 hy, ← hab]; simp
        have hhs' : oneB (n2 : Int) (toN ys2) (y : Int) = hs := hhs.symm
        have hgt2 := toN_get ys2
        have hln2 := toN_length ys2
        have lY2 : Ints g2 sv2 (toN ys2) := by have := hD; obtain ⟨_, z, zz⟩ := this; cases z; exact zz
        have lyl := lY2.lenD
        try simp (disch := first | omega | (simp; done) | fail) [wrap64c, if_pos, if_neg, opAnd, opOr, opXor, opDiff, opShr, opBit, ntv, csv, ntw, csw, hbig, ntsv1, cssv1, gs, c1, eO, eI, z1, z2, z3', z4', e1, e5, e6, e7, e11, e16, hlt, ntsv2, cssv2, gt, d1, eGr, eAb, z3, z4, hhs', hgt2, lyl]
        refine callG_c (by simp) (by simp) ?ha (q1) ?_
        (case ha => simp (disch := first | omega | (simp; done) | fail) [wrap64c, if_pos, if_neg, opAnd, opOr, opXor, opDiff, opShr, opBit, ntv, csv, ntw, csw, hbig, ntsv1, cssv1, gs, c1, eO, eI, z1, z2, z3', z4', e1, e5, e6, e7, e11, e16, hlt, ntsv2, cssv2, gt, d1, eGr, eAb, z3, z4, hhs', hgt2, lyl])
        try simp (disch := first | omega | (simp; done) | fail) [wrap64c, if_pos, if_neg, opAnd, opOr, opXor, opDiff, opShr, opBit, ntv, csv, ntw, csw, hbig, ntsv1, cssv1, gs, c1, eO, eI, z1, z2, z3', z4', e1, e5, e6, e7, e11, e16, hlt, ntsv2, cssv2, gt, d1, eGr, eAb, z3, z4, hhs', hgt2, lyl]
        refine callG_c (by simp) (by simp) ?ha (q2) ?_
        (case ha => simp (disch := first | omega | (simp; done) | fail) [wrap64c, if_pos, if_neg, opAnd, opOr, opXor, opDiff, opShr, opBit, ntv, csv, ntw, csw, hbig, ntsv1, cssv1, gs, c1, eO, eI, z1, z2, z3', z4', e1, e5, e6, e7, e11, e16, hlt, ntsv2, cssv2, gt, d1, eGr, eAb, z3, z4, hhs', hgt2, lyl])
        try simp (disch := first | omega | (simp; done) | fail) [wrap64c, if_pos, if_neg, opAnd, opOr, opXor, opDiff, opShr, opBit, ntv, csv, ntw, csw, hbig, ntsv1, cssv1, gs, c1, eO, eI, z1, z2, z3', z4', e1, e5, e6, e7, e11, e16, hlt, ntsv2, cssv2, gt, d1, eGr, eAb, z3, z4, hhs', hgt2, lyl]
        refine WD_loopC [1, 24, 25, 29, 344, 345] (fun m tm h' => ∃ j, m = ys2.length - j ∧ g2 = h' ∧ tm 346 = .int .i64 (j : Int) ∧ (j ≤ ys2.length)) _ ⟨0, rfl, rfl, (by simp (disch := first | omega | (simp; done) | fail) [wrap64c, if_pos, if_neg, opAnd, opOr, opXor, opDiff, opShr, opBit, ntv, csv, ntw, csw, hbig, ntsv1, cssv1, gs, c1, eO, eI, z1, z2, z3', z4', e1, e5, e6, e7, e11, e16, hlt, ntsv2, cssv2, gt, d1, eGr, eAb, z3, z4, hhs', hgt2, lyl]), (by first | omega | assumption | (simp (disch := first | omega | (simp; done) | fail) [wrap64c, if_pos, if_neg, opAnd, opOr, opXor, opDiff, opShr, opBit, ntv, csv, ntw, csw, hbig, ntsv1, cssv1, gs, c1, eO, eI, z1, z2, z3', z4', e1, e5, e6, e7, e11, e16, hlt, ntsv2, cssv2, gt, d1, eGr, eAb, z3, z4, hhs', hgt2, lyl] <;> omega))⟩ ?_
        rintro m tm h' hFr ⟨j, rfl, rfl, e346, hj⟩
        simp only [FrameL] at hFr
        obtain ⟨f1_2, f24_2, f25_2, f29_2, f344_2, f345_2, -⟩ := hFr
        try simp (disch := first | omega | (simp; done) | fail) [wrap64c, if_pos, if_neg, opAnd, opOr, opXor, opDiff, opShr, opBit, ntv, csv, ntw, csw, hbig, ntsv1, cssv1, gs, c1, eO, eI, z1, z2, z3', z4', e1, e5, e6, e7, e11, e16, hlt, ntsv2, cssv2, gt, d1, eGr, eAb, z3, z4, hhs', hgt2, lyl] at f1_2 f24_2 f25_2 f29_2 f344_2 f345_2
        have e1 := f1_2
        have e24 := f24_2
        have e25 := f25_2
        have e29 := f29_2
        have e344 := f344_2
        have e345 := f345_2
        by_cases hlt : j < ys2.length
        · have hxj := gd2.l128 _ (List.getElem_mem hlt)
          have t1 : ndiff ys2[j] y = 0 → ndiff ys2[j] wi = 0 := fun h => hwi ▸ great_top (List.getElem_mem hlt) h
          have t2 : ndiff y ys2[j] = 0 → pcN ab ≤ pcN ys2[j] := fun h => hab ▸ above_low gd2 hy (List.getElem_mem hlt) h
          obtain ⟨o_x, i_x, c_x, cs_x, own_x, ex_x, es_x, q_x, b_x, g_x, l_x, r_x⟩ := lY2.open ((by simp; omega))
          have z_x : ∀ h2 : i_x < cs_x.length, cs_x[i_x] = _ := fun h2 => r_x 0 ((by simp; omega)) h2
          have pj1 := jCount_ok g2 ys2[j] hxj
          have pj2 := jCount_ok g2 ab abl
          have q0 : ((ndiff ys2[j] y : Nat) : Int) == 0 → True := fun _ => trivial
          by_cases k1 : ndiff ys2[j] y = 0
          · have k2 := t1 k1
            by_cases k3 : ndiff y ys2[j] = 0
            · have k4 := t2 k3
              have k4' : ¬ ((pcN ys2[j] : Nat) : Int) < ((pcN ab : Nat) : Int) := by omega
              try simp (disch := first | omega | (simp; done) | fail) [wrap64c, if_pos, if_neg, opAnd, opOr, opXor, opDiff, opShr, opBit, ntv, csv, ntw, csw, hbig, ntsv1, cssv1, gs, c1, eO, eI, z1, z2, z3', z4', e1, e5, e6, e7, e11, e16, hlt, ntsv2, cssv2, gt, d1, eGr, eAb, z3, z4, hhs', hgt2, lyl, e24, e25, e29, e344, e345, e346, q_x, g_x, l_x, r_x, z_x, k1, k2, k3, k4']
              refine callG_c (by simp) (by simp) ?ha (pj1) ?_
              (case ha => simp (disch := first | omega | (simp; done) | fail) [wrap64c, if_pos, if_neg, opAnd, opOr, opXor, opDiff, opShr, opBit, ntv, csv, ntw, csw, hbig, ntsv1, cssv1, gs, c1, eO, eI, z1, z2, z3', z4', e1, e5, e6, e7, e11, e16, hlt, ntsv2, cssv2, gt, d1, eGr, eAb, z3, z4, hhs', hgt2, lyl, e24, e25, e29, e344, e345, e346, q_x, g_x, l_x, r_x, z_x, k1, k2, k3, k4'])
              try simp (disch := first | omega | (simp; done) | fail) [wrap64c, if_pos, if_neg, opAnd, opOr, opXor, opDiff, opShr, opBit, ntv, csv, ntw, csw, hbig, ntsv1, cssv1, gs, c1, eO, eI, z1, z2, z3', z4', e1, e5, e6, e7, e11, e16, hlt, ntsv2, cssv2, gt, d1, eGr, eAb, z3, z4, hhs', hgt2, lyl, e24, e25, e29, e344, e345, e346, q_x, g_x, l_x, r_x, z_x, k1, k2, k3, k4']
              refine callG_c (by simp) (by simp) ?ha (pj2) ?_
              (case ha => simp (disch := first | omega | (simp; done) | fail) [wrap64c, if_pos, if_neg, opAnd, opOr, opXor, opDiff, opShr, opBit, ntv, csv, ntw, csw, hbig, ntsv1, cssv1, gs, c1, eO, eI, z1, z2, z3', z4', e1, e5, e6, e7, e11, e16, hlt, ntsv2, cssv2, gt, d1, eGr, eAb, z3, z4, hhs', hgt2, lyl, e24, e25, e29, e344, e345, e346, q_x, g_x, l_x, r_x, z_x, k1, k2, k3, k4'])
              try simp (disch := first | omega | (simp; done) | fail) [wrap64c, if_pos, if_neg, opAnd, opOr, opXor, opDiff, opShr, opBit, ntv, csv, ntw, csw, hbig, ntsv1, cssv1, gs, c1, eO, eI, z1, z2, z3', z4', e1, e5, e6, e7, e11, e16, hlt, ntsv2, cssv2, gt, d1, eGr, eAb, z3, z4, hhs', hgt2, lyl, e24, e25, e29, e344, e345, e346, q_x, g_x, l_x, r_x, z_x, k1, k2, k3, k4']
              refine loopK_next _ ?hm ?hf ⟨j + 1, rfl, rfl, (by simp (disch := first | omega | (simp; done) | fail) [wrap64c, if_pos, if_neg, opAnd, opOr, opXor, opDiff, opShr, opBit, ntv, csv, ntw, csw, hbig, ntsv1, cssv1, gs, c1, eO, eI, z1, z2, z3', z4', e1, e5, e6, e7, e11, e16, hlt, ntsv2, cssv2, gt, d1, eGr, eAb, z3, z4, hhs', hgt2, lyl, e24, e25, e29, e344, e345, e346, q_x, g_x, l_x, r_x, z_x, k1, k2, k3, k4'] <;> omega), (by first | omega | assumption | (simp (disch := first | omega | (simp; done) | fail) [wrap64c, if_pos, if_neg, opAnd, opOr, opXor, opDiff, opShr, opBit, ntv, csv, ntw, csw, hbig, ntsv1, cssv1, gs, c1, eO, eI, z1, z2, z3', z4', e1, e5, e6, e7, e11, e16, hlt, ntsv2, cssv2, gt, d1, eGr, eAb, z3, z4, hhs', hgt2, lyl, e24, e25, e29, e344, e345, e346, q_x, g_x, l_x, r_x, z_x, k1, k2, k3, k4'] <;> omega))⟩
              (case hm => first | omega | (simp; omega))
              (case hf => simp [FrameL, ntv, csv, ntw, csw, hbig, ntsv1, cssv1, gs, c1, eO, eI, z1, z2, z3', z4', e1, e5, e6, e7, e11, e16, hlt, ntsv2, cssv2, gt, d1, eGr, eAb, z3, z4, hhs', hgt2, lyl, e24, e25, e29, e344, e345, e346, q_x, g_x, l_x, r_x, z_x, k1, k2, k3, k4', f1_2, f24_2, f25_2, f29_2, f344_2, f345_2])
            · try simp (disch := first | omega | (simp; done) | fail) [wrap64c, if_pos, if_neg, opAnd, opOr, opXor, opDiff, opShr, opBit, ntv, csv, ntw, csw, hbig, ntsv1, cssv1, gs, c1, eO, eI, z1, z2, z3', z4', e1, e5, e6, e7, e11, e16, hlt, ntsv2, cssv2, gt, d1, eGr, eAb, z3, z4, hhs', hgt2, lyl, e24, e25, e29, e344, e345, e346, q_x, g_x, l_x, r_x, z_x, k1, k2, k3]
              refine loopK_next _ ?hm ?hf ⟨j + 1, rfl, rfl, (by simp (disch := first | omega | (simp; done) | fail) [wrap64c, if_pos, if_neg, opAnd, opOr, opXor, opDiff, opShr, opBit, ntv, csv, ntw, csw, hbig, ntsv1, cssv1, gs, c1, eO, eI, z1, z2, z3', z4', e1, e5, e6, e7, e11, e16, hlt, ntsv2, cssv2, gt, d1, eGr, eAb, z3, z4, hhs', hgt2, lyl, e24, e25, e29, e344, e345, e346, q_x, g_x, l_x, r_x, z_x, k1, k2, k3] <;> omega), (by first | omega | assumption | (simp (disch := first | omega | (simp; done) | fail) [wrap64c, if_pos, if_neg, opAnd, opOr, opXor, opDiff, opShr, opBit, ntv, csv, ntw, csw, hbig, ntsv1, cssv1, gs, c1, eO, eI, z1, z2, z3', z4', e1, e5, e6, e7, e11, e16, hlt, ntsv2, cssv2, gt, d1, eGr, eAb, z3, z4, hhs', hgt2, lyl, e24, e25, e29, e344, e345, e346, q_x, g_x, l_x, r_x, z_x, k1, k2, k3] <;> omega))⟩
              (case hm => first | omega | (simp; omega))
              (case hf => simp [FrameL, ntv, csv, ntw, csw, hbig, ntsv1, cssv1, gs, c1, eO, eI, z1, z2, z3', z4', e1, e5, e6, e7, e11, e16, hlt, ntsv2, cssv2, gt, d1, eGr, eAb, z3, z4, hhs', hgt2, lyl, e24, e25, e29, e344, e345, e346, q_x, g_x, l_x, r_x, z_x, k1, k2, k3, f1_2, f24_2, f25_2, f29_2, f344_2, f345_2])
          · by_cases k3 : ndiff y ys2[j] = 0
            · have k4 := t2 k3
              have k4' : ¬ ((pcN ys2[j] : Nat) : Int) < ((pcN ab : Nat) : Int) := by omega
              try simp (disch := first | omega | (simp; done) | fail) [wrap64c, if_pos, if_neg, opAnd, opOr, opXor, opDiff, opShr, opBit, ntv, csv, ntw, csw, hbig, ntsv1, cssv1, gs, c1, eO, eI, z1, z2, z3', z4', e1, e5, e6, e7, e11, e16, hlt, ntsv2, cssv2, gt, d1, eGr, eAb, z3, z4, hhs', hgt2, lyl, e24, e25, e29, e344, e345, e346, q_x, g_x, l_x, r_x, z_x, k1, k3, k4']
              refine callG_c (by simp) (by simp) ?ha (pj1) ?_
              (case ha => simp (disch := first | omega | (simp; done) | fail) [wrap64c, if_pos, if_neg, opAnd, opOr, opXor, opDiff, opShr, opBit, ntv, csv, ntw, csw, hbig, ntsv1, cssv1, gs, c1, eO, eI, z1, z2, z3', z4', e1, e5, e6, e7, e11, e16, hlt, ntsv2, cssv2, gt, d1, eGr, eAb, z3, z4, hhs', hgt2, lyl, e24, e25, e29, e344, e345, e346, q_x, g_x, l_x, r_x, z_x, k1, k3, k4'])
              try simp (disch := first | omega | (simp; done) | fail) [wrap64c, if_pos, if_neg, opAnd, opOr, opXor, opDiff, opShr, opBit, ntv, csv, ntw, csw, hbig, ntsv1, cssv1, gs, c1, eO, eI, z1, z2, z3', z4', e1, e5, e6, e7, e11, e16, hlt, ntsv2, cssv2, gt, d1, eGr, eAb, z3, z4, hhs', hgt2, lyl, e24, e25, e29, e344, e345, e346, q_x, g_x, l_x, r_x, z_x, k1, k3, k4']
              refine callG_c (by simp) (by simp) ?ha (pj2) ?_
              (case ha => simp (disch := first | omega | (simp; done) | fail) [wrap64c, if_pos, if_neg, opAnd, opOr, opXor, opDiff, opShr, opBit, ntv, csv, ntw, csw, hbig, ntsv1, cssv1, gs, c1, eO, eI, z1, z2, z3', z4', e1, e5, e6, e7, e11, e16, hlt, ntsv2, cssv2, gt, d1, eGr, eAb, z3, z4, hhs', hgt2, lyl, e24, e25, e29, e344, e345, e346, q_x, g_x, l_x, r_x, z_x, k1, k3, k4'])
              try simp (disch := first | omega | (simp; done) | fail) [wrap64c, if_pos, if_neg, opAnd, opOr, opXor, opDiff, opShr, opBit, ntv, csv, ntw, csw, hbig, ntsv1, cssv1, gs, c1, eO, eI, z1, z2, z3', z4', e1, e5, e6, e7, e11, e16, hlt, ntsv2, cssv2, gt, d1, eGr, eAb, z3, z4, hhs', hgt2, lyl, e24, e25, e29, e344, e345, e346, q_x, g_x, l_x, r_x, z_x, k1, k3, k4']
              refine loopK_next _ ?hm ?hf ⟨j + 1, rfl, rfl, (by simp (disch := first | omega | (simp; done) | fail) [wrap64c, if_pos, if_neg, opAnd, opOr, opXor, opDiff, opShr, opBit, ntv, csv, ntw, csw, hbig, ntsv1, cssv1, gs, c1, eO, eI, z1, z2, z3', z4', e1, e5, e6, e7, e11, e16, hlt, ntsv2, cssv2, gt, d1, eGr, eAb, z3, z4, hhs', hgt2, lyl, e24, e25, e29, e344, e345, e346, q_x, g_x, l_x, r_x, z_x, k1, k3, k4'] <;> omega), (by first | omega | assumption | (simp (disch := first | omega | (simp; done) | fail) [wrap64c, if_pos, if_neg, opAnd, opOr, opXor, opDiff, opShr, opBit, ntv, csv, ntw, csw, hbig, ntsv1, cssv1, gs, c1, eO, eI, z1, z2, z3', z4', e1, e5, e6, e7, e11, e16, hlt, ntsv2, cssv2, gt, d1, eGr, eAb, z3, z4, hhs', hgt2, lyl, e24, e25, e29, e344, e345, e346, q_x, g_x, l_x, r_x, z_x, k1, k3, k4'] <;> omega))⟩
              (case hm => first | omega | (simp; omega))
              (case hf => simp [FrameL, ntv, csv, ntw, csw, hbig, ntsv1, cssv1, gs, c1, eO, eI, z1, z2, z3', z4', e1, e5, e6, e7, e11, e16, hlt, ntsv2, cssv2, gt, d1, eGr, eAb, z3, z4, hhs', hgt2, lyl, e24, e25, e29, e344, e345, e346, q_x, g_x, l_x, r_x, z_x, k1, k3, k4', f1_2, f24_2, f25_2, f29_2, f344_2, f345_2])
            · try simp (disch := first | omega | (simp; done) | fail) [wrap64c, if_pos, if_neg, opAnd, opOr, opXor, opDiff, opShr, opBit, ntv, csv, ntw, csw, hbig, ntsv1, cssv1, gs, c1, eO, eI, z1, z2, z3', z4', e1, e5, e6, e7, e11, e16, hlt, ntsv2, cssv2, gt, d1, eGr, eAb, z3, z4, hhs', hgt2, lyl, e24, e25, e29, e344, e345, e346, q_x, g_x, l_x, r_x, z_x, k1, k3]
              refine loopK_next _ ?hm ?hf ⟨j + 1, rfl, rfl, (by simp (disch := first | omega | (simp; done) | fail) [wrap64c, if_pos, if_neg, opAnd, opOr, opXor, opDiff, opShr, opBit, ntv, csv, ntw, csw, hbig, ntsv1, cssv1, gs, c1, eO, eI, z1, z2, z3', z4', e1, e5, e6, e7, e11, e16, hlt, ntsv2, cssv2, gt, d1, eGr, eAb, z3, z4, hhs', hgt2, lyl, e24, e25, e29, e344, e345, e346, q_x, g_x, l_x, r_x, z_x, k1, k3] <;> omega), (by first | omega | assumption | (simp (disch := first | omega | (simp; done) | fail) [wrap64c, if_pos, if_neg, opAnd, opOr, opXor, opDiff, opShr, opBit, ntv, csv, ntw, csw, hbig, ntsv1, cssv1, gs, c1, eO, eI, z1, z2, z3', z4', e1, e5, e6, e7, e11, e16, hlt, ntsv2, cssv2, gt, d1, eGr, eAb, z3, z4, hhs', hgt2, lyl, e24, e25, e29, e344, e345, e346, q_x, g_x, l_x, r_x, z_x, k1, k3] <;> omega))⟩
              (case hm => first | omega | (simp; omega))
              (case hf => simp [FrameL, ntv, csv, ntw, csw, hbig, ntsv1, cssv1, gs, c1, eO, eI, z1, z2, z3', z4', e1, e5, e6, e7, e11, e16, hlt, ntsv2, cssv2, gt, d1, eGr, eAb, z3, z4, hhs', hgt2, lyl, e24, e25, e29, e344, e345, e346, q_x, g_x, l_x, r_x, z_x, k1, k3, f1_2, f24_2, f25_2, f29_2, f344_2, f345_2])
        · try simp (disch := first | omega | (simp; done) | fail) [wrap64c, if_pos, if_neg, opAnd, opOr, opXor, opDiff, opShr, opBit, ntv, csv, ntw, csw, hbig, ntsv1, cssv1, gs, c1, eO, eI, z1, z2, z3', z4', e1, e5, e6, e7, e11, e16, hlt, ntsv2, cssv2, gt, d1, eGr, eAb, z3, z4, hhs', hgt2, lyl, e24, e25, e29, e344, e345, e346]
          obtain ⟨f0, hf0⟩ : ∃ x, x = g2 := ⟨_, rfl⟩
          have K0 := K2
          rw [← hf0] at K0
          have hv := hv
          have hw := hw
          rw [← hf0] at hv
          rw [← hf0] at hw
          try rw [← hf0]
          obtain ⟨_, f1, p1, a1, s3, J, Z, u, z, rfl, hE, lZ⟩ := drawFr_ok f0 w ys (bytes_old hw)
          refine callG_c (by simp) (by simp) ?ha (p1) ?_
          (case ha => simp (disch := first | omega | (simp; done) | fail) [wrap64c, if_pos, if_neg, opAnd, opOr, opXor, opDiff, opShr, opBit, ntv, csv, ntw, csw, hbig, ntsv1, cssv1, gs, c1, eO, eI, z1, z2, z3', z4', e1, e5, e6, e7, e11, e16, hlt, ntsv2, cssv2, gt, d1, eGr, eAb, z3, z4, hhs', hgt2, lyl, e24, e25, e29, e344, e345, e346])
          have n1 := a1.1.1
          have K1 := K0.trans a1.1
          have hv := hv.keep a1.1
          have hw := hw.keep a1.1
          obtain ⟨sv3, rfl, hsv3⟩ := hE
          have hsv3 := hsv3.ints
          have ntsv3 := hsv3.nt
          have cssv3 := hsv3.cs
          have hE : Space f1 (.agg #[.int .i64 J, sv3]) J Z := .mk hsv3
          try simp (disch := first | omega | (simp; done) | fail) [wrap64c, if_pos, if_neg, opAnd, opOr, opXor, opDiff, opShr, opBit, ntv, csv, ntw, csw, hbig, ntsv1, cssv1, gs, c1, eO, eI, z1, z2, z3', z4', e1, e5, e6, e7, e11, e16, hlt, ntsv2, cssv2, gt, d1, eGr, eAb, z3, z4, hhs', hgt2, lyl, e24, e25, e29, e344, e345, e346, ntsv3, cssv3, putCells]
          first | refine WY_heap fun f2 q_f2 => ?_ | refine callG_heap fun f2 q_f2 => ?_ | refine callP_heap fun f2 q_f2 => ?_ | refine callS_heap fun f2 q_f2 => ?_ | refine RY_heap fun f2 q_f2 => ?_ | refine PY_heap fun f2 q_f2 => ?_ | refine SY_heap fun f2 q_f2 => ?_ | refine doneY_heap fun f2 q_f2 => ?_ | refine loopK_heap fun f2 q_f2 => ?_ | refine thenY_heap fun f2 q_f2 => ?_ | refine thenM_heap fun f2 q_f2 => ?_
          have b2 : Adds f1 f2 := by rw [q_f2]; exact (by first | exact aK | exact kK)
          have n2 := b2.1.1
          have K2 := K1.trans b2.1
          have hv := hv.keep b2.1
          have hw := hw.keep b2.1
          have hE := hE.keep b2.1
          have m2 : f2.next = f1.next + 1 := by simp [q_f2]
          have gu : f2.get f1.next = .cells [.int .i64 J, sv3] true true 1 := by simp [q_f2]
          have lZ' : Z.length < 2 ^ 40 := by omega
          refine callG_c (by simp) (by simp) ?ha (implFr_ok f2 _ J Z u z hE lZ') ?_
          (case ha => simp (disch := first | omega | (simp; done) | fail) [wrap64c, if_pos, if_neg, opAnd, opOr, opXor, opDiff, opShr, opBit, ntv, csv, ntw, csw, hbig, ntsv1, cssv1, gs, c1, eO, eI, z1, z2, z3', z4', e1, e5, e6, e7, e11, e16, hlt, ntsv2, cssv2, gt, d1, eGr, eAb, z3, z4, hhs', hgt2, lyl, e24, e25, e29, e344, e345, e346, ntsv3, cssv3, gu])
          try simp (disch := first | omega | (simp; done) | fail) [wrap64c, if_pos, if_neg, opAnd, opOr, opXor, opDiff, opShr, opBit, ntv, csv, ntw, csw, hbig, ntsv1, cssv1, gs, c1, eO, eI, z1, z2, z3', z4', e1, e5, e6, e7, e11, e16, hlt, ntsv2, cssv2, gt, d1, eGr, eAb, z3, z4, hhs', hgt2, lyl, e24, e25, e29, e344, e345, e346, ntsv3, cssv3, gu]
          refine callG_c (by simp) (by simp) ?ha (specFr_ok f2 _ J Z u z hE lZ') ?_
          (case ha => simp (disch := first | omega | (simp; done) | fail) [wrap64c, if_pos, if_neg, opAnd, opOr, opXor, opDiff, opShr, opBit, ntv, csv, ntw, csw, hbig, ntsv1, cssv1, gs, c1, eO, eI, z1, z2, z3', z4', e1, e5, e6, e7, e11, e16, hlt, ntsv2, cssv2, gt, d1, eGr, eAb, z3, z4, hhs', hgt2, lyl, e24, e25, e29, e344, e345, e346, ntsv3, cssv3, gu])
          try simp (disch := first | omega | (simp; done) | fail) [wrap64c, if_pos, if_neg, opAnd, opOr, opXor, opDiff, opShr, opBit, ntv, csv, ntw, csw, hbig, ntsv1, cssv1, gs, c1, eO, eI, z1, z2, z3', z4', e1, e5, e6, e7, e11, e16, hlt, ntsv2, cssv2, gt, d1, eGr, eAb, z3, z4, hhs', hgt2, lyl, e24, e25, e29, e344, e345, e346, ntsv3, cssv3, gu]
          exact done_ret rfl (by simp [K2])
end Go.Proofs.Ytnncipcldbopgaa
namespace Go.Proofs.Ytnncipcldbopgaa
set_option linter.unusedSimpArgs false
set_option linter.unusedVariables false
open Go Go.Eng Go.ChangeShapes Go.WideShapes Go.ChangeAt Go.RowKit Go.Joins
set_option maxRecDepth 100000 in
theorem fringesOfSets_lifted (os : Os) (started : os.Started) (H : Type) (enc : TypeId × Value → H) :
    ReturnsInHanded {} Try.checked os 3 .any (Rows.fnFringesOfSetsSpec.pre6 enc Try.prog Try.f3 Rows.fnFringesOfSetsRow.domain false) (Rows.fnFringesOfSetsSpec.post enc Try.prog Try.f3 false true false false) := by
  refine returnsInHanded_of_change (C := Try.checked) own started (by kernel_rfl) Try.func3
    (ChangeSpec.witness6 (enc := enc) (C := Try.checked) false ⟨#[], #[.slice none 0 0, .slice none 0 0], []⟩ 8 (by kernel_rfl) (by kernel_rfl) (by kernel_rfl) (by kernel_rfl)) ?_
  intro W base args ds gs before hval0 hW hcnd _
  have hval : ∀ (j : Nat) t v, Try.f3.params[j]? = some t → args[j]? = some v → Value.okWide Try.prog W .any base t v := hval0
  have hW' := hW
  obtain ⟨p, q, hA0, hV, rfl, hfz, hnd⟩ := hW
  have hA : DataW.TrodAll enc Try.prog W 0 (fun _ => true) true Try.f3.params.toList args.toList ds p := hA0
  rw [Try.params3] at hA hval
  obtain ⟨v0, v1, d0, d1, p0, p1, rfl, rfl, rfl, h0, h1⟩ := trodAll_two hA
  obtain ⟨rfl, rfl⟩ := trodVars_none hV
  simp only [List.append_nil] at hW'
  have lt0 : ∀ x ∈ p0, x.block < W.heap.size := by obtain ⟨m, hm⟩ := h0; exact DataW.trod_lt m _ _ _ hm
  have lt1 : ∀ x ∈ p1, x.block < W.heap.size := by obtain ⟨m, hm⟩ := h1; exact DataW.trod_lt m _ _ _ hm
  obtain ⟨E0, hh0, a0, X0, st0, m0, hva0, hc0⟩ := lay_bytes (hval 0 22 v0 rfl rfl) h0 (start0 W)
  obtain ⟨E1, hh1, a1, X1, st1, m1, hva1, hc1⟩ := lay_bytes (hval 1 22 v1 rfl rfl) h1 st0
  replace hva0 := m1.vrel _ _ hva0
  replace hc0 := hc0.keep m1.keep
  refine (law_calls (args := #[a0, a1]) (args' := #[v0, v1]) st1 rfl (fun i hi => ?_) (lawFringesOfSets_ok hh1 a0 X0 hc0 a1 X1 hc1) rfl).mono fun e W' ⟨he, bel⟩ => ?_
  · have : i = 0 ∨ i = 1 := by simp at hi; omega
    rcases this with rfl | rfl
    · exact hva0
    · exact hva1
  · subst he
    exact ⟨_, rfl, _, _, _, [], _, [], hW', trodAll_mk1 (shut_bool Try.underlying4 _), trodAll_mk2 (Below.trod laidOut (by kernel_rfl) (of_decide_eq_true (by kernel_rfl)) h0 bel lt0) (Below.trod laidOut (by kernel_rfl) (of_decide_eq_true (by kernel_rfl)) h1 bel lt1), rfl, bel.frame _, fun h => by cases h⟩
theorem fringesOfSets_holds : Rows.FnFringesOfSetsSaid :=
  OpenClaim.holds_of_wide 3 Try.f3 rfl rfl rfl rfl rfl rfl rfl ⟨rfl, rfl, rfl, rfl, rfl⟩ rfl rfl rfl rfl rfl (by kernel_rfl) Try.func3 (by kernel_rfl)
    (of_decide_eq_true (by kernel_rfl)) (by unfold Func.isWrapper; first | (rw [if_pos (by decide +kernel)]; kernel_rfl) | (rw [if_neg (by decide +kernel)]; exact ⟨rfl, rfl⟩))
    (fun os started H enc _ => fringesOfSets_lifted os started H enc)
end Go.Proofs.Ytnncipcldbopgaa
