/- Families; what a space is, by the reference and by the program. -/
import Derived.Test.YtnjabaeajjhliaaS3
namespace Go.Proofs.Ytnjabaeajjhliaa
set_option linter.unusedSimpArgs false
set_option linter.unusedVariables false
set_option maxHeartbeats 4000000
open Go Go.Eng
attribute [local irreducible] WD RunD PreD Runs CallOK

/-- The cells of a family. -/
def famC (M : Nat → Bool) : List Value := (List.range 128).map fun i => .bool (M i)
@[simp] theorem famC_length (M : Nat → Bool) : (famC M).length = 128 := by simp [famC]
theorem famC_at (M : Nat → Bool) (i : Nat) (h : i < (famC M).length) : (famC M)[i] = .bool (M i) := by simp [famC]
theorem famC_getD (M : Nat → Bool) (i : Nat) (h : i < 128) : (famC M)[i]?.getD undef = .bool (M i) := by
  rw [List.getElem?_eq_getElem (by simpa using h), famC_at]; rfl
theorem famC_zero : zlist 128 (Value.bool false) = famC (fam []) := by
  apply List.ext_getElem (by simp)
  intro i h1 h2
  rw [famC_at]
  have e : (zlist 128 (Value.bool false))[i] = .bool false := List.getElem_replicate _
  exact e.trans (by simp [fam])
theorem famC_ext {M N : Nat → Bool} (h : ∀ i, i < 128 → M i = N i) : famC M = famC N := by
  apply List.ext_getElem (by simp)
  intro i h1 h2
  rw [famC_at, famC_at, h i (by simpa using h1)]
theorem famC_set (xs : List Nat) (a : Nat) (ha : a < 128) : (famC (fam xs)).set a (.bool true) = famC (fam (xs ++ [a])) := by
  apply List.ext_getElem (by simp)
  intro i h1 h2
  rw [List.getElem_set, famC_at]
  by_cases e : a = i
  · subst e; rw [famC_at]; simp [fam]
  · rw [if_neg e, famC_at]; simp [fam, Ne.symm e]

theorem family_ok (h : Hp) (v : Value) (N : Int) (xs : List Nat) (hv : Space h v N (toN xs)) (hx : ∀ x ∈ xs, x < 128) (hl : xs.length < 2 ^ 40) :
    ∃ v' h', CallOK Try.prog 123 #[v] h v' h' ∧ ∃ o, v' = .pointer (some ⟨o, 0, none⟩) ∧ Adds h h' ∧ h.next ≤ o ∧ o < h'.next ∧ h'.get o = .cells (famC (fam xs)) true true 1 := by
  refine callY_L (args := [v]) 21 _ [.tmp 2] Try.func123 rfl rfl rfl ?_
  obtain ⟨b, rfl, hX⟩ := hv
  have hL := hX.lenD
  have hgt := toN_get xs
  have hln := toN_length xs
  try simp (disch := first | omega | (simp; done) | fail) [wrap64c, if_pos, if_neg, opAnd, opOr, opXor, opDiff, opShr, opBit, hL, hgt]
  refine WD_loopC [3, 9, 10] (fun m tm h' => ∃ j, m = xs.length - j ∧ tm 11 = .int .i64 (j : Int) ∧ (j ≤ xs.length) ∧ (Adds h h') ∧ (h'.next = h.next + 2) ∧ (h'.get (h.next + 1) = .cells (famC (fam (xs.take j))) true true 1)) _ ⟨0, rfl, (by simp (disch := first | omega | (simp; done) | fail) [wrap64c, if_pos, if_neg, opAnd, opOr, opXor, opDiff, opShr, opBit, hL, hgt]), (by first | omega | assumption | (simp (disch := first | omega | (simp; done) | fail) [wrap64c, if_pos, if_neg, opAnd, opOr, opXor, opDiff, opShr, opBit, hL, hgt] <;> omega)), (by first | exact aK | exact kK), (by simp), (by simp [← famC_zero])⟩ ?_
  rintro m tm h' hFr ⟨j, rfl, e11, hj, ha, hn, hg⟩
  simp only [FrameL] at hFr
  obtain ⟨f3_0, f9_0, f10_0, -⟩ := hFr
  try simp (disch := first | omega | (simp; done) | fail) [wrap64c, if_pos, if_neg, opAnd, opOr, opXor, opDiff, opShr, opBit, hL, hgt] at f3_0 f9_0 f10_0
  have e3 := f3_0
  have e9 := f9_0
  have e10 := f10_0
  by_cases hlt : j < xs.length
  · obtain ⟨o_x, i_x, c_x, cs_x, own_x, ex_x, es_x, q_x, b_x, g_x, l_x, r_x⟩ := (hX.keep ha.1).open ((by simp; omega))
    have z_x : ∀ h2 : i_x < cs_x.length, cs_x[i_x] = _ := fun h2 => r_x 0 ((by simp; omega)) h2
    have hx1 := hx _ (List.getElem_mem hlt)
    try simp (disch := first | omega | (simp; done) | fail) [wrap64c, if_pos, if_neg, opAnd, opOr, opXor, opDiff, opShr, opBit, hL, hgt, e3, e9, e10, e11, hg, hlt, q_x, g_x, l_x, r_x, z_x]
    refine loopK_next _ ?hm ?hf ⟨j + 1, rfl, (by simp (disch := first | omega | (simp; done) | fail) [wrap64c, if_pos, if_neg, opAnd, opOr, opXor, opDiff, opShr, opBit, hL, hgt, e3, e9, e10, e11, hg, hlt, q_x, g_x, l_x, r_x, z_x] <;> omega), (by first | omega | assumption | (simp (disch := first | omega | (simp; done) | fail) [wrap64c, if_pos, if_neg, opAnd, opOr, opXor, opDiff, opShr, opBit, hL, hgt, e3, e9, e10, e11, hg, hlt, q_x, g_x, l_x, r_x, z_x] <;> omega)), (by first | exact aK | exact kK), (by simpa using hn), (by rw [List.take_succ_eq_append_getElem hlt, ← famC_set _ _ hx1]; simp [putCells_one, hx1])⟩
    (case hm => first | omega | (simp; omega))
    (case hf => simp [FrameL, hL, hgt, e3, e9, e10, e11, hg, hlt, q_x, g_x, l_x, r_x, z_x, f3_0, f9_0, f10_0])
  · try simp (disch := first | omega | (simp; done) | fail) [wrap64c, if_pos, if_neg, opAnd, opOr, opXor, opDiff, opShr, opBit, hL, hgt, e3, e9, e10, e11, hg, hlt]
    refine done_ret rfl ⟨_, rfl, ha, by omega, by omega, ?_⟩
    rw [hg, List.take_of_length_le (by omega)]

theorem all_ok (h : Hp) (v : Value) (n : Nat) (X : List Int) (hv : Space h v n X) (hn : n ≤ 20) : CallOK Try.prog 124 #[v] h (.int .i64 ((bit n - 1 : Nat) : Int)) h := by
  refine callY_P 7 _ [.tmp 2] Try.func124 rfl rfl rfl (by first | rfl | simp) ?_
  obtain ⟨b, rfl, hX⟩ := hv
  have hb := bit20 hn
  try simp (disch := first | omega | (simp; done) | fail) [wrap64c, if_pos, if_neg, opAnd, opOr, opXor, opDiff, opShr, opBit]
  exact done_ret rfl ⟨by simp; omega, by simp⟩

/-- The items of a set below k. -/
def itemsK (a k : Nat) : List Nat := (List.range k).filter fun i => a.testBit i
theorem itemsK_succ (a k : Nat) : itemsK a (k + 1) = if a.testBit k = true then itemsK a k ++ [k] else itemsK a k := by
  unfold itemsK
  rw [List.range_succ, List.filter_append]
  by_cases h : a.testBit k = true <;> simp [h]
theorem itemsK_len (a k : Nat) : (itemsK a k).length ≤ k := by
  unfold itemsK
  have := List.length_filter_le (fun i => a.testBit i) (List.range k)
  simpa using this
theorem items_eq (a : Nat) : itemsN a = itemsK a 7 := rfl
theorem items_len (a : Nat) : (itemsN a).length ≤ 7 := itemsK_len a 7
theorem items_lt {a i : Nat} (h : i ∈ itemsN a) : i < 7 := (mem_items.1 h).1

theorem items_ok (h : Hp) (a : Nat) (ha : a < 9223372036854775808) :
    ∃ v' h', CallOK Try.prog 142 #[.int .i64 (a : Int)] h v' h' ∧ Adds h h' ∧ IntsO (Btw h.next h'.next) h' v' (toN (itemsN a)) ∧ IntsA h.next h' v' (toN (itemsN a)) := by
  refine callY_L (args := [.int .i64 (a : Int)]) 20 _ [.tmp 2] Try.func142 rfl rfl rfl ?_
  try simp (disch := first | omega | (simp; done) | fail) [wrap64c, if_pos, if_neg, opAnd, opOr, opXor, opDiff, opShr, opBit]
  refine WD_loopC [0] (fun m tm h' => ∃ i u, m = 7 - i ∧ tm 3 = u ∧ tm 6 = .int .i64 (i : Int) ∧ (i ≤ 7) ∧ (Adds h h') ∧ (IntsA h.next h' u (toN (itemsK a i)))) _ ⟨0, _, rfl, (by simp (disch := first | omega | (simp; done) | fail) [wrap64c, if_pos, if_neg, opAnd, opOr, opXor, opDiff, opShr, opBit]), (by simp (disch := first | omega | (simp; done) | fail) [wrap64c, if_pos, if_neg, opAnd, opOr, opXor, opDiff, opShr, opBit]), (by first | omega | assumption | (simp (disch := first | omega | (simp; done) | fail) [wrap64c, if_pos, if_neg, opAnd, opOr, opXor, opDiff, opShr, opBit] <;> omega)), (by first | exact aK | exact kK), (.lit (ex := true) (Nat.le_refl _) (by simp) (by simp [itemsK, toN]))⟩ ?_
  rintro m tm h' hFr ⟨i, u, rfl, e3, e6, hi, ha, hu⟩
  simp only [FrameL] at hFr
  obtain ⟨f0_0, -⟩ := hFr
  try simp (disch := first | omega | (simp; done) | fail) [wrap64c, if_pos, if_neg, opAnd, opOr, opXor, opDiff, opShr, opBit] at f0_0
  have e0 := f0_0
  by_cases hlt : i < 7
  · have h1 := nShr_le a i
    have h2 := nShr_and01 a i
    have hs := itemsK_succ a i
    cases hb : a.testBit i
    · have h3 : nAnd (nShr a i) 1 = 0 := by rw [h2, hb]; rfl
      rw [hb] at hs
      try simp (disch := first | omega | (simp; done) | fail) [wrap64c, if_pos, if_neg, opAnd, opOr, opXor, opDiff, opShr, opBit, e0, e3, e6, hlt, h3]
      refine loopK_next _ ?hm ?hf ⟨i + 1, u, rfl, (by simp (disch := first | omega | (simp; done) | fail) [wrap64c, if_pos, if_neg, opAnd, opOr, opXor, opDiff, opShr, opBit, e0, e3, e6, hlt, h3] <;> omega), (by simp (disch := first | omega | (simp; done) | fail) [wrap64c, if_pos, if_neg, opAnd, opOr, opXor, opDiff, opShr, opBit, e0, e3, e6, hlt, h3] <;> omega), (by first | omega | assumption | (simp (disch := first | omega | (simp; done) | fail) [wrap64c, if_pos, if_neg, opAnd, opOr, opXor, opDiff, opShr, opBit, e0, e3, e6, hlt, h3] <;> omega)), (by first | omega | assumption | (simp (disch := first | omega | (simp; done) | fail) [wrap64c, if_pos, if_neg, opAnd, opOr, opXor, opDiff, opShr, opBit, e0, e3, e6, hlt, h3] <;> omega)), (by rw [hs]; exact hu)⟩
      (case hm => first | omega | (simp; omega))
      (case hf => simp [FrameL, e0, e3, e6, hlt, h3, f0_0])
    · have h3 : nAnd (nShr a i) 1 = 1 := by rw [h2, hb]; rfl
      rw [hb] at hs
      try simp (disch := first | omega | (simp; done) | fail) [wrap64c, if_pos, if_neg, opAnd, opOr, opXor, opDiff, opShr, opBit, e0, e3, e6, hlt, h3]
      have hle := itemsK_len a i
      obtain ⟨u2, h2, hap, hu2, ha2, hn2, hs2⟩ := appI hu (i : Int) (by simp; omega) ha.1.1 ha (Nat.le_refl _)
      try simp (disch := first | omega | (simp; done) | fail) [wrap64c, if_pos, if_neg, opAnd, opOr, opXor, opDiff, opShr, opBit, e0, e3, e6, hlt, h3, hap]
      refine loopK_next _ ?hm ?hf ⟨i + 1, u2, rfl, (by simp (disch := first | omega | (simp; done) | fail) [wrap64c, if_pos, if_neg, opAnd, opOr, opXor, opDiff, opShr, opBit, e0, e3, e6, hlt, h3] <;> omega), (by simp (disch := first | omega | (simp; done) | fail) [wrap64c, if_pos, if_neg, opAnd, opOr, opXor, opDiff, opShr, opBit, e0, e3, e6, hlt, h3] <;> omega), (by first | omega | assumption | (simp (disch := first | omega | (simp; done) | fail) [wrap64c, if_pos, if_neg, opAnd, opOr, opXor, opDiff, opShr, opBit, e0, e3, e6, hlt, h3] <;> omega)), (by first | omega | assumption | (simp (disch := first | omega | (simp; done) | fail) [wrap64c, if_pos, if_neg, opAnd, opOr, opXor, opDiff, opShr, opBit, e0, e3, e6, hlt, h3] <;> omega)), (by rw [hs, if_pos rfl, toN_snoc]; exact hu2)⟩
      (case hm => first | omega | (simp; omega))
      (case hf => simp [FrameL, e0, e3, e6, hlt, h3, f0_0])
  · try simp (disch := first | omega | (simp; done) | fail) [wrap64c, if_pos, if_neg, opAnd, opOr, opXor, opDiff, opShr, opBit, e0, e3, e6, hlt]
    have e : i = 7 := by omega
    subst e
    have hle := itemsK_len a 7
    exact done_ret rfl ⟨ha, hu.own (by simp; omega), hu⟩

theorem imInner_ok (h : Hp) (o : Nat) (M : Nat → Bool) (own ex : Bool) (es a : Nat) (ho : o < h.next) (hg : h.get o = .cells (famC M) own ex es) (ha : a < 128) :
    CallOK Try.prog 125 #[.pointer (some ⟨o, 0, none⟩), .int .i64 (a : Int)] h (.int .i64 ((innerN M a : Nat) : Int)) h := by
  refine callY_P 29 _ [.tmp 4] Try.func125 rfl rfl rfl (by first | rfl | simp) ?_
  try simp (disch := first | omega | (simp; done) | fail) [wrap64c, if_pos, if_neg, opAnd, opOr, opXor, opDiff, opShr, opBit]
  obtain ⟨u, h1, hc1, ha1, hi1, _⟩ := items_ok h a (by omega)
  refine callG_c (by simp) (by simp) ?ha (hc1) ?_
  (case ha => simp (disch := first | omega | (simp; done) | fail) [wrap64c, if_pos, if_neg, opAnd, opOr, opXor, opDiff, opShr, opBit])
  have hL := hi1.ints.lenD
  have hgt := toN_get (itemsN a)
  have hln := toN_length (itemsN a)
  have hg1 : h1.get o = .cells (famC M) own ex es := by rw [ha1.1.2 o ho, hg]
  have hf := famC_getD M
  try simp (disch := first | omega | (simp; done) | fail) [wrap64c, if_pos, if_neg, opAnd, opOr, opXor, opDiff, opShr, opBit, hL, hgt, hg1, hf]
  refine WD_loopC [0, 1, 9, 10] (fun m tm h' => ∃ j, m = (itemsN a).length - j ∧ h1 = h' ∧ tm 5 = .int .i64 ((maskL (fun i => M (ndiff a (bit i))) ((itemsN a).take j) 0 : Nat) : Int) ∧ tm 11 = .int .i64 (j : Int) ∧ (j ≤ (itemsN a).length) ∧ (maskL (fun i => M (ndiff a (bit i))) ((itemsN a).take j) 0 < 128)) _ ⟨0, rfl, rfl, (by simp [maskL]), (by simp (disch := first | omega | (simp; done) | fail) [wrap64c, if_pos, if_neg, opAnd, opOr, opXor, opDiff, opShr, opBit, hL, hgt, hg1, hf]), (by first | omega | assumption | (simp (disch := first | omega | (simp; done) | fail) [wrap64c, if_pos, if_neg, opAnd, opOr, opXor, opDiff, opShr, opBit, hL, hgt, hg1, hf] <;> omega)), (by simp [maskL])⟩ ?_
  rintro m tm h' hFr ⟨j, rfl, rfl, e5, e11, hj, hm⟩
  simp only [FrameL] at hFr
  obtain ⟨f0_0, f1_0, f9_0, f10_0, -⟩ := hFr
  try simp (disch := first | omega | (simp; done) | fail) [wrap64c, if_pos, if_neg, opAnd, opOr, opXor, opDiff, opShr, opBit, hL, hgt, hg1, hf] at f0_0 f1_0 f9_0 f10_0
  have e0 := f0_0
  have e1 := f1_0
  have e9 := f9_0
  have e10 := f10_0
  by_cases hlt : j < (itemsN a).length
  · obtain ⟨o_x, i_x, c_x, cs_x, own_x, ex_x, es_x, q_x, b_x, g_x, l_x, r_x⟩ := hi1.ints.open ((by simp; omega))
    have z_x : ∀ h2 : i_x < cs_x.length, cs_x[i_x] = _ := fun h2 => r_x 0 ((by simp; omega)) h2
    have hi7 := items_lt (List.getElem_mem hlt)
    have hl7 := items_len a
    have hb := bit_lt7 hi7
    have hd := ndiff128 (a := a) (b := bit (itemsN a)[j]) ha
    have hq := nOr128 (b := bit (itemsN a)[j]) hm (by omega)
    have hs : maskL (fun i => M (ndiff a (bit i))) ((itemsN a).take (j + 1)) 0 = if M (ndiff a (bit (itemsN a)[j])) = true then nOr (maskL (fun i => M (ndiff a (bit i))) ((itemsN a).take j) 0) (bit (itemsN a)[j]) else maskL (fun i => M (ndiff a (bit i))) ((itemsN a).take j) 0 := by rw [List.take_succ_eq_append_getElem hlt]; exact maskL_snoc _ _ _ _
    try simp (disch := first | omega | (simp; done) | fail) [wrap64c, if_pos, if_neg, opAnd, opOr, opXor, opDiff, opShr, opBit, hL, hgt, hg1, hf, e0, e1, e5, e9, e10, e11, hlt, q_x, g_x, l_x, r_x, z_x]
    refine WD_drawC 6 rfl (by kernel_rfl) ?_
    try simp (disch := first | omega | (simp; done) | fail) [wrap64c, if_pos, if_neg, opAnd, opOr, opXor, opDiff, opShr, opBit, hL, hgt, hg1, hf, e0, e1, e5, e9, e10, e11, hlt, q_x, g_x, l_x, r_x, z_x]
    cases hc : M (ndiff a (bit (itemsN a)[j]))
    · rw [hc] at hs
      try simp (disch := first | omega | (simp; done) | fail) [wrap64c, if_pos, if_neg, opAnd, opOr, opXor, opDiff, opShr, opBit, hL, hgt, hg1, hf, e0, e1, e5, e9, e10, e11, hlt, q_x, g_x, l_x, r_x, z_x, hc]
      refine loopK_next _ ?hm ?hf ⟨j + 1, rfl, rfl, (by simp [hs, e5]), (by simp (disch := first | omega | (simp; done) | fail) [wrap64c, if_pos, if_neg, opAnd, opOr, opXor, opDiff, opShr, opBit, hL, hgt, hg1, hf, e0, e1, e5, e9, e10, e11, hlt, q_x, g_x, l_x, r_x, z_x, hc] <;> omega), (by first | omega | assumption | (simp (disch := first | omega | (simp; done) | fail) [wrap64c, if_pos, if_neg, opAnd, opOr, opXor, opDiff, opShr, opBit, hL, hgt, hg1, hf, e0, e1, e5, e9, e10, e11, hlt, q_x, g_x, l_x, r_x, z_x, hc] <;> omega)), (by simpa [hs] using hm)⟩
      (case hm => first | omega | (simp; omega))
      (case hf => simp [FrameL, hL, hgt, hg1, hf, e0, e1, e5, e9, e10, e11, hlt, q_x, g_x, l_x, r_x, z_x, hc, f0_0, f1_0, f9_0, f10_0])
    · rw [hc] at hs
      try simp (disch := first | omega | (simp; done) | fail) [wrap64c, if_pos, if_neg, opAnd, opOr, opXor, opDiff, opShr, opBit, hL, hgt, hg1, hf, e0, e1, e5, e9, e10, e11, hlt, q_x, g_x, l_x, r_x, z_x, hc]
      refine loopK_next _ ?hm ?hf ⟨j + 1, rfl, rfl, (by simp [hs, e5]), (by simp (disch := first | omega | (simp; done) | fail) [wrap64c, if_pos, if_neg, opAnd, opOr, opXor, opDiff, opShr, opBit, hL, hgt, hg1, hf, e0, e1, e5, e9, e10, e11, hlt, q_x, g_x, l_x, r_x, z_x, hc] <;> omega), (by first | omega | assumption | (simp (disch := first | omega | (simp; done) | fail) [wrap64c, if_pos, if_neg, opAnd, opOr, opXor, opDiff, opShr, opBit, hL, hgt, hg1, hf, e0, e1, e5, e9, e10, e11, hlt, q_x, g_x, l_x, r_x, z_x, hc] <;> omega)), (by simpa [hs] using hq)⟩
      (case hm => first | omega | (simp; omega))
      (case hf => simp [FrameL, hL, hgt, hg1, hf, e0, e1, e5, e9, e10, e11, hlt, q_x, g_x, l_x, r_x, z_x, hc, f0_0, f1_0, f9_0, f10_0])
  · try simp (disch := first | omega | (simp; done) | fail) [wrap64c, if_pos, if_neg, opAnd, opOr, opXor, opDiff, opShr, opBit, hL, hgt, hg1, hf, e0, e1, e5, e9, e10, e11, hlt]
    exact done_ret rfl (by simp [← innerN_items, List.take_of_length_le (show (itemsN a).length ≤ j by omega), ha1.1])

theorem imOuter_ok (h : Hp) (o : Nat) (M : Nat → Bool) (own ex : Bool) (es a : Nat) (ho : o < h.next) (hg : h.get o = .cells (famC M) own ex es) (ha : a < 128) :
    CallOK Try.prog 143 #[.pointer (some ⟨o, 0, none⟩), .int .i64 (a : Int)] h (.int .i64 ((outerN M 7 a : Nat) : Int)) h := by
  refine callY_P 31 _ [.tmp 4] Try.func143 rfl rfl rfl (by first | rfl | simp) ?_
  have hg1 := hg
  have hf := famC_getD M
  try simp (disch := first | omega | (simp; done) | fail) [wrap64c, if_pos, if_neg, opAnd, opOr, opXor, opDiff, opShr, opBit, hg1, hf]
  refine WD_loopC [0, 1] (fun m tm h' => ∃ i, m = 7 - i ∧ h = h' ∧ tm 5 = .int .i64 ((maskN (fun i => !a.testBit i && M (nOr a (bit i))) i : Nat) : Int) ∧ tm 7 = .int .i64 (i : Int) ∧ (i ≤ 7)) _ ⟨0, rfl, rfl, (by simp [maskN]), (by simp (disch := first | omega | (simp; done) | fail) [wrap64c, if_pos, if_neg, opAnd, opOr, opXor, opDiff, opShr, opBit, hg1, hf]), (by first | omega | assumption | (simp (disch := first | omega | (simp; done) | fail) [wrap64c, if_pos, if_neg, opAnd, opOr, opXor, opDiff, opShr, opBit, hg1, hf] <;> omega))⟩ ?_
  rintro m tm h' hFr ⟨i, rfl, rfl, e5, e7, hi⟩
  simp only [FrameL] at hFr
  obtain ⟨f0_0, f1_0, -⟩ := hFr
  try simp (disch := first | omega | (simp; done) | fail) [wrap64c, if_pos, if_neg, opAnd, opOr, opXor, opDiff, opShr, opBit, hg1, hf] at f0_0 f1_0
  have e0 := f0_0
  have e1 := f1_0
  by_cases hlt : i < 7
  · have hb := bit_lt7 hlt
    have hx := nOr128 (a := a) (b := bit i) ha (by omega)
    have hm := maskN_lt (fun i => !a.testBit i && M (nOr a (bit i))) i
    have h1 := nShr_le a i
    have h2 := nShr_and01 a i
    cases hb : a.testBit i
    · have h3 : nAnd (nShr a i) 1 = 0 := by rw [h2, hb]; rfl
      try simp (disch := first | omega | (simp; done) | fail) [wrap64c, if_pos, if_neg, opAnd, opOr, opXor, opDiff, opShr, opBit, hg1, hf, e0, e1, e5, e7, hlt, hb, h3]
      refine WD_drawC 12 rfl (by kernel_rfl) ?_
      try simp (disch := first | omega | (simp; done) | fail) [wrap64c, if_pos, if_neg, opAnd, opOr, opXor, opDiff, opShr, opBit, hg1, hf, e0, e1, e5, e7, hlt, hb, h3]
      cases hc : M (nOr a (bit i))
      · try simp (disch := first | omega | (simp; done) | fail) [wrap64c, if_pos, if_neg, opAnd, opOr, opXor, opDiff, opShr, opBit, hg1, hf, e0, e1, e5, e7, hlt, hb, h3, hc]
        refine loopK_next _ ?hm ?hf ⟨i + 1, rfl, rfl, (by simp [maskN, hb, hc, e5]), (by simp (disch := first | omega | (simp; done) | fail) [wrap64c, if_pos, if_neg, opAnd, opOr, opXor, opDiff, opShr, opBit, hg1, hf, e0, e1, e5, e7, hlt, hb, h3, hc] <;> omega), (by first | omega | assumption | (simp (disch := first | omega | (simp; done) | fail) [wrap64c, if_pos, if_neg, opAnd, opOr, opXor, opDiff, opShr, opBit, hg1, hf, e0, e1, e5, e7, hlt, hb, h3, hc] <;> omega))⟩
        (case hm => first | omega | (simp; omega))
        (case hf => simp [FrameL, hg1, hf, e0, e1, e5, e7, hlt, hb, h3, hc, f0_0, f1_0])
      · try simp (disch := first | omega | (simp; done) | fail) [wrap64c, if_pos, if_neg, opAnd, opOr, opXor, opDiff, opShr, opBit, hg1, hf, e0, e1, e5, e7, hlt, hb, h3, hc]
        refine loopK_next _ ?hm ?hf ⟨i + 1, rfl, rfl, (by simp [maskN, hb, hc, e5]), (by simp (disch := first | omega | (simp; done) | fail) [wrap64c, if_pos, if_neg, opAnd, opOr, opXor, opDiff, opShr, opBit, hg1, hf, e0, e1, e5, e7, hlt, hb, h3, hc] <;> omega), (by first | omega | assumption | (simp (disch := first | omega | (simp; done) | fail) [wrap64c, if_pos, if_neg, opAnd, opOr, opXor, opDiff, opShr, opBit, hg1, hf, e0, e1, e5, e7, hlt, hb, h3, hc] <;> omega))⟩
        (case hm => first | omega | (simp; omega))
        (case hf => simp [FrameL, hg1, hf, e0, e1, e5, e7, hlt, hb, h3, hc, f0_0, f1_0])
    · have h3 : nAnd (nShr a i) 1 = 1 := by rw [h2, hb]; rfl
      try simp (disch := first | omega | (simp; done) | fail) [wrap64c, if_pos, if_neg, opAnd, opOr, opXor, opDiff, opShr, opBit, hg1, hf, e0, e1, e5, e7, hlt, hb, h3]
      refine WD_drawC 12 rfl (by kernel_rfl) ?_
      try simp (disch := first | omega | (simp; done) | fail) [wrap64c, if_pos, if_neg, opAnd, opOr, opXor, opDiff, opShr, opBit, hg1, hf, e0, e1, e5, e7, hlt, hb, h3]
      refine loopK_next _ ?hm ?hf ⟨i + 1, rfl, rfl, (by simp [maskN, hb, e5]), (by simp (disch := first | omega | (simp; done) | fail) [wrap64c, if_pos, if_neg, opAnd, opOr, opXor, opDiff, opShr, opBit, hg1, hf, e0, e1, e5, e7, hlt, hb, h3] <;> omega), (by first | omega | assumption | (simp (disch := first | omega | (simp; done) | fail) [wrap64c, if_pos, if_neg, opAnd, opOr, opXor, opDiff, opShr, opBit, hg1, hf, e0, e1, e5, e7, hlt, hb, h3] <;> omega))⟩
      (case hm => first | omega | (simp; omega))
      (case hf => simp [FrameL, hg1, hf, e0, e1, e5, e7, hlt, hb, h3, f0_0, f1_0])
  · try simp (disch := first | omega | (simp; done) | fail) [wrap64c, if_pos, if_neg, opAnd, opOr, opXor, opDiff, opShr, opBit, hg1, hf, e0, e1, e5, e7, hlt]
    exact done_ret rfl (by simp [outerN, show i = 7 by omega])

theorem spB_mk {n : Nat} {xs : List Nat} (h1 : 1 ≤ n) (h7 : n ≤ 7) (hs : xs.Pairwise (· < ·)) (hlt : ∀ x ∈ xs, x < bit n) (c4 : fam xs 0 = true) (c5 : fam xs (bit n - 1) = true)
    (hx : ∀ i (h : i < xs.length), (xs[i] ≠ 0 → innerN (fam xs) xs[i] ≠ 0) ∧ ∀ k (h : k < xs.length), fam xs (nOr xs[i] xs[k]) = true) : spB n (toN xs) = true := by
  refine spB_of ⟨h1, h7, hs, hlt, of_decide_eq_true c4, of_decide_eq_true c5, fun x hm => ?_, fun x hm y hn => ?_⟩
  · obtain ⟨i, hi, rfl⟩ := List.getElem_of_mem hm
    exact (hx i hi).1
  · obtain ⟨i, hi, rfl⟩ := List.getElem_of_mem hm
    obtain ⟨k, hk, rfl⟩ := List.getElem_of_mem hn
    exact of_decide_eq_true ((hx i hi).2 k hk)
theorem spB_no {n : Nat} {xs : List Nat} (h : SpGood n xs → False) : spB n (toN xs) = false := spB_false fun n' xs' e1 e2 g => by
  have e3 : n = n' := by omega
  have e4 := toN_inj.1 e2
  subst e3 e4
  exact h g
theorem spB_noX {n : Nat} {X : List Int} (h : Rising X 0 ((bit n : Nat) - 1 : Int) → False) : spB n X = false := spB_false fun n' xs' e1 e2 g => by
  have e3 : n = n' := by omega
  subst e3
  exact h (e2 ▸ g.rising)

theorem spGood_ok (h : Hp) (v : Value) (N : Int) (X : List Int) (hv : Space h v N X) (hl : X.length < 2 ^ 40) : CallOK Try.prog 69 #[v] h (.bool (spB N X)) h := by
  refine callY_P 76 _ [.tmp 2] Try.func69 rfl rfl rfl (by first | rfl | simp) ?_
  obtain ⟨b, rfl, hX⟩ := hv
  refine WD_first ?_
  try simp (disch := first | omega | (simp; done) | fail) [wrap64c, if_pos, if_neg, opAnd, opOr, opXor, opDiff, opShr, opBit]
  refine stopK_heap fun h0 q_h0 => ?_
  refine stopK_go ?_
  have g_h0 : h0.get h.next = .cells [.int .i64 N, b] true true 1 := by simp [q_h0]
  have k_h0 : Adds h h0 := by rw [q_h0]; exact (by first | exact aK | exact kK)
  have n_h0 : h.next < h0.next := by simp [q_h0]; try omega
  have hX0 := hX.keep k_h0.1
  have hL := hX0.lenD
  have K0 := k_h0.1
  try simp (disch := first | omega | (simp; done) | fail) [wrap64c, if_pos, if_neg, opAnd, opOr, opXor, opDiff, opShr, opBit, g_h0, hL]
  refine WD_drawC 23 rfl (by kernel_rfl) ?_
  try simp (disch := first | omega | (simp; done) | fail) [wrap64c, if_pos, if_neg, opAnd, opOr, opXor, opDiff, opShr, opBit, g_h0, hL]
  refine callP_c (by simp) (by simp) ?ha (spItems_ok h0 N) ?hadd ?_
  (case ha => simp (disch := first | omega | (simp; done) | fail) [wrap64c, if_pos, if_neg, opAnd, opOr, opXor, opDiff, opShr, opBit, g_h0, hL])
  (case hadd => first | assumption | exact adds_self _ | (simp; done))
  cases c1 : sizeB N
  · try simp (disch := first | omega | (simp; done) | fail) [wrap64c, if_pos, if_neg, opAnd, opOr, opXor, opDiff, opShr, opBit, g_h0, hL, c1]
    have : spB N X = false := spB_false (fun n xs e1 e2 g => by subst e1; rw [sizeB_of g.n1 g.n7] at c1; cases c1)
    exact done_ret rfl (by simp [this, K0])
  · obtain ⟨n, hN, n1, n7⟩ := sizeB_true c1
    have hb := bit7 n7
    by_cases c2 : (bit n : Int) < (X.length : Int)
    · try simp (disch := first | omega | (simp; done) | fail) [wrap64c, if_pos, if_neg, opAnd, opOr, opXor, opDiff, opShr, opBit, g_h0, hL, c1, hN, c2]
      have : spB N X = false := hN ▸ spB_noX (fun hr => by obtain ⟨xs, e, _, _, hle⟩ := hr.nats; rw [e, toN_length] at c2; omega)
      exact done_ret rfl (by simp [this, K0])
    · try simp (disch := first | omega | (simp; done) | fail) [wrap64c, if_pos, if_neg, opAnd, opOr, opXor, opDiff, opShr, opBit, g_h0, hL, c1, hN, c2]
      refine callP_c (by simp) (by simp) ?ha (l1Rising_ok h0 b X 0 ((bit n : Nat) - 1) hX0) ?hadd ?_
      (case ha => simp (disch := first | omega | (simp; done) | fail) [wrap64c, if_pos, if_neg, opAnd, opOr, opXor, opDiff, opShr, opBit, g_h0, hL, c1, hN, c2])
      (case hadd => first | assumption | exact adds_self _ | (simp; done))
      cases c3 : risB X 0 ((bit n : Nat) - 1 : Int)
      · try simp (disch := first | omega | (simp; done) | fail) [wrap64c, if_pos, if_neg, opAnd, opOr, opXor, opDiff, opShr, opBit, g_h0, hL, c1, hN, c2, c3]
        have : spB N X = false := hN ▸ spB_noX (fun hr => by rw [risB_iff.2 hr] at c3; cases c3)
        exact done_ret rfl (by simp [this, K0])
      · try simp (disch := first | omega | (simp; done) | fail) [wrap64c, if_pos, if_neg, opAnd, opOr, opXor, opDiff, opShr, opBit, g_h0, hL, c1, hN, c2, c3]
        obtain ⟨xs, hXe, hs, hlt, hle⟩ := (risB_true c3).nats
        have hX1 : Ints h0 b (toN xs) := hXe ▸ hX0
        have hgt := toN_get xs
        have hln := toN_length xs
        have hL1 := hX1.lenD
        have hXl : X.length = xs.length := by rw [hXe, toN_length]
        refine WD_drawC 14 rfl (by kernel_rfl) ?_
        try simp (disch := first | omega | (simp; done) | fail) [wrap64c, if_pos, if_neg, opAnd, opOr, opXor, opDiff, opShr, opBit, g_h0, hL, c1, hN, c2, c3, hgt, hL1, hXl]
        refine callP_c (by simp) (by simp) ?ha (spHasN_ok h0 b xs 0 hX1 (by omega) hs) ?hadd ?_
        (case ha => simp (disch := first | omega | (simp; done) | fail) [wrap64c, if_pos, if_neg, opAnd, opOr, opXor, opDiff, opShr, opBit, g_h0, hL, c1, hN, c2, c3, hgt, hL1, hXl])
        (case hadd => first | assumption | exact adds_self _ | (simp; done))
        cases c4 : fam xs 0
        · try simp (disch := first | omega | (simp; done) | fail) [wrap64c, if_pos, if_neg, opAnd, opOr, opXor, opDiff, opShr, opBit, g_h0, hL, c1, hN, c2, c3, hgt, hL1, hXl, c4]
          have : spB N X = false := hN ▸ hXe ▸ spB_no fun g => by have := decide_eq_true g.zero; unfold fam at c4; rw [this] at c4; cases c4
          exact done_ret rfl (by simp [this, K0])
        · have hf : ((bit n : Nat) : Int) - 1 = ((bit n - 1 : Nat) : Int) := by omega
          try simp (disch := first | omega | (simp; done) | fail) [wrap64c, if_pos, if_neg, opAnd, opOr, opXor, opDiff, opShr, opBit, g_h0, hL, c1, hN, c2, c3, hgt, hL1, hXl, c4, hf]
          refine callP_c (by simp) (by simp) ?ha (spHasN_ok h0 b xs (bit n - 1) hX1 (by omega) hs) ?hadd ?_
          (case ha => simp (disch := first | omega | (simp; done) | fail) [wrap64c, if_pos, if_neg, opAnd, opOr, opXor, opDiff, opShr, opBit, g_h0, hL, c1, hN, c2, c3, hgt, hL1, hXl, c4, hf])
          (case hadd => first | assumption | exact adds_self _ | (simp; done))
          cases c5 : fam xs (bit n - 1)
          · try simp (disch := first | omega | (simp; done) | fail) [wrap64c, if_pos, if_neg, opAnd, opOr, opXor, opDiff, opShr, opBit, g_h0, hL, c1, hN, c2, c3, hgt, hL1, hXl, c4, hf, c5]
            have : spB N X = false := hN ▸ hXe ▸ spB_no fun g => by have := decide_eq_true g.full; unfold fam at c5; rw [this] at c5; cases c5
            exact done_ret rfl (by simp [this, K0])
          · try simp (disch := first | omega | (simp; done) | fail) [wrap64c, if_pos, if_neg, opAnd, opOr, opXor, opDiff, opShr, opBit, g_h0, hL, c1, hN, c2, c3, hgt, hL1, hXl, c4, hf, c5]
            refine WD_loopC [1, 45, 46] (fun m tm h' => ∃ j, m = xs.length - j ∧ h0 = h' ∧ tm 47 = .int .i64 (j : Int) ∧ (j ≤ xs.length) ∧ (∀ i (h1 : i < xs.length), i < j → (xs[i] ≠ 0 → innerN (fam xs) xs[i] ≠ 0) ∧ ∀ k (h : k < xs.length), fam xs (nOr xs[i] xs[k]) = true)) _ ⟨0, rfl, rfl, (by simp (disch := first | omega | (simp; done) | fail) [wrap64c, if_pos, if_neg, opAnd, opOr, opXor, opDiff, opShr, opBit, g_h0, hL, c1, hN, c2, c3, hgt, hL1, hXl, c4, hf, c5]), (by first | omega | assumption | (simp (disch := first | omega | (simp; done) | fail) [wrap64c, if_pos, if_neg, opAnd, opOr, opXor, opDiff, opShr, opBit, g_h0, hL, c1, hN, c2, c3, hgt, hL1, hXl, c4, hf, c5] <;> omega)), (by intro i h1 h0; omega)⟩ ?_
            rintro m tm h' hFr ⟨j, rfl, rfl, e47, hj, hx⟩
            simp only [FrameL] at hFr
            obtain ⟨f1_0, f45_0, f46_0, -⟩ := hFr
            try simp (disch := first | omega | (simp; done) | fail) [wrap64c, if_pos, if_neg, opAnd, opOr, opXor, opDiff, opShr, opBit, g_h0, hL, c1, hN, c2, c3, hgt, hL1, hXl, c4, hf, c5] at f1_0 f45_0 f46_0
            have e1 := f1_0
            have e45 := f45_0
            have e46 := f46_0
            by_cases hlj : j < xs.length
            · obtain ⟨o_x, i_x, c_x, cs_x, own_x, ex_x, es_x, q_x, b_x, g_x, l_x, r_x⟩ := hX1.open ((by simp; omega))
              have z_x : ∀ h2 : i_x < cs_x.length, cs_x[i_x] = _ := fun h2 => r_x 0 ((by simp; omega)) h2
              have hxj := hlt _ (List.getElem_mem hlj)
              by_cases z : xs[j] = 0
              · have hne : xs[j] ≠ 0 → innerN (fam xs) xs[j] ≠ 0 := fun q => absurd z q
                have z1 : ¬ (0 : Nat) < xs[j] := by omega
                try simp (disch := first | omega | (simp; done) | fail) [wrap64c, if_pos, if_neg, opAnd, opOr, opXor, opDiff, opShr, opBit, g_h0, hL, c1, hN, c2, c3, hgt, hL1, hXl, c4, hf, c5, e1, e45, e46, e47, hlj, q_x, g_x, l_x, r_x, z_x, z1]
                refine WD_loopC [1, 4, 45, 46, 47, 61, 62] (fun m tm h' => ∃ k, m = xs.length - k ∧ h0 = h' ∧ tm 63 = .int .i64 (k : Int) ∧ (k ≤ xs.length) ∧ (∀ i (h1 : i < xs.length), i < k → fam xs (nOr xs[j] xs[i]) = true)) _ ⟨0, rfl, rfl, (by simp (disch := first | omega | (simp; done) | fail) [wrap64c, if_pos, if_neg, opAnd, opOr, opXor, opDiff, opShr, opBit, g_h0, hL, c1, hN, c2, c3, hgt, hL1, hXl, c4, hf, c5, e1, e45, e46, e47, hlj, q_x, g_x, l_x, r_x, z_x, z1]), (by first | omega | assumption | (simp (disch := first | omega | (simp; done) | fail) [wrap64c, if_pos, if_neg, opAnd, opOr, opXor, opDiff, opShr, opBit, g_h0, hL, c1, hN, c2, c3, hgt, hL1, hXl, c4, hf, c5, e1, e45, e46, e47, hlj, q_x, g_x, l_x, r_x, z_x, z1] <;> omega)), (by intro i h1 h0; omega)⟩ ?_
                rintro m tm h' hFr ⟨k, rfl, rfl, e63, hk, hy⟩
                simp only [FrameL] at hFr
                obtain ⟨f1_1, f4_1, f45_1, f46_1, f47_1, f61_1, f62_1, -⟩ := hFr
                try simp (disch := first | omega | (simp; done) | fail) [wrap64c, if_pos, if_neg, opAnd, opOr, opXor, opDiff, opShr, opBit, g_h0, hL, c1, hN, c2, c3, hgt, hL1, hXl, c4, hf, c5, e1, e45, e46, e47, hlj, q_x, g_x, l_x, r_x, z_x, z1] at f1_1 f4_1 f45_1 f46_1 f47_1 f61_1 f62_1
                have e1 := f1_1
                have e4 := f4_1
                have e45 := f45_1
                have e46 := f46_1
                have e47 := f47_1
                have e61 := f61_1
                have e62 := f62_1
                by_cases hlk : k < xs.length
                · obtain ⟨o_y, i_y, c_y, cs_y, own_y, ex_y, es_y, q_y, b_y, g_y, l_y, r_y⟩ := hX1.open ((by simp; omega))
                  have z_y : ∀ h2 : i_y < cs_y.length, cs_y[i_y] = _ := fun h2 => r_y 0 ((by simp; omega)) h2
                  have hxk := hlt _ (List.getElem_mem hlk)
                  try simp (disch := first | omega | (simp; done) | fail) [wrap64c, if_pos, if_neg, opAnd, opOr, opXor, opDiff, opShr, opBit, g_h0, hL, c1, hN, c2, c3, hgt, hL1, hXl, c4, hf, c5, e1, e45, e46, e47, hlj, q_x, g_x, l_x, r_x, z_x, z1, e4, e61, e62, e63, hlk, q_y, g_y, l_y, r_y, z_y]
                  refine callG_c (by simp) (by simp) ?ha (spHasN_ok h0 b xs (nOr xs[j] xs[k]) hX1 (by omega) hs) ?_
                  (case ha => simp (disch := first | omega | (simp; done) | fail) [wrap64c, if_pos, if_neg, opAnd, opOr, opXor, opDiff, opShr, opBit, g_h0, hL, c1, hN, c2, c3, hgt, hL1, hXl, c4, hf, c5, e1, e45, e46, e47, hlj, q_x, g_x, l_x, r_x, z_x, z1, e4, e61, e62, e63, hlk, q_y, g_y, l_y, r_y, z_y])
                  cases c7 : fam xs (nOr xs[j] xs[k])
                  · try simp (disch := first | omega | (simp; done) | fail) [wrap64c, if_pos, if_neg, opAnd, opOr, opXor, opDiff, opShr, opBit, g_h0, hL, c1, hN, c2, c3, hgt, hL1, hXl, c4, hf, c5, e1, e45, e46, e47, hlj, q_x, g_x, l_x, r_x, z_x, z1, e4, e61, e62, e63, hlk, q_y, g_y, l_y, r_y, z_y, c7]
                    have : spB N X = false := hN ▸ hXe ▸ spB_no fun g => by
                      have := decide_eq_true (g.uni _ (List.getElem_mem hlj) _ (List.getElem_mem hlk)); unfold fam at c7; rw [this] at c7; cases c7
                    exact done_ret rfl (by simp [this, K0])
                  · try simp (disch := first | omega | (simp; done) | fail) [wrap64c, if_pos, if_neg, opAnd, opOr, opXor, opDiff, opShr, opBit, g_h0, hL, c1, hN, c2, c3, hgt, hL1, hXl, c4, hf, c5, e1, e45, e46, e47, hlj, q_x, g_x, l_x, r_x, z_x, z1, e4, e61, e62, e63, hlk, q_y, g_y, l_y, r_y, z_y, c7]
                    refine loopK_next _ ?hm ?hf ⟨k + 1, rfl, rfl, (by simp (disch := first | omega | (simp; done) | fail) [wrap64c, if_pos, if_neg, opAnd, opOr, opXor, opDiff, opShr, opBit, g_h0, hL, c1, hN, c2, c3, hgt, hL1, hXl, c4, hf, c5, e1, e45, e46, e47, hlj, q_x, g_x, l_x, r_x, z_x, z1, e4, e61, e62, e63, hlk, q_y, g_y, l_y, r_y, z_y, c7] <;> omega), (by first | omega | assumption | (simp (disch := first | omega | (simp; done) | fail) [wrap64c, if_pos, if_neg, opAnd, opOr, opXor, opDiff, opShr, opBit, g_h0, hL, c1, hN, c2, c3, hgt, hL1, hXl, c4, hf, c5, e1, e45, e46, e47, hlj, q_x, g_x, l_x, r_x, z_x, z1, e4, e61, e62, e63, hlk, q_y, g_y, l_y, r_y, z_y, c7] <;> omega)), ?c_hy⟩
                    (case hm => first | omega | (simp; omega))
                    (case hf => simp [FrameL, g_h0, hL, c1, hN, c2, c3, hgt, hL1, hXl, c4, hf, c5, e1, e45, e46, e47, hlj, q_x, g_x, l_x, r_x, z_x, z1, e4, e61, e62, e63, hlk, q_y, g_y, l_y, r_y, z_y, c7, f1_1, f4_1, f45_1, f46_1, f47_1, f61_1, f62_1])
                    case c_hy =>
                      exact (fun i h1 hi => by
                        by_cases e : i = k
                        · subst e; exact c7
                        · exact hy i h1 (by omega))
                · try simp (disch := first | omega | (simp; done) | fail) [wrap64c, if_pos, if_neg, opAnd, opOr, opXor, opDiff, opShr, opBit, g_h0, hL, c1, hN, c2, c3, hgt, hL1, hXl, c4, hf, c5, e1, e45, e46, e47, hlj, q_x, g_x, l_x, r_x, z_x, z1, e4, e61, e62, e63, hlk]
                  refine loopK_next _ ?hm ?hf ⟨j + 1, rfl, rfl, (by simp (disch := first | omega | (simp; done) | fail) [wrap64c, if_pos, if_neg, opAnd, opOr, opXor, opDiff, opShr, opBit, g_h0, hL, c1, hN, c2, c3, hgt, hL1, hXl, c4, hf, c5, e1, e45, e46, e47, hlj, q_x, g_x, l_x, r_x, z_x, z1, e4, e61, e62, e63, hlk] <;> omega), (by first | omega | assumption | (simp (disch := first | omega | (simp; done) | fail) [wrap64c, if_pos, if_neg, opAnd, opOr, opXor, opDiff, opShr, opBit, g_h0, hL, c1, hN, c2, c3, hgt, hL1, hXl, c4, hf, c5, e1, e45, e46, e47, hlj, q_x, g_x, l_x, r_x, z_x, z1, e4, e61, e62, e63, hlk] <;> omega)), ?c_hx⟩
                  (case hm => first | omega | (simp; omega))
                  (case hf => simp [FrameL, g_h0, hL, c1, hN, c2, c3, hgt, hL1, hXl, c4, hf, c5, e1, e45, e46, e47, hlj, q_x, g_x, l_x, r_x, z_x, z1, e4, e61, e62, e63, hlk, f1_0, f45_0, f46_0])
                  case c_hx =>
                    exact (fun i h1 hi => by
                      by_cases e : i = j
                      · subst e; exact ⟨hne, fun k hk' => hy k hk' (by omega)⟩
                      · exact hx i h1 (by omega))
              · have z1 : 0 < xs[j] := by omega
                have hin := maskN_lt (fun i => xs[j].testBit i && fam xs (nXor xs[j] (bit i))) 7
                try simp (disch := first | omega | (simp; done) | fail) [wrap64c, if_pos, if_neg, opAnd, opOr, opXor, opDiff, opShr, opBit, g_h0, hL, c1, hN, c2, c3, hgt, hL1, hXl, c4, hf, c5, e1, e45, e46, e47, hlj, q_x, g_x, l_x, r_x, z_x, z1]
                refine callG_c (by simp) (by simp) ?ha (spInner_ok h0 b xs xs[j] hX1 (by omega) hs (by omega)) ?_
                (case ha => simp (disch := first | omega | (simp; done) | fail) [wrap64c, if_pos, if_neg, opAnd, opOr, opXor, opDiff, opShr, opBit, g_h0, hL, c1, hN, c2, c3, hgt, hL1, hXl, c4, hf, c5, e1, e45, e46, e47, hlj, q_x, g_x, l_x, r_x, z_x, z1])
                by_cases c6 : innerN (fam xs) xs[j] = 0
                · try simp (disch := first | omega | (simp; done) | fail) [wrap64c, if_pos, if_neg, opAnd, opOr, opXor, opDiff, opShr, opBit, g_h0, hL, c1, hN, c2, c3, hgt, hL1, hXl, c4, hf, c5, e1, e45, e46, e47, hlj, q_x, g_x, l_x, r_x, z_x, z1, c6]
                  have : spB N X = false := hN ▸ hXe ▸ spB_no fun g => g.inn _ (List.getElem_mem hlj) z c6
                  exact done_ret rfl (by simp [this, K0])
                · have hne : xs[j] ≠ 0 → innerN (fam xs) xs[j] ≠ 0 := fun _ => c6
                  try simp (disch := first | omega | (simp; done) | fail) [wrap64c, if_pos, if_neg, opAnd, opOr, opXor, opDiff, opShr, opBit, g_h0, hL, c1, hN, c2, c3, hgt, hL1, hXl, c4, hf, c5, e1, e45, e46, e47, hlj, q_x, g_x, l_x, r_x, z_x, z1, c6]
                  refine WD_loopC [1, 4, 45, 46, 47, 61, 62] (fun m tm h' => ∃ k, m = xs.length - k ∧ h0 = h' ∧ tm 63 = .int .i64 (k : Int) ∧ (k ≤ xs.length) ∧ (∀ i (h1 : i < xs.length), i < k → fam xs (nOr xs[j] xs[i]) = true)) _ ⟨0, rfl, rfl, (by simp (disch := first | omega | (simp; done) | fail) [wrap64c, if_pos, if_neg, opAnd, opOr, opXor, opDiff, opShr, opBit, g_h0, hL, c1, hN, c2, c3, hgt, hL1, hXl, c4, hf, c5, e1, e45, e46, e47, hlj, q_x, g_x, l_x, r_x, z_x, z1, c6]), (by first | omega | assumption | (simp (disch := first | omega | (simp; done) | fail) [wrap64c, if_pos, if_neg, opAnd, opOr, opXor, opDiff, opShr, opBit, g_h0, hL, c1, hN, c2, c3, hgt, hL1, hXl, c4, hf, c5, e1, e45, e46, e47, hlj, q_x, g_x, l_x, r_x, z_x, z1, c6] <;> omega)), (by intro i h1 h0; omega)⟩ ?_
                  rintro m tm h' hFr ⟨k, rfl, rfl, e63, hk, hy⟩
                  simp only [FrameL] at hFr
                  obtain ⟨f1_2, f4_2, f45_2, f46_2, f47_2, f61_2, f62_2, -⟩ := hFr
                  try simp (disch := first | omega | (simp; done) | fail) [wrap64c, if_pos, if_neg, opAnd, opOr, opXor, opDiff, opShr, opBit, g_h0, hL, c1, hN, c2, c3, hgt, hL1, hXl, c4, hf, c5, e1, e45, e46, e47, hlj, q_x, g_x, l_x, r_x, z_x, z1, c6] at f1_2 f4_2 f45_2 f46_2 f47_2 f61_2 f62_2
                  have e1 := f1_2
                  have e4 := f4_2
                  have e45 := f45_2
                  have e46 := f46_2
                  have e47 := f47_2
                  have e61 := f61_2
                  have e62 := f62_2
                  by_cases hlk : k < xs.length
                  · obtain ⟨o_y, i_y, c_y, cs_y, own_y, ex_y, es_y, q_y, b_y, g_y, l_y, r_y⟩ := hX1.open ((by simp; omega))
                    have z_y : ∀ h2 : i_y < cs_y.length, cs_y[i_y] = _ := fun h2 => r_y 0 ((by simp; omega)) h2
                    have hxk := hlt _ (List.getElem_mem hlk)
                    try simp (disch := first | omega | (simp; done) | fail) [wrap64c, if_pos, if_neg, opAnd, opOr, opXor, opDiff, opShr, opBit, g_h0, hL, c1, hN, c2, c3, hgt, hL1, hXl, c4, hf, c5, e1, e45, e46, e47, hlj, q_x, g_x, l_x, r_x, z_x, z1, c6, e4, e61, e62, e63, hlk, q_y, g_y, l_y, r_y, z_y]
                    refine callG_c (by simp) (by simp) ?ha (spHasN_ok h0 b xs (nOr xs[j] xs[k]) hX1 (by omega) hs) ?_
                    (case ha => simp (disch := first | omega | (simp; done) | fail) [wrap64c, if_pos, if_neg, opAnd, opOr, opXor, opDiff, opShr, opBit, g_h0, hL, c1, hN, c2, c3, hgt, hL1, hXl, c4, hf, c5, e1, e45, e46, e47, hlj, q_x, g_x, l_x, r_x, z_x, z1, c6, e4, e61, e62, e63, hlk, q_y, g_y, l_y, r_y, z_y])
                    cases c7 : fam xs (nOr xs[j] xs[k])
                    · try simp (disch := first | omega | (simp; done) | fail) [wrap64c, if_pos, if_neg, opAnd, opOr, opXor, opDiff, opShr, opBit, g_h0, hL, c1, hN, c2, c3, hgt, hL1, hXl, c4, hf, c5, e1, e45, e46, e47, hlj, q_x, g_x, l_x, r_x, z_x, z1, c6, e4, e61, e62, e63, hlk, q_y, g_y, l_y, r_y, z_y, c7]
                      have : spB N X = false := hN ▸ hXe ▸ spB_no fun g => by
                        have := decide_eq_true (g.uni _ (List.getElem_mem hlj) _ (List.getElem_mem hlk)); unfold fam at c7; rw [this] at c7; cases c7
                      exact done_ret rfl (by simp [this, K0])
                    · try simp (disch := first | omega | (simp; done) | fail) [wrap64c, if_pos, if_neg, opAnd, opOr, opXor, opDiff, opShr, opBit, g_h0, hL, c1, hN, c2, c3, hgt, hL1, hXl, c4, hf, c5, e1, e45, e46, e47, hlj, q_x, g_x, l_x, r_x, z_x, z1, c6, e4, e61, e62, e63, hlk, q_y, g_y, l_y, r_y, z_y, c7]
                      refine loopK_next _ ?hm ?hf ⟨k + 1, rfl, rfl, (by simp (disch := first | omega | (simp; done) | fail) [wrap64c, if_pos, if_neg, opAnd, opOr, opXor, opDiff, opShr, opBit, g_h0, hL, c1, hN, c2, c3, hgt, hL1, hXl, c4, hf, c5, e1, e45, e46, e47, hlj, q_x, g_x, l_x, r_x, z_x, z1, c6, e4, e61, e62, e63, hlk, q_y, g_y, l_y, r_y, z_y, c7] <;> omega), (by first | omega | assumption | (simp (disch := first | omega | (simp; done) | fail) [wrap64c, if_pos, if_neg, opAnd, opOr, opXor, opDiff, opShr, opBit, g_h0, hL, c1, hN, c2, c3, hgt, hL1, hXl, c4, hf, c5, e1, e45, e46, e47, hlj, q_x, g_x, l_x, r_x, z_x, z1, c6, e4, e61, e62, e63, hlk, q_y, g_y, l_y, r_y, z_y, c7] <;> omega)), ?c_hy⟩
                      (case hm => first | omega | (simp; omega))
                      (case hf => simp [FrameL, g_h0, hL, c1, hN, c2, c3, hgt, hL1, hXl, c4, hf, c5, e1, e45, e46, e47, hlj, q_x, g_x, l_x, r_x, z_x, z1, c6, e4, e61, e62, e63, hlk, q_y, g_y, l_y, r_y, z_y, c7, f1_2, f4_2, f45_2, f46_2, f47_2, f61_2, f62_2])
                      case c_hy =>
                        exact (fun i h1 hi => by
                          by_cases e : i = k
                          · subst e; exact c7
                          · exact hy i h1 (by omega))
                  · try simp (disch := first | omega | (simp; done) | fail) [wrap64c, if_pos, if_neg, opAnd, opOr, opXor, opDiff, opShr, opBit, g_h0, hL, c1, hN, c2, c3, hgt, hL1, hXl, c4, hf, c5, e1, e45, e46, e47, hlj, q_x, g_x, l_x, r_x, z_x, z1, c6, e4, e61, e62, e63, hlk]
                    refine loopK_next _ ?hm ?hf ⟨j + 1, rfl, rfl, (by simp (disch := first | omega | (simp; done) | fail) [wrap64c, if_pos, if_neg, opAnd, opOr, opXor, opDiff, opShr, opBit, g_h0, hL, c1, hN, c2, c3, hgt, hL1, hXl, c4, hf, c5, e1, e45, e46, e47, hlj, q_x, g_x, l_x, r_x, z_x, z1, c6, e4, e61, e62, e63, hlk] <;> omega), (by first | omega | assumption | (simp (disch := first | omega | (simp; done) | fail) [wrap64c, if_pos, if_neg, opAnd, opOr, opXor, opDiff, opShr, opBit, g_h0, hL, c1, hN, c2, c3, hgt, hL1, hXl, c4, hf, c5, e1, e45, e46, e47, hlj, q_x, g_x, l_x, r_x, z_x, z1, c6, e4, e61, e62, e63, hlk] <;> omega)), ?c_hx⟩
                    (case hm => first | omega | (simp; omega))
                    (case hf => simp [FrameL, g_h0, hL, c1, hN, c2, c3, hgt, hL1, hXl, c4, hf, c5, e1, e45, e46, e47, hlj, q_x, g_x, l_x, r_x, z_x, z1, c6, e4, e61, e62, e63, hlk, f1_0, f45_0, f46_0])
                    case c_hx =>
                      exact (fun i h1 hi => by
                        by_cases e : i = j
                        · subst e; exact ⟨hne, fun k hk' => hy k hk' (by omega)⟩
                        · exact hx i h1 (by omega))
            · try simp (disch := first | omega | (simp; done) | fail) [wrap64c, if_pos, if_neg, opAnd, opOr, opXor, opDiff, opShr, opBit, g_h0, hL, c1, hN, c2, c3, hgt, hL1, hXl, c4, hf, c5, e1, e45, e46, e47, hlj]
              have : spB N X = true := hN ▸ hXe ▸ spB_mk n1 n7 hs hlt c4 c5 fun i h1 => hx i h1 (by omega)
              exact done_ret rfl (by simp [this, K0])
end Go.Proofs.Ytnjabaeajjhliaa
