/- Small functions on sets, by the reference and by the program. -/
import Derived.Test.YtnjabaeajjhliaaS2
import Derived.Test.YtnjabaeajjhliaaS1
namespace Go.Proofs.Ytnjabaeajjhliaa
set_option linter.unusedSimpArgs false
set_option linter.unusedVariables false
set_option maxHeartbeats 4000000
open Go Go.Eng
attribute [local irreducible] WD RunD PreD Runs CallOK

theorem within_ok (h : Hp) (a b c : Int) : CallOK Try.prog 64 #[.int .i64 a, .int .i64 b, .int .i64 c] h (.bool (decide (b ≤ a ∧ a ≤ c))) h := by
  refine callY_P 15 _ [.tmp 6] Try.func64 rfl rfl rfl (by first | rfl | simp) ?_
  by_cases hc : b ≤ a
  · try simp (disch := first | omega | (simp; done) | fail) [wrap64c, if_pos, if_neg, opAnd, opOr, opXor, opDiff, opShr, opBit, hc]
    exact done_ret rfl (by simp [hc])
  · try simp (disch := first | omega | (simp; done) | fail) [wrap64c, if_pos, if_neg, opAnd, opOr, opXor, opDiff, opShr, opBit, hc]
    exact done_ret rfl (by simp [hc])

/-- Whether there may be so many items; whether a number is a set of so many. -/
def sizeB (N : Int) : Bool := decide (1 ≤ N ∧ N ≤ 7)
def setB (n : Nat) (a : Int) : Bool := decide (0 ≤ a ∧ a < (bit n : Nat))
theorem sizeB_true {N : Int} (h : sizeB N = true) : ∃ n : Nat, N = n ∧ 1 ≤ n ∧ n ≤ 7 := by
  unfold sizeB at h
  have := of_decide_eq_true h
  exact ⟨N.toNat, by omega, by omega, by omega⟩
theorem sizeB_of {n : Nat} (h1 : 1 ≤ n) (h7 : n ≤ 7) : sizeB n = true := by unfold sizeB; exact decide_eq_true (by omega)
theorem setB_true {n : Nat} {a : Int} (h : setB n a = true) : ∃ x : Nat, a = x ∧ x < bit n := by
  unfold setB at h
  have := of_decide_eq_true h
  exact ⟨a.toNat, by omega, by omega⟩
theorem setB_of {n x : Nat} (h : x < bit n) : setB n (x : Int) = true := by unfold setB; exact decide_eq_true (by omega)
theorem setB_iff {n : Nat} {a : Int} : setB n a = true ↔ 0 ≤ a ∧ a < (bit n : Nat) := by unfold setB; exact decide_eq_true_iff

theorem spItems_ok (h : Hp) (N : Int) : CallOK Try.prog 94 #[.int .i64 N] h (.bool (sizeB N)) h := by
  refine callY_P 5 _ [.tmp 2] Try.func94 rfl rfl rfl (by first | rfl | simp) ?_
  try simp (disch := first | omega | (simp; done) | fail) [wrap64c, if_pos, if_neg, opAnd, opOr, opXor, opDiff, opShr, opBit]
  refine callG_c (by simp) (by simp) ?ha (l1In_ok h N 1 7) ?_
  (case ha => simp (disch := first | omega | (simp; done) | fail) [wrap64c, if_pos, if_neg, opAnd, opOr, opXor, opDiff, opShr, opBit])
  try simp (disch := first | omega | (simp; done) | fail) [wrap64c, if_pos, if_neg, opAnd, opOr, opXor, opDiff, opShr, opBit]
  exact done_ret rfl (by simp [sizeB])

theorem isSize_ok (h : Hp) (N : Int) : CallOK Try.prog 97 #[.int .i64 N] h (.bool (sizeB N)) h := by
  refine callY_P 5 _ [.tmp 2] Try.func97 rfl rfl rfl (by first | rfl | simp) ?_
  try simp (disch := first | omega | (simp; done) | fail) [wrap64c, if_pos, if_neg, opAnd, opOr, opXor, opDiff, opShr, opBit]
  refine callG_c (by simp) (by simp) ?ha (within_ok h N 1 7) ?_
  (case ha => simp (disch := first | omega | (simp; done) | fail) [wrap64c, if_pos, if_neg, opAnd, opOr, opXor, opDiff, opShr, opBit])
  try simp (disch := first | omega | (simp; done) | fail) [wrap64c, if_pos, if_neg, opAnd, opOr, opXor, opDiff, opShr, opBit]
  exact done_ret rfl (by simp [sizeB])

theorem isSet_ok (h : Hp) (n : Nat) (a : Int) (hn : n ≤ 20) : CallOK Try.prog 122 #[.int .i64 (n : Int), .int .i64 a] h (.bool (setB n a)) h := by
  refine callY_P 10 _ [.tmp 4] Try.func122 rfl rfl rfl (by first | rfl | simp) ?_
  have hb := bit20 hn
  try simp (disch := first | omega | (simp; done) | fail) [wrap64c, if_pos, if_neg, opAnd, opOr, opXor, opDiff, opShr, opBit]
  refine callG_c (by simp) (by simp) ?ha (within_ok h a 0 ((bit n : Nat) - 1)) ?_
  (case ha => simp (disch := first | omega | (simp; done) | fail) [wrap64c, if_pos, if_neg, opAnd, opOr, opXor, opDiff, opShr, opBit])
  try simp (disch := first | omega | (simp; done) | fail) [wrap64c, if_pos, if_neg, opAnd, opOr, opXor, opDiff, opShr, opBit]
  have e : (a ≤ (bit n : Nat) - 1) ↔ (a < (bit n : Nat)) := by omega
  exact done_ret rfl (by simp [e, setB])

theorem shrMod (a i : Nat) : Int.tmod ((nShr a i : Nat) : Int) 2 = if a.testBit i = true then 1 else 0 := by
  rw [Int.tmod_eq_emod_of_nonneg (by omega)]
  have := nShr_mod a i
  split
  · rename_i hb; rw [if_pos hb] at this; omega
  · rename_i hb; rw [if_neg hb] at this; omega
theorem spIn_ok (h : Hp) (a i : Nat) (ha : a < 9223372036854775808) (hi : i < 64) : CallOK Try.prog 115 #[.int .i64 (a : Int), .int .i64 (i : Int)] h (.bool (a.testBit i)) h := by
  refine callY_P 10 _ [.tmp 4] Try.func115 rfl rfl rfl (by first | rfl | simp) ?_
  have h1 := nShr_le a i
  have h2 := shrMod a i
  cases hb : a.testBit i
  · have h3 : Int.tmod ((nShr a i : Nat) : Int) 2 = 0 := by rw [h2, hb]; rfl
    try simp (disch := first | omega | (simp; done) | fail) [wrap64c, if_pos, if_neg, opAnd, opOr, opXor, opDiff, opShr, opBit, h3]
    exact done_ret rfl (by simp)
  · have h3 : Int.tmod ((nShr a i : Nat) : Int) 2 = 1 := by rw [h2, hb]; rfl
    try simp (disch := first | omega | (simp; done) | fail) [wrap64c, if_pos, if_neg, opAnd, opOr, opXor, opDiff, opShr, opBit, h3]
    exact done_ret rfl (by simp)

theorem has_at {xs : List Int} {a : Int} {lo : Nat} (h1 : ∀ i (hi : i < xs.length), i < lo → xs[i] < a) (h2 : ∀ i (hi : i < xs.length), lo ≤ i → a ≤ xs[i]) (hs : xs.Pairwise (· < ·)) : a ∈ xs ↔ ∃ h : lo < xs.length, xs[lo] = a := by
  constructor
  · intro h
    obtain ⟨i, hi, e⟩ := List.getElem_of_mem h
    have h3 : ¬ i < lo := fun hl => by have := h1 i hi hl; omega
    have h4 : lo < xs.length := by omega
    refine ⟨h4, ?_⟩
    by_cases el : lo = i
    · subst el; exact e
    · have := (List.pairwise_iff_getElem.1 hs) lo i h4 hi (by omega)
      have := h2 lo h4 (Nat.le_refl _)
      omega
  · rintro ⟨h, rfl⟩
    exact List.getElem_mem h

theorem spHas_ok (h : Hp) (v : Value) (xs : List Int) (a : Int) (hv : Ints h v xs) (hl : xs.length < 2 ^ 40) (hs : xs.Pairwise (· < ·)) : CallOK Try.prog 120 #[v, .int .i64 a] h (.bool (decide (a ∈ xs))) h := by
  refine callY_P 38 _ [.tmp 4] Try.func120 rfl rfl rfl (by first | rfl | simp) ?_
  have hL := hv.lenD
  have hP := List.pairwise_iff_getElem.1 hs
  try simp (disch := first | omega | (simp; done) | fail) [wrap64c, if_pos, if_neg, opAnd, opOr, opXor, opDiff, opShr, opBit, hL]
  refine WD_loopC [0, 1] (fun m tm h' => ∃ lo hi, m = hi - lo ∧ h = h' ∧ tm 5 = .int .i64 (lo : Int) ∧ tm 6 = .int .i64 (hi : Int) ∧ (lo ≤ hi ∧ hi ≤ xs.length) ∧ (∀ i (h1 : i < xs.length), i < lo → xs[i] < a) ∧ (∀ i (h1 : i < xs.length), hi ≤ i → a ≤ xs[i])) _ ⟨0, xs.length, rfl, rfl, (by simp (disch := first | omega | (simp; done) | fail) [wrap64c, if_pos, if_neg, opAnd, opOr, opXor, opDiff, opShr, opBit, hL]), (by simp (disch := first | omega | (simp; done) | fail) [wrap64c, if_pos, if_neg, opAnd, opOr, opXor, opDiff, opShr, opBit, hL]), (by first | omega | assumption | (simp (disch := first | omega | (simp; done) | fail) [wrap64c, if_pos, if_neg, opAnd, opOr, opXor, opDiff, opShr, opBit, hL] <;> omega)), (by intro i h1 h0; omega), (by intro i h1 h0; omega)⟩ ?_
  rintro m tm h' hFr ⟨lo, hi, rfl, rfl, e5, e6, hb, hlo, hhi⟩
  simp only [FrameL] at hFr
  obtain ⟨f0_0, f1_0, -⟩ := hFr
  try simp (disch := first | omega | (simp; done) | fail) [wrap64c, if_pos, if_neg, opAnd, opOr, opXor, opDiff, opShr, opBit, hL] at f0_0 f1_0
  have e0 := f0_0
  have e1 := f1_0
  by_cases hlt : lo < hi
  · obtain ⟨o_x, i_x, c_x, cs_x, own_x, ex_x, es_x, q_x, b_x, g_x, l_x, r_x⟩ := hv.open ((by omega))
    have z_x : ∀ h2 : i_x < cs_x.length, cs_x[i_x] = _ := fun h2 => r_x 0 ((by omega)) h2
    obtain ⟨md, hmd, hm1, hm2⟩ : ∃ md : Nat, ((lo : Int) + hi).tdiv 2 = md ∧ lo ≤ md ∧ md < hi := ⟨(lo + hi) / 2, by rw [Int.tdiv_eq_ediv_of_nonneg (by omega)]; omega, by omega, by omega⟩
    by_cases hc : xs[md] < a
    · try simp (disch := first | omega | (simp; done) | fail) [wrap64c, if_pos, if_neg, opAnd, opOr, opXor, opDiff, opShr, opBit, hL, e0, e1, e5, e6, hlt, q_x, g_x, l_x, r_x, z_x, hmd, hc]
      refine loopK_next _ ?hm ?hf ⟨md + 1, hi, rfl, rfl, (by simp (disch := first | omega | (simp; done) | fail) [wrap64c, if_pos, if_neg, opAnd, opOr, opXor, opDiff, opShr, opBit, hL, e0, e1, e5, e6, hlt, q_x, g_x, l_x, r_x, z_x, hmd, hc] <;> omega), (by simp (disch := first | omega | (simp; done) | fail) [wrap64c, if_pos, if_neg, opAnd, opOr, opXor, opDiff, opShr, opBit, hL, e0, e1, e5, e6, hlt, q_x, g_x, l_x, r_x, z_x, hmd, hc] <;> omega), (by first | omega | assumption | (simp (disch := first | omega | (simp; done) | fail) [wrap64c, if_pos, if_neg, opAnd, opOr, opXor, opDiff, opShr, opBit, hL, e0, e1, e5, e6, hlt, q_x, g_x, l_x, r_x, z_x, hmd, hc] <;> omega)), ?c_hlo, (by first | omega | assumption | (simp (disch := first | omega | (simp; done) | fail) [wrap64c, if_pos, if_neg, opAnd, opOr, opXor, opDiff, opShr, opBit, hL, e0, e1, e5, e6, hlt, q_x, g_x, l_x, r_x, z_x, hmd, hc] <;> omega))⟩
      (case hm => first | omega | (simp; omega))
      (case hf => simp [FrameL, hL, e0, e1, e5, e6, hlt, q_x, g_x, l_x, r_x, z_x, hmd, hc, f0_0, f1_0])
      case c_hlo =>
        exact (fun i h1 h0 => by
          by_cases e : i = md
          · subst e; exact hc
          · have := hP i md h1 (by omega) (by omega); omega)
    · try simp (disch := first | omega | (simp; done) | fail) [wrap64c, if_pos, if_neg, opAnd, opOr, opXor, opDiff, opShr, opBit, hL, e0, e1, e5, e6, hlt, q_x, g_x, l_x, r_x, z_x, hmd, hc]
      refine loopK_next _ ?hm ?hf ⟨lo, md, rfl, rfl, (by simp (disch := first | omega | (simp; done) | fail) [wrap64c, if_pos, if_neg, opAnd, opOr, opXor, opDiff, opShr, opBit, hL, e0, e1, e5, e6, hlt, q_x, g_x, l_x, r_x, z_x, hmd, hc] <;> omega), (by simp (disch := first | omega | (simp; done) | fail) [wrap64c, if_pos, if_neg, opAnd, opOr, opXor, opDiff, opShr, opBit, hL, e0, e1, e5, e6, hlt, q_x, g_x, l_x, r_x, z_x, hmd, hc] <;> omega), (by first | omega | assumption | (simp (disch := first | omega | (simp; done) | fail) [wrap64c, if_pos, if_neg, opAnd, opOr, opXor, opDiff, opShr, opBit, hL, e0, e1, e5, e6, hlt, q_x, g_x, l_x, r_x, z_x, hmd, hc] <;> omega)), (by first | omega | assumption | (simp (disch := first | omega | (simp; done) | fail) [wrap64c, if_pos, if_neg, opAnd, opOr, opXor, opDiff, opShr, opBit, hL, e0, e1, e5, e6, hlt, q_x, g_x, l_x, r_x, z_x, hmd, hc] <;> omega)), ?c_hhi⟩
      (case hm => first | omega | (simp; omega))
      (case hf => simp [FrameL, hL, e0, e1, e5, e6, hlt, q_x, g_x, l_x, r_x, z_x, hmd, hc, f0_0, f1_0])
      case c_hhi =>
        exact (fun i h1 h0 => by
          by_cases e : md = i
          · subst e; omega
          · have := hP md i (by omega) h1 (by omega); omega)
  · have e : lo = hi := by omega
    subst e
    have hi2 := has_at hlo hhi hs
    by_cases h2 : lo < xs.length
    · obtain ⟨o_x, i_x, c_x, cs_x, own_x, ex_x, es_x, q_x, b_x, g_x, l_x, r_x⟩ := hv.open ((by omega))
      have z_x : ∀ h2 : i_x < cs_x.length, cs_x[i_x] = _ := fun h2 => r_x 0 ((by omega)) h2
      by_cases h3 : xs[lo] = a
      · try simp (disch := first | omega | (simp; done) | fail) [wrap64c, if_pos, if_neg, opAnd, opOr, opXor, opDiff, opShr, opBit, hL, e0, e1, e5, e6, hlt, h2, q_x, g_x, l_x, r_x, z_x, h3]
        have : a ∈ xs := hi2.2 ⟨h2, h3⟩
        exact done_ret rfl (by simp [this])
      · try simp (disch := first | omega | (simp; done) | fail) [wrap64c, if_pos, if_neg, opAnd, opOr, opXor, opDiff, opShr, opBit, hL, e0, e1, e5, e6, hlt, h2, q_x, g_x, l_x, r_x, z_x, h3]
        have : ¬ a ∈ xs := fun hm => h3 (hi2.1 hm).2
        exact done_ret rfl (by simp [this, h3])
    · try simp (disch := first | omega | (simp; done) | fail) [wrap64c, if_pos, if_neg, opAnd, opOr, opXor, opDiff, opShr, opBit, hL, e0, e1, e5, e6, hlt, h2]
      have : ¬ a ∈ xs := fun hm => by obtain ⟨h4, _⟩ := hi2.1 hm; omega
      exact done_ret rfl (by simp [this])

theorem spHasN_ok (h : Hp) (v : Value) (xs : List Nat) (a : Nat) (hv : Ints h v (toN xs)) (hl : xs.length < 2 ^ 40) (hs : xs.Pairwise (· < ·)) : CallOK Try.prog 120 #[v, .int .i64 (a : Int)] h (.bool (fam xs a)) h := by
  have := spHas_ok h v (toN xs) (a : Int) hv (by simpa using hl) (toN_srt.2 hs)
  have e : fam xs a = decide ((a : Int) ∈ toN xs) := by unfold fam; rw [decide_eq_decide]; exact mem_toN.symm
  rw [e]; exact this

/-- Increasing from lo to hi, place by place. -/
theorem ris_at {X : List Int} {lo hi : Int} : Rising X lo hi ↔ ∀ i (h : i < X.length), (lo ≤ X[i] ∧ X[i] ≤ hi) ∧ (0 < i → X[i - 1] < X[i]) := by
  constructor
  · intro h i hi
    refine ⟨h.2 _ (List.getElem_mem hi), fun h0 => (List.pairwise_iff_getElem.1 h.1) (i - 1) i (by omega) hi (by omega)⟩
  · intro h
    have key : ∀ d i (h1 : i < X.length) (h2 : i + d + 1 < X.length), X[i] < X[i + d + 1] := by
      intro d
      induction d with
      | zero => intro i h1 h2; exact (h (i + 1) h2).2 (by omega)
      | succ d ih =>
        intro i h1 h2
        have h3 := ih i h1 (by omega)
        have h4 := (h (i + (d + 1) + 1) h2).2 (by omega)
        simp only [Nat.add_sub_cancel] at h4
        have h5 : X[i + d + 1] = X[i + (d + 1)] := rfl
        omega
    refine ⟨List.pairwise_iff_getElem.2 fun i j h1 h2 hij => ?_, fun x hx => ?_⟩
    · have := key (j - i - 1) i h1 (by omega)
      simpa [show i + (j - i - 1) + 1 = j by omega] using this
    · obtain ⟨i, hi, rfl⟩ := List.getElem_of_mem hx
      exact (h i hi).1

theorem l1Rising_ok (h : Hp) (v : Value) (X : List Int) (lo hi : Int) (hv : Ints h v X) : CallOK Try.prog 119 #[v, .int .i64 lo, .int .i64 hi] h (.bool (risB X lo hi)) h := by
  refine callY_P 35 _ [.tmp 6] Try.func119 rfl rfl rfl (by first | rfl | simp) ?_
  have hL := hv.lenD
  have hs := hv.len
  try simp (disch := first | omega | (simp; done) | fail) [wrap64c, if_pos, if_neg, opAnd, opOr, opXor, opDiff, opShr, opBit, hL]
  refine WD_loopC [0, 1, 2, 9, 10] (fun m tm h' => ∃ j, m = X.length - j ∧ h = h' ∧ tm 11 = .int .i64 (j : Int) ∧ (j ≤ X.length) ∧ (∀ i (h1 : i < X.length), i < j → (lo ≤ X[i] ∧ X[i] ≤ hi) ∧ (0 < i → X[i - 1] < X[i]))) _ ⟨0, rfl, rfl, (by simp (disch := first | omega | (simp; done) | fail) [wrap64c, if_pos, if_neg, opAnd, opOr, opXor, opDiff, opShr, opBit, hL]), (by first | omega | assumption | (simp (disch := first | omega | (simp; done) | fail) [wrap64c, if_pos, if_neg, opAnd, opOr, opXor, opDiff, opShr, opBit, hL] <;> omega)), (by intro i h1 h0; omega)⟩ ?_
  rintro m tm h' hFr ⟨j, rfl, rfl, e11, hj, hx⟩
  simp only [FrameL] at hFr
  obtain ⟨f0_0, f1_0, f2_0, f9_0, f10_0, -⟩ := hFr
  try simp (disch := first | omega | (simp; done) | fail) [wrap64c, if_pos, if_neg, opAnd, opOr, opXor, opDiff, opShr, opBit, hL] at f0_0 f1_0 f2_0 f9_0 f10_0
  have e0 := f0_0
  have e1 := f1_0
  have e2 := f2_0
  have e9 := f9_0
  have e10 := f10_0
  by_cases hlt : j < X.length
  · obtain ⟨o_x, i_x, c_x, cs_x, own_x, ex_x, es_x, q_x, b_x, g_x, l_x, r_x⟩ := hv.open ((by omega))
    have z_x : ∀ h2 : i_x < cs_x.length, cs_x[i_x] = _ := fun h2 => r_x 0 ((by omega)) h2
    try simp (disch := first | omega | (simp; done) | fail) [wrap64c, if_pos, if_neg, opAnd, opOr, opXor, opDiff, opShr, opBit, hL, e0, e1, e2, e9, e10, e11, hlt, q_x, g_x, l_x, r_x, z_x]
    refine callG_c (by simp) (by simp) ?ha (l1In_ok h X[j] lo hi) ?_
    (case ha => simp (disch := first | omega | (simp; done) | fail) [wrap64c, if_pos, if_neg, opAnd, opOr, opXor, opDiff, opShr, opBit, hL, e0, e1, e2, e9, e10, e11, hlt, q_x, g_x, l_x, r_x, z_x])
    by_cases hc : lo ≤ X[j] ∧ X[j] ≤ hi
    · have hc1 : decide (lo ≤ X[j] ∧ X[j] ≤ hi) = true := by simpa using hc
      have hc2 : (decide (lo ≤ X[j]) && decide (X[j] ≤ hi)) = true := by simpa using hc
      by_cases h0 : 0 < j
      · have h0' : ((j : Int) - 1) = ((j - 1 : Nat) : Int) := by omega
        by_cases hd : X[j - 1] < X[j]
        · have hd' : ¬ X[j - 1] ≥ X[j] := by omega
          have hd2 : ¬ X[j] ≤ X[j - 1] := by omega
          try simp (disch := first | omega | (simp; done) | fail) [wrap64c, if_pos, if_neg, opAnd, opOr, opXor, opDiff, opShr, opBit, hL, e0, e1, e2, e9, e10, e11, hlt, q_x, g_x, l_x, r_x, z_x, hc1, hc2, h0, h0', hd', hd2]
          refine loopK_next _ ?hm ?hf ⟨j + 1, rfl, rfl, (by simp (disch := first | omega | (simp; done) | fail) [wrap64c, if_pos, if_neg, opAnd, opOr, opXor, opDiff, opShr, opBit, hL, e0, e1, e2, e9, e10, e11, hlt, q_x, g_x, l_x, r_x, z_x, hc1, hc2, h0, h0', hd', hd2] <;> omega), (by first | omega | assumption | (simp (disch := first | omega | (simp; done) | fail) [wrap64c, if_pos, if_neg, opAnd, opOr, opXor, opDiff, opShr, opBit, hL, e0, e1, e2, e9, e10, e11, hlt, q_x, g_x, l_x, r_x, z_x, hc1, hc2, h0, h0', hd', hd2] <;> omega)), ?c_hx⟩
          (case hm => first | omega | (simp; omega))
          (case hf => simp [FrameL, hL, e0, e1, e2, e9, e10, e11, hlt, q_x, g_x, l_x, r_x, z_x, hc1, hc2, h0, h0', hd', hd2, f0_0, f1_0, f2_0, f9_0, f10_0])
          case c_hx =>
            exact (fun i h1 hi' => by
              by_cases e : i = j
              · subst e; exact ⟨hc, fun _ => hd⟩
              · exact hx i h1 (by omega))
        · have hd' : X[j - 1] ≥ X[j] := by omega
          have hd2 : X[j] ≤ X[j - 1] := by omega
          try simp (disch := first | omega | (simp; done) | fail) [wrap64c, if_pos, if_neg, opAnd, opOr, opXor, opDiff, opShr, opBit, hL, e0, e1, e2, e9, e10, e11, hlt, q_x, g_x, l_x, r_x, z_x, hc1, hc2, h0, h0', hd', hd2]
          have : risB X lo hi = false := by
            rw [Bool.eq_false_iff]; intro hq
            exact hd ((ris_at.1 (risB_true hq) j hlt).2 h0)
          exact done_ret rfl (by simp [this])
      · try simp (disch := first | omega | (simp; done) | fail) [wrap64c, if_pos, if_neg, opAnd, opOr, opXor, opDiff, opShr, opBit, hL, e0, e1, e2, e9, e10, e11, hlt, q_x, g_x, l_x, r_x, z_x, hc1, hc2, h0]
        refine loopK_next _ ?hm ?hf ⟨j + 1, rfl, rfl, (by simp (disch := first | omega | (simp; done) | fail) [wrap64c, if_pos, if_neg, opAnd, opOr, opXor, opDiff, opShr, opBit, hL, e0, e1, e2, e9, e10, e11, hlt, q_x, g_x, l_x, r_x, z_x, hc1, hc2, h0] <;> omega), (by first | omega | assumption | (simp (disch := first | omega | (simp; done) | fail) [wrap64c, if_pos, if_neg, opAnd, opOr, opXor, opDiff, opShr, opBit, hL, e0, e1, e2, e9, e10, e11, hlt, q_x, g_x, l_x, r_x, z_x, hc1, hc2, h0] <;> omega)), ?c_hx⟩
        (case hm => first | omega | (simp; omega))
        (case hf => simp [FrameL, hL, e0, e1, e2, e9, e10, e11, hlt, q_x, g_x, l_x, r_x, z_x, hc1, hc2, h0, f0_0, f1_0, f2_0, f9_0, f10_0])
        case c_hx =>
          exact (fun i h1 hi' => by
            by_cases e : i = j
            · subst e; exact ⟨hc, fun q => absurd q h0⟩
            · exact hx i h1 (by omega))
    · have hc1 : decide (lo ≤ X[j] ∧ X[j] ≤ hi) = false := by simpa using hc
      have hc2 : (decide (lo ≤ X[j]) && decide (X[j] ≤ hi)) = false := by rw [← hc1]; simp
      try simp (disch := first | omega | (simp; done) | fail) [wrap64c, if_pos, if_neg, opAnd, opOr, opXor, opDiff, opShr, opBit, hL, e0, e1, e2, e9, e10, e11, hlt, q_x, g_x, l_x, r_x, z_x, hc1, hc2]
      have : risB X lo hi = false := by
        rw [Bool.eq_false_iff]; intro hq
        exact hc (ris_at.1 (risB_true hq) j hlt).1
      exact done_ret rfl (by simp [this])
  · try simp (disch := first | omega | (simp; done) | fail) [wrap64c, if_pos, if_neg, opAnd, opOr, opXor, opDiff, opShr, opBit, hL, e0, e1, e2, e9, e10, e11, hlt]
    have : risB X lo hi = true := risB_iff.2 (ris_at.2 fun i h1 => hx i h1 (by omega))
    exact done_ret rfl (by simp [this])

theorem spInner_ok (h : Hp) (v : Value) (xs : List Nat) (a : Nat) (hv : Ints h v (toN xs)) (hl : xs.length < 2 ^ 40) (hs : xs.Pairwise (· < ·)) (ha : a < 128) :
    CallOK Try.prog 121 #[v, .int .i64 (a : Int)] h (.int .i64 ((innerN (fam xs) a : Nat) : Int)) h := by
  refine callY_P 27 _ [.tmp 4] Try.func121 rfl rfl rfl (by first | rfl | simp) ?_
  try simp (disch := first | omega | (simp; done) | fail) [wrap64c, if_pos, if_neg, opAnd, opOr, opXor, opDiff, opShr, opBit]
  refine WD_loopC [0, 1] (fun m tm h' => ∃ i, m = 7 - i ∧ h = h' ∧ tm 5 = .int .i64 ((maskN (fun i => a.testBit i && fam xs (nXor a (bit i))) i : Nat) : Int) ∧ tm 6 = .int .i64 (i : Int) ∧ (i ≤ 7)) _ ⟨0, rfl, rfl, (by simp [maskN]), (by simp (disch := first | omega | (simp; done) | fail) [wrap64c, if_pos, if_neg, opAnd, opOr, opXor, opDiff, opShr, opBit]), (by first | omega | assumption | (simp (disch := first | omega | (simp; done) | fail) [wrap64c, if_pos, if_neg, opAnd, opOr, opXor, opDiff, opShr, opBit] <;> omega))⟩ ?_
  rintro m tm h' hFr ⟨i, rfl, rfl, e5, e6, hi⟩
  simp only [FrameL] at hFr
  obtain ⟨f0_0, f1_0, -⟩ := hFr
  try simp (disch := first | omega | (simp; done) | fail) [wrap64c, if_pos, if_neg, opAnd, opOr, opXor, opDiff, opShr, opBit] at f0_0 f1_0
  have e0 := f0_0
  have e1 := f1_0
  by_cases hlt : i < 7
  · have hb := bit_lt7 hlt
    have hx := nXor128 (a := a) (b := bit i) ha (by omega)
    have hm := maskN_lt (fun i => a.testBit i && fam xs (nXor a (bit i))) i
    have hm2 := bit_lt7 hlt
    try simp (disch := first | omega | (simp; done) | fail) [wrap64c, if_pos, if_neg, opAnd, opOr, opXor, opDiff, opShr, opBit, e0, e1, e5, e6, hlt]
    refine callG_c (by simp) (by simp) ?ha (spIn_ok h a i (by omega) (by omega)) ?_
    (case ha => simp (disch := first | omega | (simp; done) | fail) [wrap64c, if_pos, if_neg, opAnd, opOr, opXor, opDiff, opShr, opBit, e0, e1, e5, e6, hlt])
    cases hb : a.testBit i
    · try simp (disch := first | omega | (simp; done) | fail) [wrap64c, if_pos, if_neg, opAnd, opOr, opXor, opDiff, opShr, opBit, e0, e1, e5, e6, hlt, hb]
      refine loopK_next _ ?hm ?hf ⟨i + 1, rfl, rfl, (by simp [maskN, hb, e5]), (by simp (disch := first | omega | (simp; done) | fail) [wrap64c, if_pos, if_neg, opAnd, opOr, opXor, opDiff, opShr, opBit, e0, e1, e5, e6, hlt, hb] <;> omega), (by first | omega | assumption | (simp (disch := first | omega | (simp; done) | fail) [wrap64c, if_pos, if_neg, opAnd, opOr, opXor, opDiff, opShr, opBit, e0, e1, e5, e6, hlt, hb] <;> omega))⟩
      (case hm => first | omega | (simp; omega))
      (case hf => simp [FrameL, e0, e1, e5, e6, hlt, hb, f0_0, f1_0])
    · try simp (disch := first | omega | (simp; done) | fail) [wrap64c, if_pos, if_neg, opAnd, opOr, opXor, opDiff, opShr, opBit, e0, e1, e5, e6, hlt, hb]
      refine callG_c (by simp) (by simp) ?ha (spHasN_ok h v xs (nXor a (bit i)) hv hl hs) ?_
      (case ha => simp (disch := first | omega | (simp; done) | fail) [wrap64c, if_pos, if_neg, opAnd, opOr, opXor, opDiff, opShr, opBit, e0, e1, e5, e6, hlt, hb])
      cases hc : fam xs (nXor a (bit i))
      · try simp (disch := first | omega | (simp; done) | fail) [wrap64c, if_pos, if_neg, opAnd, opOr, opXor, opDiff, opShr, opBit, e0, e1, e5, e6, hlt, hb, hc]
        refine loopK_next _ ?hm ?hf ⟨i + 1, rfl, rfl, (by simp [maskN, hb, hc, e5]), (by simp (disch := first | omega | (simp; done) | fail) [wrap64c, if_pos, if_neg, opAnd, opOr, opXor, opDiff, opShr, opBit, e0, e1, e5, e6, hlt, hb, hc] <;> omega), (by first | omega | assumption | (simp (disch := first | omega | (simp; done) | fail) [wrap64c, if_pos, if_neg, opAnd, opOr, opXor, opDiff, opShr, opBit, e0, e1, e5, e6, hlt, hb, hc] <;> omega))⟩
        (case hm => first | omega | (simp; omega))
        (case hf => simp [FrameL, e0, e1, e5, e6, hlt, hb, hc, f0_0, f1_0])
      · try simp (disch := first | omega | (simp; done) | fail) [wrap64c, if_pos, if_neg, opAnd, opOr, opXor, opDiff, opShr, opBit, e0, e1, e5, e6, hlt, hb, hc]
        refine loopK_next _ ?hm ?hf ⟨i + 1, rfl, rfl, (by simp [maskN, hb, hc, e5]), (by simp (disch := first | omega | (simp; done) | fail) [wrap64c, if_pos, if_neg, opAnd, opOr, opXor, opDiff, opShr, opBit, e0, e1, e5, e6, hlt, hb, hc] <;> omega), (by first | omega | assumption | (simp (disch := first | omega | (simp; done) | fail) [wrap64c, if_pos, if_neg, opAnd, opOr, opXor, opDiff, opShr, opBit, e0, e1, e5, e6, hlt, hb, hc] <;> omega))⟩
        (case hm => first | omega | (simp; omega))
        (case hf => simp [FrameL, e0, e1, e5, e6, hlt, hb, hc, f0_0, f1_0])
  · try simp (disch := first | omega | (simp; done) | fail) [wrap64c, if_pos, if_neg, opAnd, opOr, opXor, opDiff, opShr, opBit, e0, e1, e5, e6, hlt]
    exact done_ret rfl (by simp [innerN, show i = 7 by omega])

theorem spOuter_ok (h : Hp) (v : Value) (n : Nat) (xs : List Nat) (a : Nat) (hv : Space h v n (toN xs)) (hn : n ≤ 7) (hl : xs.length < 2 ^ 40) (hs : xs.Pairwise (· < ·)) (ha : a < 128) :
    CallOK Try.prog 138 #[v, .int .i64 (a : Int)] h (.int .i64 ((outerN (fam xs) n a : Nat) : Int)) h := by
  refine callY_P 31 _ [.tmp 4] Try.func138 rfl rfl rfl (by first | rfl | simp) ?_
  obtain ⟨b, rfl, hX⟩ := hv
  refine WD_first ?_
  try simp (disch := first | omega | (simp; done) | fail) [wrap64c, if_pos, if_neg, opAnd, opOr, opXor, opDiff, opShr, opBit]
  refine stopK_heap fun h0 q_h0 => ?_
  refine stopK_go ?_
  have g_h0 : h0.get h.next = .cells [.int .i64 n, b] true true 1 := by simp [q_h0]
  have k_h0 : Adds h h0 := by rw [q_h0]; exact (by first | exact aK | exact kK)
  have n_h0 : h.next < h0.next := by simp [q_h0]; try omega
  have hX0 := hX.keep k_h0.1
  try simp (disch := first | omega | (simp; done) | fail) [wrap64c, if_pos, if_neg, opAnd, opOr, opXor, opDiff, opShr, opBit, g_h0]
  refine WD_loopC [1, 2] (fun m tm h' => ∃ i, m = n - i ∧ h0 = h' ∧ tm 5 = .int .i64 ((maskN (fun i => !a.testBit i && fam xs (nOr a (bit i))) i : Nat) : Int) ∧ tm 6 = .int .i64 (i : Int) ∧ (i ≤ n)) _ ⟨0, rfl, rfl, (by simp [maskN]), (by simp (disch := first | omega | (simp; done) | fail) [wrap64c, if_pos, if_neg, opAnd, opOr, opXor, opDiff, opShr, opBit, g_h0]), (by first | omega | assumption | (simp (disch := first | omega | (simp; done) | fail) [wrap64c, if_pos, if_neg, opAnd, opOr, opXor, opDiff, opShr, opBit, g_h0] <;> omega))⟩ ?_
  rintro m tm h' hFr ⟨i, rfl, rfl, e5, e6, hi⟩
  simp only [FrameL] at hFr
  obtain ⟨f1_0, f2_0, -⟩ := hFr
  try simp (disch := first | omega | (simp; done) | fail) [wrap64c, if_pos, if_neg, opAnd, opOr, opXor, opDiff, opShr, opBit, g_h0] at f1_0 f2_0
  have e1 := f1_0
  have e2 := f2_0
  by_cases hlt : i < n
  · have hb := bit_lt7 (i := i) (by omega)
    have hx := nOr128 (a := a) (b := bit i) ha (by omega)
    have hm := maskN_lt (fun i => !a.testBit i && fam xs (nOr a (bit i))) i
    try simp (disch := first | omega | (simp; done) | fail) [wrap64c, if_pos, if_neg, opAnd, opOr, opXor, opDiff, opShr, opBit, g_h0, e1, e2, e5, e6, hlt]
    refine WD_drawC 11 rfl (by kernel_rfl) ?_
    try simp (disch := first | omega | (simp; done) | fail) [wrap64c, if_pos, if_neg, opAnd, opOr, opXor, opDiff, opShr, opBit, g_h0, e1, e2, e5, e6, hlt]
    refine callP_c (by simp) (by simp) ?ha (spIn_ok h0 a i (by omega) (by omega)) ?hadd ?_
    (case ha => simp (disch := first | omega | (simp; done) | fail) [wrap64c, if_pos, if_neg, opAnd, opOr, opXor, opDiff, opShr, opBit, g_h0, e1, e2, e5, e6, hlt])
    (case hadd => first | assumption | exact adds_self _ | (simp; done))
    cases hb : a.testBit i
    · try simp (disch := first | omega | (simp; done) | fail) [wrap64c, if_pos, if_neg, opAnd, opOr, opXor, opDiff, opShr, opBit, g_h0, e1, e2, e5, e6, hlt, hb]
      refine callG_c (by simp) (by simp) ?ha (spHasN_ok h0 b xs (nOr a (bit i)) hX0 hl hs) ?_
      (case ha => simp (disch := first | omega | (simp; done) | fail) [wrap64c, if_pos, if_neg, opAnd, opOr, opXor, opDiff, opShr, opBit, g_h0, e1, e2, e5, e6, hlt, hb])
      cases hc : fam xs (nOr a (bit i))
      · try simp (disch := first | omega | (simp; done) | fail) [wrap64c, if_pos, if_neg, opAnd, opOr, opXor, opDiff, opShr, opBit, g_h0, e1, e2, e5, e6, hlt, hb, hc]
        refine loopK_next _ ?hm ?hf ⟨i + 1, rfl, rfl, (by simp [maskN, hb, hc, e5]), (by simp (disch := first | omega | (simp; done) | fail) [wrap64c, if_pos, if_neg, opAnd, opOr, opXor, opDiff, opShr, opBit, g_h0, e1, e2, e5, e6, hlt, hb, hc] <;> omega), (by first | omega | assumption | (simp (disch := first | omega | (simp; done) | fail) [wrap64c, if_pos, if_neg, opAnd, opOr, opXor, opDiff, opShr, opBit, g_h0, e1, e2, e5, e6, hlt, hb, hc] <;> omega))⟩
        (case hm => first | omega | (simp; omega))
        (case hf => simp [FrameL, g_h0, e1, e2, e5, e6, hlt, hb, hc, f1_0, f2_0])
      · try simp (disch := first | omega | (simp; done) | fail) [wrap64c, if_pos, if_neg, opAnd, opOr, opXor, opDiff, opShr, opBit, g_h0, e1, e2, e5, e6, hlt, hb, hc]
        refine loopK_next _ ?hm ?hf ⟨i + 1, rfl, rfl, (by simp [maskN, hb, hc, e5]), (by simp (disch := first | omega | (simp; done) | fail) [wrap64c, if_pos, if_neg, opAnd, opOr, opXor, opDiff, opShr, opBit, g_h0, e1, e2, e5, e6, hlt, hb, hc] <;> omega), (by first | omega | assumption | (simp (disch := first | omega | (simp; done) | fail) [wrap64c, if_pos, if_neg, opAnd, opOr, opXor, opDiff, opShr, opBit, g_h0, e1, e2, e5, e6, hlt, hb, hc] <;> omega))⟩
        (case hm => first | omega | (simp; omega))
        (case hf => simp [FrameL, g_h0, e1, e2, e5, e6, hlt, hb, hc, f1_0, f2_0])
    · try simp (disch := first | omega | (simp; done) | fail) [wrap64c, if_pos, if_neg, opAnd, opOr, opXor, opDiff, opShr, opBit, g_h0, e1, e2, e5, e6, hlt, hb]
      refine loopK_next _ ?hm ?hf ⟨i + 1, rfl, rfl, (by simp [maskN, hb, e5]), (by simp (disch := first | omega | (simp; done) | fail) [wrap64c, if_pos, if_neg, opAnd, opOr, opXor, opDiff, opShr, opBit, g_h0, e1, e2, e5, e6, hlt, hb] <;> omega), (by first | omega | assumption | (simp (disch := first | omega | (simp; done) | fail) [wrap64c, if_pos, if_neg, opAnd, opOr, opXor, opDiff, opShr, opBit, g_h0, e1, e2, e5, e6, hlt, hb] <;> omega))⟩
      (case hm => first | omega | (simp; omega))
      (case hf => simp [FrameL, g_h0, e1, e2, e5, e6, hlt, hb, f1_0, f2_0])
  · try simp (disch := first | omega | (simp; done) | fail) [wrap64c, if_pos, if_neg, opAnd, opOr, opXor, opDiff, opShr, opBit, g_h0, e1, e2, e5, e6, hlt]
    exact done_ret rfl (by simp [outerN, show i = n by omega, k_h0.1])
end Go.Proofs.Ytnjabaeajjhliaa
