/- The reference's list of orders; few items; how many names keep a space. -/
import Derived.Test.YtnjabaeajjhliaaT10
namespace Go.Proofs.Ytnjabaeajjhliaa
set_option linter.unusedSimpArgs false
set_option linter.unusedVariables false
set_option maxHeartbeats 4000000
open Go Go.Eng
attribute [local irreducible] WD RunD PreD Runs CallOK

def rowsN (L : List (List Nat)) : List (List Int) := L.map toN
@[simp] theorem rowsN_length (L : List (List Nat)) : (rowsN L).length = L.length := by simp [rowsN]
theorem rowsN_append (L K : List (List Nat)) : rowsN (L ++ K) = rowsN L ++ rowsN K := by simp [rowsN]
theorem flat_take {α : Type} (f : Nat → List α) (x : Nat) : (List.range (x + 1)).flatMap f = (List.range x).flatMap f ++ f x := by
  rw [List.range_succ, List.flatMap_append]; simp
theorem permsFlat_len (n k : Nat) (l : List Nat) : ∀ x, ((List.range x).flatMap fun x => if x ∈ l then [] else permsF n k (l ++ [x])).length ≤ x * n ^ k
  | 0 => by simp
  | x + 1 => by
    rw [flat_take, List.length_append, Nat.add_mul, Nat.one_mul]
    have h1 := permsFlat_len n k l x
    have h2 : (if x ∈ l then [] else permsF n k (l ++ [x])).length ≤ n ^ k := by
      split
      · simp
      · exact permsF_len n k _
    omega

theorem alOrders_ok (n : Nat) (hn : n ≤ 7) : ∀ (k : Nat) (h : Hp) (v : Value) (l : List Nat), Ints h v (toN l) → l.length + k = n →
    ∃ v' h', CallOK Try.prog 78 #[v, .int .i64 (n : Int)] h v' h' ∧ Adds h h' ∧ RowsG h.next h' v' (rowsN (permsF n k l)) := by
  intro k
  induction k with
  | zero =>
    intro h v l hv hl
    refine callY_L (args := [v, .int .i64 (n : Int)]) 33 _ [.tmp 4] Try.func78 rfl rfl rfl ?_
    have hL := hv.lenD
    have hln := toN_length l
    have hlb : ((l.length : Int) == (n : Int)) = true := by simp; omega
    try simp (disch := first | omega | (simp; done) | fail) [wrap64c, if_pos, if_neg, opAnd, opOr, opXor, opDiff, opShr, opBit, hL, hlb]
    obtain ⟨u, h1, hc1, ha1, _, hA1⟩ := l1Own_ok h v (toN l) hv (by simp; omega)
    have hO := hA1.own (by simp; omega)
    refine callG_c (by simp) (by simp) ?ha (hc1) ?_
    (case ha => simp (disch := first | omega | (simp; done) | fail) [wrap64c, if_pos, if_neg, opAnd, opOr, opXor, opDiff, opShr, opBit, hL, hlb])
    have nt := hO.nt
    have cs := hO.cs
    try simp (disch := first | omega | (simp; done) | fail) [wrap64c, if_pos, if_neg, opAnd, opOr, opXor, opDiff, opShr, opBit, hL, hlb, nt, cs]
    first | refine WY_heap fun h2 q_h2 => ?_ | refine callG_heap fun h2 q_h2 => ?_ | refine callP_heap fun h2 q_h2 => ?_ | refine RY_heap fun h2 q_h2 => ?_ | refine PY_heap fun h2 q_h2 => ?_ | refine doneY_heap fun h2 q_h2 => ?_ | refine loopK_heap fun h2 q_h2 => ?_ | refine thenY_heap fun h2 q_h2 => ?_ | refine thenM_heap fun h2 q_h2 => ?_
    have k2 : Adds h1 h2 := by rw [q_h2]; exact (by first | exact aK | exact kK)
    refine done_ret rfl ⟨ha1.trans k2, .inr ⟨h1.next, true, [u], rfl, ha1.1.1, by simp [q_h2], by simp [q_h2], rfl, fun i hi => ?_⟩⟩
    have hi0 : i = 0 := by simp [permsF] at hi; exact hi
    subst hi0
    exact ⟨u, rfl, ((hO.read.keep k2.1).sub fun o ho => ⟨ho.1, by have := ho.2; omega⟩)⟩
  | succ k ih =>
    intro h v l hv hl
    refine callY_L (args := [v, .int .i64 (n : Int)]) 33 _ [.tmp 4] Try.func78 rfl rfl rfl ?_
    have hL := hv.lenD
    have hln := toN_length l
    have hlb : ((l.length : Int) == (n : Int)) = false := by simp; omega
    have hpow : n ^ k ≤ 7 ^ k := Nat.pow_le_pow_left hn k
    have hpow2 : 7 ^ k ≤ 7 ^ 7 := Nat.pow_le_pow_right (by omega) (by omega)
    have hp7 : (7 : Nat) ^ 7 = 823543 := by decide
    try simp (disch := first | omega | (simp; done) | fail) [wrap64c, if_pos, if_neg, opAnd, opOr, opXor, opDiff, opShr, opBit, hL, hlb]
    refine WD_loopC [0, 1] (fun m tm h' => ∃ x u, m = n - x ∧ tm 5 = u ∧ tm 6 = .int .i64 (x : Int) ∧ (x ≤ n) ∧ (Adds h h') ∧ (RowsG h.next h' u (rowsN ((List.range x).flatMap fun x => if x ∈ l then [] else permsF n k (l ++ [x]))))) _ ⟨0, _, rfl, (by simp (disch := first | omega | (simp; done) | fail) [wrap64c, if_pos, if_neg, opAnd, opOr, opXor, opDiff, opShr, opBit, hL, hlb]), (by simp (disch := first | omega | (simp; done) | fail) [wrap64c, if_pos, if_neg, opAnd, opOr, opXor, opDiff, opShr, opBit, hL, hlb]), (by first | omega | assumption | (simp (disch := first | omega | (simp; done) | fail) [wrap64c, if_pos, if_neg, opAnd, opOr, opXor, opDiff, opShr, opBit, hL, hlb] <;> omega)), (adds_self _), (.nil _ _)⟩ ?_
    rintro m tm h' hFr ⟨x, u, rfl, e5, e6, hx, ha, hu⟩
    simp only [FrameL] at hFr
    obtain ⟨f0_0, f1_0, -⟩ := hFr
    try simp (disch := first | omega | (simp; done) | fail) [wrap64c, if_pos, if_neg, opAnd, opOr, opXor, opDiff, opShr, opBit, hL, hlb] at f0_0 f1_0
    have e0 := f0_0
    have e1 := f1_0
    by_cases hlt : x < n
    · have hs := flat_take (fun x => if x ∈ l then [] else permsF n k (l ++ [x])) x
      have hv1 := hv.keep ha.1
      rename Hp => hq
      try simp (disch := first | omega | (simp; done) | fail) [wrap64c, if_pos, if_neg, opAnd, opOr, opXor, opDiff, opShr, opBit, hL, hlb, e0, e1, e5, e6, hlt]
      refine callG_c (by simp) (by simp) ?ha (l1Has_ok hq v l x hv1) ?_
      (case ha => simp (disch := first | omega | (simp; done) | fail) [wrap64c, if_pos, if_neg, opAnd, opOr, opXor, opDiff, opShr, opBit, hL, hlb, e0, e1, e5, e6, hlt])
      by_cases hm : x ∈ l
      · rw [if_pos hm, List.append_nil] at hs
        try simp (disch := first | omega | (simp; done) | fail) [wrap64c, if_pos, if_neg, opAnd, opOr, opXor, opDiff, opShr, opBit, hL, hlb, e0, e1, e5, e6, hlt, hm]
        refine loopK_next _ ?hm ?hf ⟨x + 1, u, rfl, (by simp (disch := first | omega | (simp; done) | fail) [wrap64c, if_pos, if_neg, opAnd, opOr, opXor, opDiff, opShr, opBit, hL, hlb, e0, e1, e5, e6, hlt, hm] <;> omega), (by simp (disch := first | omega | (simp; done) | fail) [wrap64c, if_pos, if_neg, opAnd, opOr, opXor, opDiff, opShr, opBit, hL, hlb, e0, e1, e5, e6, hlt, hm] <;> omega), (by first | omega | assumption | (simp (disch := first | omega | (simp; done) | fail) [wrap64c, if_pos, if_neg, opAnd, opOr, opXor, opDiff, opShr, opBit, hL, hlb, e0, e1, e5, e6, hlt, hm] <;> omega)), (by first | omega | assumption | (simp (disch := first | omega | (simp; done) | fail) [wrap64c, if_pos, if_neg, opAnd, opOr, opXor, opDiff, opShr, opBit, hL, hlb, e0, e1, e5, e6, hlt, hm] <;> omega)), (by rw [hs]; exact hu)⟩
        (case hm => first | omega | (simp; omega))
        (case hf => simp [FrameL, hL, hlb, e0, e1, e5, e6, hlt, hm, f0_0, f1_0])
      · rw [if_neg hm] at hs
        have hfl := permsFlat_len n k l x
        have hle := permsF_len n k (l ++ [x])
        have hxb : x * n ^ k ≤ 7 * 823543 := Nat.mul_le_mul (by omega) (by omega)
        try simp (disch := first | omega | (simp; done) | fail) [wrap64c, if_pos, if_neg, opAnd, opOr, opXor, opDiff, opShr, opBit, hL, hlb, e0, e1, e5, e6, hlt, hm]
        obtain ⟨w, h1, hc1, ha1, _, hA1⟩ := l1Own_ok hq v (toN l) hv1 (by simp; omega)
        refine callG_c (by simp) (by simp) ?ha (hc1) ?_
        (case ha => simp (disch := first | omega | (simp; done) | fail) [wrap64c, if_pos, if_neg, opAnd, opOr, opXor, opDiff, opShr, opBit, hL, hlb, e0, e1, e5, e6, hlt, hm])
        obtain ⟨w2, h2, hap, hA2, ha2, hn2, hs2⟩ := appI hA1 (x : Int) (by simp; omega) ha1.1.1 ha1 (Nat.le_refl _)
        try simp (disch := first | omega | (simp; done) | fail) [wrap64c, if_pos, if_neg, opAnd, opOr, opXor, opDiff, opShr, opBit, hL, hlb, e0, e1, e5, e6, hlt, hm, hap]
        obtain ⟨y, h3, hc3, ha3, hG3⟩ := ih h2 w2 (l ++ [x]) (by have := (hA2.own (by simp; omega)).ints; rw [← toN_snoc] at this; exact this) (by simp; omega)
        refine callG_c (by simp) (by simp) ?ha (hc3) ?_
        (case ha => simp (disch := first | omega | (simp; done) | fail) [wrap64c, if_pos, if_neg, opAnd, opOr, opXor, opDiff, opShr, opBit, hL, hlb, e0, e1, e5, e6, hlt, hm])
        obtain ⟨ys, hsrc, hyl, hy⟩ := (hG3.read (by rw [rowsN_length]; omega)).src
        have hG := hu.keep rowR_steady (ha2.trans ha3).1
        have hn3 := ha2.1.1
        obtain ⟨u4, h4, hap4, hG4, ha4, hn4, hs4⟩ := GL.append (P := Try.prog) (t := 54) (t' := 54) (z := .slice none 0 0) (b := 24) (e := 30) rowR_steady hG hsrc hyl hy (fun o ho => ⟨by have := ha.1.1; omega, ho.2, fun hob => by have := (hu.obj hob).2; omega⟩)
          (by simp) (by simp) (by simp) rfl (by simp) (by decide) (by decide) (by simp) (by rw [rowsN_length, rowsN_length]; omega) (by have := ha.1.1; have := ha3.1.1; omega) (ha.trans (ha2.trans ha3)) (Nat.le_refl _)
        try simp (disch := first | omega | (simp; done) | fail) [wrap64c, if_pos, if_neg, opAnd, opOr, opXor, opDiff, opShr, opBit, hL, hlb, e0, e1, e5, e6, hlt, hm, hap4]
        refine loopK_next _ ?hm ?hf ⟨x + 1, u4, rfl, (by simp (disch := first | omega | (simp; done) | fail) [wrap64c, if_pos, if_neg, opAnd, opOr, opXor, opDiff, opShr, opBit, hL, hlb, e0, e1, e5, e6, hlt, hm] <;> omega), (by simp (disch := first | omega | (simp; done) | fail) [wrap64c, if_pos, if_neg, opAnd, opOr, opXor, opDiff, opShr, opBit, hL, hlb, e0, e1, e5, e6, hlt, hm] <;> omega), (by first | omega | assumption | (simp (disch := first | omega | (simp; done) | fail) [wrap64c, if_pos, if_neg, opAnd, opOr, opXor, opDiff, opShr, opBit, hL, hlb, e0, e1, e5, e6, hlt, hm] <;> omega)), ha4, (by rw [hs, rowsN_append]; exact hG4)⟩
        (case hm => first | omega | (simp; omega))
        (case hf => simp [FrameL, hL, hlb, e0, e1, e5, e6, hlt, hm, f0_0, f1_0])
    · have hxe : x = n := by omega
      rw [hxe] at hu
      try simp (disch := first | omega | (simp; done) | fail) [wrap64c, if_pos, if_neg, opAnd, opOr, opXor, opDiff, opShr, opBit, hL, hlb, e0, e1, e5, e6, hlt]
      exact done_ret rfl ⟨ha, hu⟩

theorem firstNames_ok (h : Hp) (n : Nat) (hn : n ≤ 7) : ∃ v' h', CallOK Try.prog 128 #[.int .i64 (n : Int)] h v' h' ∧ Adds h h' ∧ IntsO (Btw h.next h'.next) h' v' (toN (List.range n)) := by
  refine callY_L (args := [.int .i64 (n : Int)]) 16 _ [.tmp 2] Try.func128 rfl rfl rfl ?_
  try simp (disch := first | omega | (simp; done) | fail) [wrap64c, if_pos, if_neg, opAnd, opOr, opXor, opDiff, opShr, opBit]
  refine WD_loopC [6] (fun m tm h' => ∃ j u, m = n - j ∧ tm 3 = u ∧ tm 7 = .int .i64 (j : Int) ∧ (j ≤ n) ∧ (Adds h h') ∧ (IntsA h.next h' u (toN (List.range j)))) _ ⟨0, _, rfl, (by simp (disch := first | omega | (simp; done) | fail) [wrap64c, if_pos, if_neg, opAnd, opOr, opXor, opDiff, opShr, opBit]), (by simp (disch := first | omega | (simp; done) | fail) [wrap64c, if_pos, if_neg, opAnd, opOr, opXor, opDiff, opShr, opBit]), (by first | omega | assumption | (simp (disch := first | omega | (simp; done) | fail) [wrap64c, if_pos, if_neg, opAnd, opOr, opXor, opDiff, opShr, opBit] <;> omega)), (by first | exact aK | exact kK), (.lit (ex := true) (Nat.le_refl _) (by simp) (by simp))⟩ ?_
  rintro m tm h' hFr ⟨j, u, rfl, e3, e7, hj, ha, hu⟩
  simp only [FrameL] at hFr
  obtain ⟨f6_0, -⟩ := hFr
  try simp (disch := first | omega | (simp; done) | fail) [wrap64c, if_pos, if_neg, opAnd, opOr, opXor, opDiff, opShr, opBit] at f6_0
  have e6 := f6_0
  by_cases hlt : j < n
  · try simp (disch := first | omega | (simp; done) | fail) [wrap64c, if_pos, if_neg, opAnd, opOr, opXor, opDiff, opShr, opBit, e3, e6, e7, hlt]
    obtain ⟨u2, h2', hap, hu2, ha2, hn2, hs2⟩ := appI hu (j : Int) (by simp; omega) ha.1.1 ha (Nat.le_refl _)
    try simp (disch := first | omega | (simp; done) | fail) [wrap64c, if_pos, if_neg, opAnd, opOr, opXor, opDiff, opShr, opBit, e3, e6, e7, hlt, hap]
    refine loopK_next _ ?hm ?hf ⟨j + 1, u2, rfl, (by simp (disch := first | omega | (simp; done) | fail) [wrap64c, if_pos, if_neg, opAnd, opOr, opXor, opDiff, opShr, opBit, e3, e6, e7, hlt] <;> omega), (by simp (disch := first | omega | (simp; done) | fail) [wrap64c, if_pos, if_neg, opAnd, opOr, opXor, opDiff, opShr, opBit, e3, e6, e7, hlt] <;> omega), (by first | omega | assumption | (simp (disch := first | omega | (simp; done) | fail) [wrap64c, if_pos, if_neg, opAnd, opOr, opXor, opDiff, opShr, opBit, e3, e6, e7, hlt] <;> omega)), (by first | omega | assumption | (simp (disch := first | omega | (simp; done) | fail) [wrap64c, if_pos, if_neg, opAnd, opOr, opXor, opDiff, opShr, opBit, e3, e6, e7, hlt] <;> omega)), (by rw [List.range_succ, toN_snoc]; exact hu2)⟩
    (case hm => first | omega | (simp; omega))
    (case hf => simp [FrameL, e3, e6, e7, hlt, f6_0])
  · have e : j = n := by omega
    rw [e] at hu
    try simp (disch := first | omega | (simp; done) | fail) [wrap64c, if_pos, if_neg, opAnd, opOr, opXor, opDiff, opShr, opBit, e3, e6, e7, hlt]
    exact done_ret rfl ⟨ha, hu.own (by simp; omega)⟩

theorem compare_ok (h : Hp) (v w : Value) (N M : Int) (X Y : List Int) (hv : Space h v N X) (hw : Space h w M Y) : CallOK Try.prog 74 #[v, w] h (.int .i64 (cmpL X Y)) h := by
  refine callY_P 10 _ [.tmp 4] Try.func74 rfl rfl rfl (by first | rfl | simp) ?_
  obtain ⟨b, rfl, hX⟩ := hv
  obtain ⟨c, rfl, hY⟩ := hw
  try simp (disch := first | omega | (simp; done) | fail) [wrap64c, if_pos, if_neg, opAnd, opOr, opXor, opDiff, opShr, opBit]
  first | refine WY_heap fun h0 q_h0 => ?_ | refine callG_heap fun h0 q_h0 => ?_ | refine callP_heap fun h0 q_h0 => ?_ | refine RY_heap fun h0 q_h0 => ?_ | refine PY_heap fun h0 q_h0 => ?_ | refine doneY_heap fun h0 q_h0 => ?_ | refine loopK_heap fun h0 q_h0 => ?_ | refine thenY_heap fun h0 q_h0 => ?_ | refine thenM_heap fun h0 q_h0 => ?_
  have k0 : Adds h h0 := by rw [q_h0]; exact (by first | exact aK | exact kK)
  refine callG_c (by simp) (by simp) ?ha (slicesCompare_ok h0 b c X Y (hX.keep k0.1) (hY.keep k0.1)) ?_
  (case ha => simp (disch := first | omega | (simp; done) | fail) [wrap64c, if_pos, if_neg, opAnd, opOr, opXor, opDiff, opShr, opBit])
  try simp (disch := first | omega | (simp; done) | fail) [wrap64c, if_pos, if_neg, opAnd, opOr, opXor, opDiff, opShr, opBit]
  exact done_ret rfl (by simp [k0.1])

/-- A space with few items. -/
noncomputable def fewB (N : Int) (X : List Int) : Bool := spB N X && decide (N ≤ 5)
theorem fewB_true {N : Int} {X : List Int} (h : fewB N X = true) : ∃ n xs, N = (n : Nat) ∧ X = toN xs ∧ SpGood n xs ∧ n ≤ 5 := by
  unfold fewB at h
  simp only [Bool.and_eq_true, decide_eq_true_eq] at h
  obtain ⟨n, xs, h1, h2, g⟩ := spB_true h.1
  exact ⟨n, xs, h1, h2, g, by omega⟩
theorem isFew_ok (h : Hp) (v : Value) (N : Int) (X : List Int) (hv : Space h v N X) (hl : X.length < 2 ^ 40) : CallOK Try.prog 80 #[v] h (.bool (fewB N X)) h := by
  refine callY_P 10 _ [.tmp 2] Try.func80 rfl rfl rfl (by first | rfl | simp) ?_
  obtain ⟨b, rfl, hX⟩ := hv
  refine WD_first ?_
  try simp (disch := first | omega | (simp; done) | fail) [wrap64c, if_pos, if_neg, opAnd, opOr, opXor, opDiff, opShr, opBit]
  refine stopK_heap fun h0 q_h0 => ?_
  refine stopK_go ?_
  have g_h0 : h0.get h.next = .cells [.int .i64 N, b] true true 1 := by simp [q_h0]
  have k_h0 : Adds h h0 := by rw [q_h0]; exact (by first | exact aK | exact kK)
  have n_h0 : h.next < h0.next := by simp [q_h0]; try omega
  try simp (disch := first | omega | (simp; done) | fail) [wrap64c, if_pos, if_neg, opAnd, opOr, opXor, opDiff, opShr, opBit, g_h0]
  refine callG_c (by simp) (by simp) ?ha (isSpace_ok h0 (.agg #[.int .i64 N, b]) N X (.mk (hX.keep k_h0.1)) hl) ?_
  (case ha => simp (disch := first | omega | (simp; done) | fail) [wrap64c, if_pos, if_neg, opAnd, opOr, opXor, opDiff, opShr, opBit, g_h0])
  cases c1 : spB N X
  · try simp (disch := first | omega | (simp; done) | fail) [wrap64c, if_pos, if_neg, opAnd, opOr, opXor, opDiff, opShr, opBit, g_h0, c1]
    exact done_ret rfl (by simp [fewB, c1, k_h0.1])
  · try simp (disch := first | omega | (simp; done) | fail) [wrap64c, if_pos, if_neg, opAnd, opOr, opXor, opDiff, opShr, opBit, g_h0, c1]
    exact done_ret rfl (by simp [fewB, c1, k_h0.1])
theorem alFew_ok (h : Hp) (v : Value) (N : Int) (X : List Int) (hv : Space h v N X) (hl : X.length < 2 ^ 40) : CallOK Try.prog 77 #[v] h (.bool (fewB N X)) h := by
  refine callY_P 10 _ [.tmp 2] Try.func77 rfl rfl rfl (by first | rfl | simp) ?_
  obtain ⟨b, rfl, hX⟩ := hv
  refine WD_first ?_
  try simp (disch := first | omega | (simp; done) | fail) [wrap64c, if_pos, if_neg, opAnd, opOr, opXor, opDiff, opShr, opBit]
  refine stopK_heap fun h0 q_h0 => ?_
  refine stopK_go ?_
  have g_h0 : h0.get h.next = .cells [.int .i64 N, b] true true 1 := by simp [q_h0]
  have k_h0 : Adds h h0 := by rw [q_h0]; exact (by first | exact aK | exact kK)
  have n_h0 : h.next < h0.next := by simp [q_h0]; try omega
  try simp (disch := first | omega | (simp; done) | fail) [wrap64c, if_pos, if_neg, opAnd, opOr, opXor, opDiff, opShr, opBit, g_h0]
  refine callG_c (by simp) (by simp) ?ha (spGood_ok h0 (.agg #[.int .i64 N, b]) N X (.mk (hX.keep k_h0.1)) hl) ?_
  (case ha => simp (disch := first | omega | (simp; done) | fail) [wrap64c, if_pos, if_neg, opAnd, opOr, opXor, opDiff, opShr, opBit, g_h0])
  cases c1 : spB N X
  · try simp (disch := first | omega | (simp; done) | fail) [wrap64c, if_pos, if_neg, opAnd, opOr, opXor, opDiff, opShr, opBit, g_h0, c1]
    exact done_ret rfl (by simp [fewB, c1, k_h0.1])
  · try simp (disch := first | omega | (simp; done) | fail) [wrap64c, if_pos, if_neg, opAnd, opOr, opXor, opDiff, opShr, opBit, g_h0, c1]
    exact done_ret rfl (by simp [fewB, c1, k_h0.1])
end Go.Proofs.Ytnjabaeajjhliaa
