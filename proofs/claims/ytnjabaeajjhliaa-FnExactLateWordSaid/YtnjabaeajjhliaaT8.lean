/- Spaces of all sets with a property; the free space; all orders of n items. -/
import Derived.Test.YtnjabaeajjhliaaT7
namespace Go.Proofs.Ytnjabaeajjhliaa
set_option linter.unusedSimpArgs false
set_option linter.unusedVariables false
set_option maxHeartbeats 4000000
open Go Go.Eng
attribute [local irreducible] WD RunD PreD Runs CallOK

theorem those_ok (fid : Nat) (cap : Array Value) (p : Nat → Bool) (n : Nat) (hn : n ≤ 7) (P : Hp → Prop) (base : Nat) (hstab : ∀ h h', P h → base ≤ h.next → h.next ≤ h'.next → (∀ o, o < base → h'.get o = h.get o) → P h')
    (hf : ∀ h (a : Nat), P h → base ≤ h.next → a < bit n → CallOK Try.prog fid (#[.int .i64 (a : Int)] ++ cap) h (.bool (p a)) h) (hfn : fnOK Try.prog fid = true) (h : Hp) (hP : P h) (hb : base ≤ h.next) :
    ∃ v' h', CallOK Try.prog 149 #[.int .i64 (n : Int), .func (.func fid) #[] cap] h v' h' ∧ Adds h h' ∧ SpaceO (Btw h.next h'.next) h' v' n (toN (famK p (bit n))) := by
  refine callY_L (args := [.int .i64 (n : Int), .func (.func fid) #[] cap]) 25 _ [.cell 4 32] Try.func149 rfl rfl rfl ?_
  have hb7 := bit7 hn
  have hfn1 := hfn
  try simp (disch := first | omega | (simp; done) | fail) [wrap64c, if_pos, if_neg, opAnd, opOr, opXor, opDiff, opShr, opBit, hfn1, putCells]
  first | refine WY_heap fun h0 q_h0 => ?_ | refine callG_heap fun h0 q_h0 => ?_ | refine callP_heap fun h0 q_h0 => ?_ | refine RY_heap fun h0 q_h0 => ?_ | refine PY_heap fun h0 q_h0 => ?_ | refine doneY_heap fun h0 q_h0 => ?_ | refine loopK_heap fun h0 q_h0 => ?_ | refine thenY_heap fun h0 q_h0 => ?_ | refine thenM_heap fun h0 q_h0 => ?_
  have k0 : Adds h h0 := by rw [q_h0]; exact (by first | exact aK | exact kK)
  have n0 : h0.next = h.next + 2 := by simp [q_h0]
  have g1 : h0.get h.next = .cells [.int .i64 0, .slice none 0 0] true true 1 := by simp [q_h0]
  have g2 : h0.get (h.next + 1) = .cells [.int .i64 (n : Int), .slice none 0 0] true true 1 := by simp [q_h0]
  try simp (disch := first | omega | (simp; done) | fail) [wrap64c, if_pos, if_neg, opAnd, opOr, opXor, opDiff, opShr, opBit, hfn1]
  refine WD_loopC [1, 4, 5, 10] (fun m tm h' => ∃ k u, m = bit n - k ∧ tm 11 = .int .i64 (k : Int) ∧ (k ≤ bit n) ∧ (Adds h h') ∧ (h0.next ≤ h'.next) ∧ (h'.get h.next = .cells [.int .i64 0, .slice none 0 0] true true 1) ∧ (h'.get (h.next + 1) = .cells [.int .i64 (n : Int), u] true true 1) ∧ (IntsA h0.next h' u (toN (famK p k)))) _ ⟨0, .slice none 0 0, rfl, (by simp (disch := first | omega | (simp; done) | fail) [wrap64c, if_pos, if_neg, opAnd, opOr, opXor, opDiff, opShr, opBit, hfn1]), (by first | omega | assumption | (simp (disch := first | omega | (simp; done) | fail) [wrap64c, if_pos, if_neg, opAnd, opOr, opXor, opDiff, opShr, opBit, hfn1] <;> omega)), k0, (Nat.le_refl _), g1, g2, (by simp [famK, toN]; exact IntsA.nil _ _)⟩ ?_
  rintro m tm h' hFr ⟨k, u, rfl, e11, hk, ha, ha0, hg1, hg2, hu⟩
  simp only [FrameL] at hFr
  obtain ⟨f1_0, f4_0, f5_0, f10_0, -⟩ := hFr
  try simp (disch := first | omega | (simp; done) | fail) [wrap64c, if_pos, if_neg, opAnd, opOr, opXor, opDiff, opShr, opBit, hfn1] at f1_0 f4_0 f5_0 f10_0
  have e1 := f1_0
  have e4 := f4_0
  have e5 := f5_0
  have e10 := f10_0
  have P1 := hstab h h' hP hb ha.1.1 fun o ho => ha.1.2 o (by omega)
  have hb1 : base ≤ h'.next := by have := ha.1.1; omega
  by_cases hlt : k < bit n
  · have hs := famK_succ p k
    have hle := famK_len p k
    try simp (disch := first | omega | (simp; done) | fail) [wrap64c, if_pos, if_neg, opAnd, opOr, opXor, opDiff, opShr, opBit, hfn1, e1, e4, e5, e10, e11, hg1, hg2, hlt]
    refine callG_f (fst := #[]) (cap := cap) (by simp) (by simp) ?hf ?hk ?ha (hf h' k P1 hb1 hlt) ?_
    (case hf => simp (disch := first | omega | (simp; done) | fail) [wrap64c, if_pos, if_neg, opAnd, opOr, opXor, opDiff, opShr, opBit, hfn1, e1, e4, e5, e10, e11, hg1, hg2, hlt]; try rfl)
    (case hk => simp (disch := first | omega | (simp; done) | fail) [wrap64c, if_pos, if_neg, opAnd, opOr, opXor, opDiff, opShr, opBit, hfn1, e1, e4, e5, e10, e11, hg1, hg2, hlt])
    (case ha => simp (disch := first | omega | (simp; done) | fail) [wrap64c, if_pos, if_neg, opAnd, opOr, opXor, opDiff, opShr, opBit, hfn1, e1, e4, e5, e10, e11, hg1, hg2, hlt])
    cases hc : p k
    · rw [if_neg (by simp [hc])] at hs
      try simp (disch := first | omega | (simp; done) | fail) [wrap64c, if_pos, if_neg, opAnd, opOr, opXor, opDiff, opShr, opBit, hfn1, e1, e4, e5, e10, e11, hg1, hg2, hlt, hc]
      refine loopK_next _ ?hm ?hf ⟨k + 1, u, rfl, (by simp (disch := first | omega | (simp; done) | fail) [wrap64c, if_pos, if_neg, opAnd, opOr, opXor, opDiff, opShr, opBit, hfn1, e1, e4, e5, e10, e11, hg1, hg2, hlt, hc] <;> omega), (by first | omega | assumption | (simp (disch := first | omega | (simp; done) | fail) [wrap64c, if_pos, if_neg, opAnd, opOr, opXor, opDiff, opShr, opBit, hfn1, e1, e4, e5, e10, e11, hg1, hg2, hlt, hc] <;> omega)), (by first | omega | assumption | (simp (disch := first | omega | (simp; done) | fail) [wrap64c, if_pos, if_neg, opAnd, opOr, opXor, opDiff, opShr, opBit, hfn1, e1, e4, e5, e10, e11, hg1, hg2, hlt, hc] <;> omega)), (by first | omega | assumption | (simp (disch := first | omega | (simp; done) | fail) [wrap64c, if_pos, if_neg, opAnd, opOr, opXor, opDiff, opShr, opBit, hfn1, e1, e4, e5, e10, e11, hg1, hg2, hlt, hc] <;> omega)), (by first | omega | assumption | (simp (disch := first | omega | (simp; done) | fail) [wrap64c, if_pos, if_neg, opAnd, opOr, opXor, opDiff, opShr, opBit, hfn1, e1, e4, e5, e10, e11, hg1, hg2, hlt, hc] <;> omega)), (by first | omega | assumption | (simp (disch := first | omega | (simp; done) | fail) [wrap64c, if_pos, if_neg, opAnd, opOr, opXor, opDiff, opShr, opBit, hfn1, e1, e4, e5, e10, e11, hg1, hg2, hlt, hc] <;> omega)), (by rw [hs]; exact hu)⟩
      (case hm => first | omega | (simp; omega))
      (case hf => simp [FrameL, hfn1, e1, e4, e5, e10, e11, hg1, hg2, hlt, hc, f1_0, f4_0, f5_0, f10_0])
    · rw [if_pos hc] at hs
      have ntu := (hu.own (by simp; omega)).nt
      have csu := (hu.own (by simp; omega)).cs
      try simp (disch := first | omega | (simp; done) | fail) [wrap64c, if_pos, if_neg, opAnd, opOr, opXor, opDiff, opShr, opBit, hfn1, e1, e4, e5, e10, e11, hg1, hg2, hlt, hc, ntu, csu]
      obtain ⟨u2, h2, hap, hu2, ha2, hn2, hs2⟩ := appI hu (k : Int) (by simp; omega) ha0 ha (by omega)
      have gq : h2.get (h.next + 1) = .cells [.int .i64 (n : Int), u] true true 1 := by rw [hs2 _ (by omega) (by omega)]; exact hg2
      have gq1 : h2.get h.next = .cells [.int .i64 0, .slice none 0 0] true true 1 := by rw [hs2 _ (by omega) (by omega)]; exact hg1
      have nt2 := (hu2.own (by simp; omega)).nt
      have cs2 := (hu2.own (by simp; omega)).cs
      try simp (disch := first | omega | (simp; done) | fail) [wrap64c, if_pos, if_neg, opAnd, opOr, opXor, opDiff, opShr, opBit, hfn1, e1, e4, e5, e10, e11, hg1, hg2, hlt, hc, ntu, csu, gq, gq1, nt2, cs2, hap, putCells]
      refine loopK_next _ ?hm ?hf ⟨k + 1, u2, rfl, (by simp (disch := first | omega | (simp; done) | fail) [wrap64c, if_pos, if_neg, opAnd, opOr, opXor, opDiff, opShr, opBit, hfn1, e1, e4, e5, e10, e11, hg1, hg2, hlt, hc, ntu, csu, gq, gq1, nt2, cs2] <;> omega), (by first | omega | assumption | (simp (disch := first | omega | (simp; done) | fail) [wrap64c, if_pos, if_neg, opAnd, opOr, opXor, opDiff, opShr, opBit, hfn1, e1, e4, e5, e10, e11, hg1, hg2, hlt, hc, ntu, csu, gq, gq1, nt2, cs2] <;> omega)), (by first | exact aK | exact kK), (by simp; omega), (by simp [gq1]), (by simp), (by rw [hs, toN_snoc]; exact IntsA.putB hu2 (by omega) _)⟩
      (case hm => first | omega | (simp; omega))
      (case hf => simp [FrameL, hfn1, e1, e4, e5, e10, e11, hg1, hg2, hlt, hc, ntu, csu, gq, gq1, nt2, cs2, f1_0, f4_0, f5_0, f10_0])
  · have e : k = bit n := by omega
    subst e
    have hle := famK_len p (bit n)
    have ntu := (hu.own (by simp; omega)).nt
    have csu := (hu.own (by simp; omega)).cs
    try simp (disch := first | omega | (simp; done) | fail) [wrap64c, if_pos, if_neg, opAnd, opOr, opXor, opDiff, opShr, opBit, hfn1, e1, e4, e5, e10, e11, hg1, hg2, hlt, ntu, csu, putCells]
    have hn1 := ha.1.1
    refine done_ret (by simp [putCells, e4]; rfl) ⟨(by first | exact aK | exact kK), u, by simp, ?_⟩
    exact ((IntsA.putB hu (show h.next < h0.next by omega) _).own (by simp; omega)).sub fun o ho => ⟨by have := ho.1; omega, by have := ho.2; simpa using this⟩

theorem yes_ok (h : Hp) (a : Value) : CallOK Try.prog 167 #[a] h (.bool true) h := by
  refine callY_P 3 _ [.tmp 2] Try.func167 rfl rfl rfl (by first | rfl | simp) ?_
  try simp (disch := first | omega | (simp; done) | fail) [wrap64c, if_pos, if_neg, opAnd, opOr, opXor, opDiff, opShr, opBit]
  exact done_ret rfl (by simp)
theorem freeSpace_ok (h : Hp) (n : Nat) (h1 : 1 ≤ n) (h7 : n ≤ 7) :
    ∃ v' h', CallOK Try.prog 131 #[.int .i64 (n : Int)] h v' h' ∧ Adds h h' ∧ ∃ b, v' = .tuple #[.agg #[.int .i64 (n : Int), b], .bool true] ∧ IntsO (Btw h.next h'.next) h' b (toN (List.range (bit n))) := by
  refine callY_L (args := [.int .i64 (n : Int)]) 10 _ [.cell 2 32, .tmp 3] Try.func131 rfl rfl rfl ?_
  have hz := sizeB_of h1 h7
  try simp (disch := first | omega | (simp; done) | fail) [wrap64c, if_pos, if_neg, opAnd, opOr, opXor, opDiff, opShr, opBit, hz]
  refine callG_c (by simp) (by simp) ?ha (isSize_ok _ (n : Int)) ?_
  (case ha => simp (disch := first | omega | (simp; done) | fail) [wrap64c, if_pos, if_neg, opAnd, opOr, opXor, opDiff, opShr, opBit, hz])
  try simp (disch := first | omega | (simp; done) | fail) [wrap64c, if_pos, if_neg, opAnd, opOr, opXor, opDiff, opShr, opBit, hz]
  first | refine WY_heap fun h0 q_h0 => ?_ | refine callG_heap fun h0 q_h0 => ?_ | refine callP_heap fun h0 q_h0 => ?_ | refine RY_heap fun h0 q_h0 => ?_ | refine PY_heap fun h0 q_h0 => ?_ | refine doneY_heap fun h0 q_h0 => ?_ | refine loopK_heap fun h0 q_h0 => ?_ | refine thenY_heap fun h0 q_h0 => ?_ | refine thenM_heap fun h0 q_h0 => ?_
  have k0 : Adds h h0 := by rw [q_h0]; exact (by first | exact aK | exact kK)
  have g0 : h0.get h.next = .cells [.int .i64 0, .slice none 0 0] true true 1 := by simp [q_h0]
  have n0 : h0.next = h.next + 1 := by simp [q_h0]
  obtain ⟨v1, h2, hc1, ha1, b, rfl, hb⟩ := those_ok 167 #[] (fun _ => true) n h7 (fun _ => True) 0 (fun _ _ _ _ _ _ => trivial) (fun h a _ _ _ => yes_ok h _) (by simp) h0 trivial (Nat.zero_le _)
  refine callG_c (by simp) (by simp) ?ha (hc1) ?_
  (case ha => simp (disch := first | omega | (simp; done) | fail) [wrap64c, if_pos, if_neg, opAnd, opOr, opXor, opDiff, opShr, opBit, hz])
  have nt := hb.nt
  have cs := hb.cs
  have g1 : h2.get h.next = .cells [.int .i64 0, .slice none 0 0] true true 1 := by rw [ha1.1.2 _ (by omega)]; exact g0
  try simp (disch := first | omega | (simp; done) | fail) [wrap64c, if_pos, if_neg, opAnd, opOr, opXor, opDiff, opShr, opBit, hz, nt, cs, g1, putCells]
  have A := k0.trans ha1
  refine done_ret (by simp [putCells]; rfl) ⟨(by first | exact aK | exact kK), b, by simp, ?_⟩
  have e : famK (fun _ => true) (bit n) = List.range (bit n) := by unfold famK; simp
  rw [e] at hb
  exact (hb.same (Same.put (Same.refl _ _) (by unfold Btw; omega) _)).sub fun o ho => ⟨by have := ho.1; omega, by have := ho.2; simpa using this⟩

theorem cloneNil_ok (h : Hp) : CallOK Try.prog 140 #[.slice none 0 0] h (.slice none 0 0) h := by
  refine callY_P 8 _ [.tmp 2] Try.func140 rfl rfl rfl (by first | rfl | simp) ?_
  try simp (disch := first | omega | (simp; done) | fail) [wrap64c, if_pos, if_neg, opAnd, opOr, opXor, opDiff, opShr, opBit, Try.underlying30]
  exact done_ret rfl (by simp)
theorem setOfNil_ok (h : Hp) (v : Value) (N : Int) (xs : List Nat) (hv : Space h v N (toN xs)) (hx : ∀ x ∈ xs, x < 128) (hl : xs.length < 2 ^ 40) :
    CallOK Try.prog 144 #[v, .slice none 0 0] h (.tuple #[.int .i64 0, .bool true]) h := by
  refine callY_P 48 _ [.tmp 4, .tmp 5] Try.func144 rfl rfl rfl (by first | rfl | simp) ?_
  obtain ⟨b, rfl, hX⟩ := hv
  refine WD_first ?_
  try simp (disch := first | omega | (simp; done) | fail) [wrap64c, if_pos, if_neg, opAnd, opOr, opXor, opDiff, opShr, opBit]
  refine stopK_heap fun h0 q_h0 => ?_
  refine stopK_go ?_
  have g_h0 : h0.get h.next = .cells [.int .i64 N, b] true true 1 := by simp [q_h0]
  have k_h0 : Adds h h0 := by rw [q_h0]; exact (by first | exact aK | exact kK)
  have n_h0 : h.next < h0.next := by simp [q_h0]; try omega
  try simp (disch := first | omega | (simp; done) | fail) [wrap64c, if_pos, if_neg, opAnd, opOr, opXor, opDiff, opShr, opBit, g_h0]
  obtain ⟨_, h1, hc1, o, rfl, ha1, hr⟩ := family_ok h0 (.agg #[.int .i64 N, b]) N xs (.mk (hX.keep k_h0.1)) hx hl
  refine callG_c (by simp) (by simp) ?ha (hc1) ?_
  (case ha => simp (disch := first | omega | (simp; done) | fail) [wrap64c, if_pos, if_neg, opAnd, opOr, opXor, opDiff, opShr, opBit, g_h0])
  try simp (disch := first | omega | (simp; done) | fail) [wrap64c, if_pos, if_neg, opAnd, opOr, opXor, opDiff, opShr, opBit, g_h0]
  refine WD_loopC [2, 6, 12, 13] (fun m tm h' => m = 0 ∧ h1 = h' ∧ tm 7 = .int .i64 0 ∧ tm 14 = .int .i64 0) _ ⟨rfl, rfl, (by simp (disch := first | omega | (simp; done) | fail) [wrap64c, if_pos, if_neg, opAnd, opOr, opXor, opDiff, opShr, opBit, g_h0]), (by simp (disch := first | omega | (simp; done) | fail) [wrap64c, if_pos, if_neg, opAnd, opOr, opXor, opDiff, opShr, opBit, g_h0])⟩ ?_
  rintro m tm h' hFr ⟨rfl, rfl, e7, e14⟩
  simp only [FrameL] at hFr
  obtain ⟨f2_0, f6_0, f12_0, f13_0, -⟩ := hFr
  try simp (disch := first | omega | (simp; done) | fail) [wrap64c, if_pos, if_neg, opAnd, opOr, opXor, opDiff, opShr, opBit, g_h0] at f2_0 f6_0 f12_0 f13_0
  have e2 := f2_0
  have e6 := f6_0
  have e12 := f12_0
  have e13 := f13_0
  try simp (disch := first | omega | (simp; done) | fail) [wrap64c, if_pos, if_neg, opAnd, opOr, opXor, opDiff, opShr, opBit, g_h0, e2, e6, e7, e12, e13, e14]
  exact done_ret rfl (by simp [(k_h0.trans ha1).1])

theorem words_ok {σ : Type} (P : σ → (Nat → Prop) → Hp → Prop) (step : σ → List Nat → σ) (Good : List Nat → Prop) (base : Nat) (S : Nat → Prop) (fid : Nat) (dc : Array Value) (D : Doer P step Good base S fid dc) (n : Nat) (xs : List Nat) (g : SpGood n xs) (h : Hp) (b : Value) (s : σ)
    (hb : IntsF (fun x => x < base ∧ ¬ S x) h b (toN xs)) (hP : P s (fun _ => False) h) (hbase : base ≤ h.next) (hgood : ∀ w ∈ wordsF (fam xs) n n [] 0, Good w) :
    ∃ u h', CallOK Try.prog 90 #[.agg #[.int .i64 (n : Int), b], .slice none 0 0, .func (.func fid) #[] dc] h u h' ∧ Wr S h h' ∧ ∃ T, P ((wordsF (fam xs) n n [] 0).foldl step s) T h' ∧ ∀ o, T o → h.next ≤ o ∧ o < h'.next := by
  refine callY_L (args := [.agg #[.int .i64 (n : Int), b], .slice none 0 0, .func (.func fid) #[] dc]) 26 _ [] Try.func90 rfl rfl rfl ?_
  have hl7 := g.len7
  try simp (disch := first | omega | (simp; done) | fail) [wrap64c, if_pos, if_neg, opAnd, opOr, opXor, opDiff, opShr, opBit]
  first | refine WY_heap fun h0 q_h0 => ?_ | refine callG_heap fun h0 q_h0 => ?_ | refine callP_heap fun h0 q_h0 => ?_ | refine RY_heap fun h0 q_h0 => ?_ | refine PY_heap fun h0 q_h0 => ?_ | refine doneY_heap fun h0 q_h0 => ?_ | refine loopK_heap fun h0 q_h0 => ?_ | refine thenY_heap fun h0 q_h0 => ?_ | refine thenM_heap fun h0 q_h0 => ?_
  have k0 : Adds h h0 := by rw [q_h0]; exact (by first | exact aK | exact kK)
  have n0 : h0.next = h.next + 2 := by simp [q_h0]
  have g1 : h0.get h.next = .cells [.int .i64 (n : Int), b] true true 1 := by simp [q_h0]
  have g2 : h0.get (h.next + 1) = .cells [.func (.func fid) #[] dc] true true 1 := by simp [q_h0]
  obtain ⟨_, h1, hc1, fo, rfl, ha1, hfo1, hfo2, hgf⟩ := family_ok h0 (.agg #[.int .i64 (n : Int), b]) n xs (.mk (hb.ints.keep k0.1)) g.lt7 (by omega)
  try simp (disch := first | omega | (simp; done) | fail) [wrap64c, if_pos, if_neg, opAnd, opOr, opXor, opDiff, opShr, opBit]
  refine callG_c (by simp) (by simp) ?ha (hc1) ?_
  (case ha => simp (disch := first | omega | (simp; done) | fail) [wrap64c, if_pos, if_neg, opAnd, opOr, opXor, opDiff, opShr, opBit])
  try simp (disch := first | omega | (simp; done) | fail) [wrap64c, if_pos, if_neg, opAnd, opOr, opXor, opDiff, opShr, opBit]
  refine callG_c (by simp) (by simp) ?ha (cloneNil_ok h1) ?_
  (case ha => simp (disch := first | omega | (simp; done) | fail) [wrap64c, if_pos, if_neg, opAnd, opOr, opXor, opDiff, opShr, opBit])
  have n1 := ha1.1.1
  have g11 : h1.get h.next = .cells [.int .i64 (n : Int), b] true true 1 := by rw [ha1.1.2 _ (by omega)]; exact g1
  have g21 : h1.get (h.next + 1) = .cells [.func (.func fid) #[] dc] true true 1 := by rw [ha1.1.2 _ (by omega)]; exact g2
  try simp (disch := first | omega | (simp; done) | fail) [wrap64c, if_pos, if_neg, opAnd, opOr, opXor, opDiff, opShr, opBit, putCells]
  first | refine WY_heap fun h2 q_h2 => ?_ | refine callG_heap fun h2 q_h2 => ?_ | refine callP_heap fun h2 q_h2 => ?_ | refine RY_heap fun h2 q_h2 => ?_ | refine PY_heap fun h2 q_h2 => ?_ | refine doneY_heap fun h2 q_h2 => ?_ | refine loopK_heap fun h2 q_h2 => ?_ | refine thenY_heap fun h2 q_h2 => ?_ | refine thenM_heap fun h2 q_h2 => ?_
  have k2 : Adds h1 h2 := by rw [q_h2]; exact (by first | exact aK | exact kK)
  have n2 : h2.next = h1.next + 4 := by simp [q_h2]
  have hn0 := (k0.trans ha1).1.1
  have A2 := (k0.trans ha1).trans k2
  have hw : WSt base S ⟨h.next, h.next + 1, fo, h1.next, h1.next + 1, h1.next + 2, h1.next + 3, h1.next + 4⟩ n (fam xs) b (toN xs) (.func (.func fid) #[] dc) h2 [] (.slice none 0 0) := by
    constructor
    · dsimp only; omega
    · dsimp only; rw [k2.1.2 _ (by omega)]; exact g11
    · exact hb.keep A2.1
    · dsimp only; rw [k2.1.2 _ (by omega)]; exact g21
    · dsimp only; rw [k2.1.2 _ (by omega)]; exact hgf
    · simp [q_h2, show ¬ h1.next = h1.next + 1 + 2 by omega]
    · simp [q_h2]
    · simp [q_h2]
    · simp [q_h2]
    · exact WS.nil _ _
  have g22 : h2.get h.next = .cells [.int .i64 (n : Int), b] true true 1 := hw.gs
  have gn := hw.gn
  try simp (disch := first | omega | (simp; done) | fail) [wrap64c, if_pos, if_neg, opAnd, opOr, opXor, opDiff, opShr, opBit, g22, gn, g11]
  refine callG_c (by simp) (by simp) ?ha (setOfNil_ok h2 (.agg #[.int .i64 (n : Int), b]) n xs (.mk (hb.ints.keep A2.1)) g.lt7 (by omega)) ?_
  (case ha => simp (disch := first | omega | (simp; done) | fail) [wrap64c, if_pos, if_neg, opAnd, opOr, opXor, opDiff, opShr, opBit, g22, gn])
  try simp (disch := first | omega | (simp; done) | fail) [wrap64c, if_pos, if_neg, opAnd, opOr, opXor, opDiff, opShr, opBit, g22, gn]
  have P2 := D.stab s _ h h2 hP hbase A2.1.1 fun o ho _ => A2.1.2 o ho
  have hpc : pcN 0 = 0 := rfl
  obtain ⟨u, h3, hc3, v3, T3, hw3, P3, hT3, hT4, W3, _⟩ := next_ok P step Good base S fid dc D ⟨h.next, h.next + 1, fo, h1.next, h1.next + 1, h1.next + 2, h1.next + 3, h1.next + 4⟩ n xs g b (toN xs) n h2 [] 0 (.slice none 0 0) s (fun _ => False) hw P2 (fun _ hf => hf.elim) g.zero (by omega) (by simp) hgood
  refine callG_f (fst := #[]) (cap := #[.pointer (some ⟨h.next, 0, none⟩), .pointer (some ⟨h.next + 1, 0, none⟩), .pointer (some ⟨h1.next + 1, 0, none⟩), .pointer (some ⟨h1.next + 2, 0, none⟩), .pointer (some ⟨h1.next, 0, none⟩), .pointer (some ⟨h1.next + 3, 0, none⟩)]) (by simp) (by simp) ?hf ?hk ?ha (hc3) ?_
  (case hf => simp (disch := first | omega | (simp; done) | fail) [wrap64c, if_pos, if_neg, opAnd, opOr, opXor, opDiff, opShr, opBit, g22, gn]; try rfl)
  (case hk => simp (disch := first | omega | (simp; done) | fail) [wrap64c, if_pos, if_neg, opAnd, opOr, opXor, opDiff, opShr, opBit, g22, gn])
  (case ha => simp (disch := first | omega | (simp; done) | fail) [wrap64c, if_pos, if_neg, opAnd, opOr, opXor, opDiff, opShr, opBit, g22, gn])
  try simp (disch := first | omega | (simp; done) | fail) [wrap64c, if_pos, if_neg, opAnd, opOr, opXor, opDiff, opShr, opBit, g22, gn]
  refine done_end rfl ⟨wr_trans2 (.of_adds A2) W3 ?_, T3, P3, fun o ho => ⟨?_, (hT3 o ho).1.2⟩⟩
  · rintro o ho (e | e | e | e | e)
    · exact e
    · exact e.elim
    · dsimp only at e; omega
    · dsimp only at e; omega
    · cases e
  · rcases hT4 o ho with h1 | h1
    · exact h1.elim
    · omega
end Go.Proofs.Ytnjabaeajjhliaa
