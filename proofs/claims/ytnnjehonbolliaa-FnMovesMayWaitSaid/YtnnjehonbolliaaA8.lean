/- Degrees and places that can be moved: reference, program, laws. -/
import Derived.Test.YtnnjehonbolliaaA6
namespace Go.Proofs.Ytnnjehonbolliaa
set_option linter.unusedSimpArgs false
set_option linter.unusedVariables false
set_option maxHeartbeats 4000000
open Go Go.Eng
attribute [local irreducible] WD RunD PreD Runs CallOK

/-- What a function on chips with a list and a truth as results is to do. -/
def FnCL (f : FuncId) (R : List (List Int) → List Int → List Int) (B : List (List Int) → List Int → Bool) : Prop :=
  ∀ (h : Hp) (v : Value) (L : List (List Int)) (A : List Int), Chips h v L A →
    ∃ u h', CallOK Try.prog f #[v] h (.tuple #[u, .bool (B L A)]) h' ∧ Adds h h' ∧ IntsO (Btw h.next h'.next) h' u (R L A)

noncomputable def degR (L : List (List Int)) (A : List Int) : List Int := if goodB L A then (List.range A.length).map (deg L) else []
noncomputable def canR (L : List (List Int)) (A : List Int) : List Int := if goodB L A then movesL L A else []
theorem good_of {L : List (List Int)} {A : List Int} (h : goodB L A = true) : Good L A := by
  unfold goodB at h; exact @of_decide_eq_true _ (Classical.propDecidable _) h

theorem degT_succ (L : List (List Int)) (j : Nat) : (List.range (j + 1)).map (deg L) = (List.range j).map (deg L) ++ [deg L j] := by
  rw [List.range_succ, List.map_append]; rfl

theorem imDegreesOf_ok : FnCL 29 degR goodB := by
  intro h v L A hv
  obtain ⟨v', h', h1, u, h2, h3, h4⟩ : ∃ v' h', CallOK Try.prog 29 #[v] h v' h' ∧ ∃ u, v' = .tuple #[u, .bool (goodB L A)] ∧ Adds h h' ∧ IntsO (Btw h.next h'.next) h' u (degR L A) := by
    refine callY_L (args := [v]) 24 _ [.tmp 2, .tmp 3] Try.func29 rfl rfl rfl ?_
    have hv0 := hv
    obtain ⟨a, b, rfl, hL, hA⟩ := hv
    refine WD_first ?_
    try simp (disch := first | omega | (simp; done) | fail) [wrap64c, if_pos, if_neg]
    refine stopK_heap fun h0 q_h0 => ?_
    refine stopK_go ?_
    have g_h0 : h0.get h.next = .cells [a, b] true true 1 := by simp [q_h0]
    have k_h0 : Adds h h0 := by rw [q_h0]; exact (by first | exact aK | exact kK)
    have n_h0 : h.next < h0.next := by simp [q_h0]; try omega
    have lA := hA.lenD
    try simp (disch := first | omega | (simp; done) | fail) [wrap64c, if_pos, if_neg, g_h0, lA]
    refine callG_c (by simp) (by simp) ?ha (imAreChips_ok h0 _ L A (hv0.keep k_h0.1)) ?_
    (case ha => simp (disch := first | omega | (simp; done) | fail) [wrap64c, if_pos, if_neg, g_h0, lA])
    by_cases c : goodB L A = true
    · have hg := good_of c
      have h5 := hg.1.2
      try simp (disch := first | omega | (simp; done) | fail) [wrap64c, if_pos, if_neg, g_h0, lA, c]
      first | refine WY_heap fun h1 q_h1 => ?_ | refine callG_heap fun h1 q_h1 => ?_ | refine callP_heap fun h1 q_h1 => ?_ | refine callS_heap fun h1 q_h1 => ?_ | refine RY_heap fun h1 q_h1 => ?_ | refine PY_heap fun h1 q_h1 => ?_ | refine SY_heap fun h1 q_h1 => ?_ | refine doneY_heap fun h1 q_h1 => ?_ | refine loopK_heap fun h1 q_h1 => ?_ | refine thenY_heap fun h1 q_h1 => ?_ | refine thenM_heap fun h1 q_h1 => ?_
      have k1 : Adds h h1 := by rw [q_h1]; have := k_h0; exact (by first | exact aK | exact kK)
      have g1 : h1.get h.next = .cells [a, b] true true 1 := by simp [q_h1, g_h0, Nat.ne_of_lt n_h0]
      refine WD_loopC [1, 12] (fun m tm h' => ∃ j u, m = A.length - j ∧ tm 4 = u ∧ tm 13 = .int .i64 (j : Int) ∧ (j ≤ A.length) ∧ (Adds h h') ∧ (h0.next ≤ h'.next) ∧ (h'.get h.next = .cells [a, b] true true 1) ∧ (IntsA h0.next h' u ((List.range j).map (deg L)))) _ ⟨0, _, rfl, (by simp (disch := first | omega | (simp; done) | fail) [wrap64c, if_pos, if_neg, g_h0, lA, c, g1]), (by simp (disch := first | omega | (simp; done) | fail) [wrap64c, if_pos, if_neg, g_h0, lA, c, g1]), (by first | omega | assumption | (simp (disch := first | omega | (simp; done) | fail) [wrap64c, if_pos, if_neg, g_h0, lA, c, g1] <;> omega)), k1, (by simp [q_h1]), g1, (.lit (ex := true) (Nat.le_refl _) (by simp [q_h1]) (by simp [q_h1]))⟩ ?_
      rintro m tm h' hFr ⟨j, u, rfl, e4, e13, hj, ha, hb, hg', hu⟩
      simp only [FrameL] at hFr
      obtain ⟨f1_0, f12_0, -⟩ := hFr
      try simp (disch := first | omega | (simp; done) | fail) [wrap64c, if_pos, if_neg, g_h0, lA, c, g1] at f1_0 f12_0
      have e1 := f1_0
      have e12 := f12_0
      by_cases hlt : j < A.length
      · try simp (disch := first | omega | (simp; done) | fail) [wrap64c, if_pos, if_neg, g_h0, lA, c, g1, e1, e4, e12, e13, hg', hlt]
        refine callG_c (by simp) (by simp) ?ha (imDegree_ok h' _ L A A.length j (hv0.keep ha.1) hg.shape hlt) ?_
        (case ha => simp (disch := first | omega | (simp; done) | fail) [wrap64c, if_pos, if_neg, g_h0, lA, c, g1, e1, e4, e12, e13, hg', hlt])
        try simp (disch := first | omega | (simp; done) | fail) [wrap64c, if_pos, if_neg, g_h0, lA, c, g1, e1, e4, e12, e13, hg', hlt]
        obtain ⟨u2, h2, hap, hu2, ha2, hn2, hs2⟩ := appI hu (deg L j) (by simp; omega) hb ha (by omega)
        try simp (disch := first | omega | (simp; done) | fail) [wrap64c, if_pos, if_neg, g_h0, lA, c, g1, e1, e4, e12, e13, hg', hlt, hap]
        have g2 : h2.get h.next = .cells [a, b] true true 1 := by rw [hs2 _ (by omega) n_h0]; exact hg'
        refine loopK_next _ ?hm ?hf ⟨j + 1, u2, rfl, (by simp (disch := first | omega | (simp; done) | fail) [wrap64c, if_pos, if_neg, g_h0, lA, c, g1, e1, e4, e12, e13, hg', hlt, g2] <;> omega), (by simp (disch := first | omega | (simp; done) | fail) [wrap64c, if_pos, if_neg, g_h0, lA, c, g1, e1, e4, e12, e13, hg', hlt, g2] <;> omega), (by first | omega | assumption | (simp (disch := first | omega | (simp; done) | fail) [wrap64c, if_pos, if_neg, g_h0, lA, c, g1, e1, e4, e12, e13, hg', hlt, g2] <;> omega)), (by first | omega | assumption | (simp (disch := first | omega | (simp; done) | fail) [wrap64c, if_pos, if_neg, g_h0, lA, c, g1, e1, e4, e12, e13, hg', hlt, g2] <;> omega)), (by first | omega | assumption | (simp (disch := first | omega | (simp; done) | fail) [wrap64c, if_pos, if_neg, g_h0, lA, c, g1, e1, e4, e12, e13, hg', hlt, g2] <;> omega)), (by first | omega | assumption | (simp (disch := first | omega | (simp; done) | fail) [wrap64c, if_pos, if_neg, g_h0, lA, c, g1, e1, e4, e12, e13, hg', hlt, g2] <;> omega)), (by rw [degT_succ]; exact hu2)⟩
        (case hm => first | omega | (simp; omega))
        (case hf => simp [FrameL, g_h0, lA, c, g1, e1, e4, e12, e13, hg', hlt, g2, f1_0, f12_0])
      · try simp (disch := first | omega | (simp; done) | fail) [wrap64c, if_pos, if_neg, g_h0, lA, c, g1, e1, e4, e12, e13, hg', hlt]
        have hj' : j = A.length := by omega
        subst hj'
        refine done_ret rfl ⟨u, by simp [c], ha, ?_⟩
        unfold degR
        rw [if_pos c]
        exact (hu.own (by simp; omega)).sub fun o ho => ⟨by have := ho.1; omega, ho.2⟩
    · have c' : goodB L A = false := by simpa using c
      try simp (disch := first | omega | (simp; done) | fail) [wrap64c, if_pos, if_neg, g_h0, lA, c, c']
      refine done_ret rfl ⟨_, by simp [c']; rfl, k_h0, ?_⟩
      unfold degR
      rw [if_neg c]
      exact .nil _ _
  subst h2
  exact ⟨u, h', h1, h3, h4⟩

theorem imCanMove_ok : FnCL 20 canR goodB := by
  intro h v L A hv
  obtain ⟨v', h', h1, u, h2, h3, h4⟩ : ∃ v' h', CallOK Try.prog 20 #[v] h v' h' ∧ ∃ u, v' = .tuple #[u, .bool (goodB L A)] ∧ Adds h h' ∧ IntsO (Btw h.next h'.next) h' u (canR L A) := by
    refine callY_L (args := [v]) 9 _ [.tmp 2, .tmp 3] Try.func20 rfl rfl rfl ?_
    have hv0 := hv
    obtain ⟨a, b, rfl, hL, hA⟩ := hv
    refine WD_first ?_
    try simp (disch := first | omega | (simp; done) | fail) [wrap64c, if_pos, if_neg]
    refine stopK_heap fun h0 q_h0 => ?_
    refine stopK_go ?_
    have g_h0 : h0.get h.next = .cells [a, b] true true 1 := by simp [q_h0]
    have k_h0 : Adds h h0 := by rw [q_h0]; exact (by first | exact aK | exact kK)
    have n_h0 : h.next < h0.next := by simp [q_h0]; try omega
    try simp (disch := first | omega | (simp; done) | fail) [wrap64c, if_pos, if_neg, g_h0]
    refine callG_c (by simp) (by simp) ?ha (imAreChips_ok h0 _ L A (hv0.keep k_h0.1)) ?_
    (case ha => simp (disch := first | omega | (simp; done) | fail) [wrap64c, if_pos, if_neg, g_h0])
    by_cases c : goodB L A = true
    · have hg := good_of c
      try simp (disch := first | omega | (simp; done) | fail) [wrap64c, if_pos, if_neg, g_h0, c]
      obtain ⟨u, h2, hc, ha, hu⟩ := imMoves_ok h0 _ L A (hv0.keep k_h0.1) hg.shape
      refine callG_c (by simp) (by simp) ?ha (hc) ?_
      (case ha => simp (disch := first | omega | (simp; done) | fail) [wrap64c, if_pos, if_neg, g_h0, c])
      try simp (disch := first | omega | (simp; done) | fail) [wrap64c, if_pos, if_neg, g_h0, c]
      refine done_ret rfl ⟨u, by simp [c], k_h0.trans ha, ?_⟩
      unfold canR
      rw [if_pos c]
      exact hu.sub fun o ho => ⟨by have := ho.1; omega, ho.2⟩
    · have c' : goodB L A = false := by simpa using c
      try simp (disch := first | omega | (simp; done) | fail) [wrap64c, if_pos, if_neg, g_h0, c, c']
      refine done_ret rfl ⟨_, by simp [c']; rfl, k_h0, ?_⟩
      unfold canR
      rw [if_neg c]
      exact .nil _ _
  subst h2
  exact ⟨u, h', h1, h3, h4⟩
end Go.Proofs.Ytnnjehonbolliaa
