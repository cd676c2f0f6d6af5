/- How many full runs there are, by the reference. -/
import Derived.Test.YtnjabaeajjhliaaT38
namespace Go.Proofs.Ytnjabaeajjhliaa
set_option linter.unusedSimpArgs false
set_option linter.unusedVariables false
set_option maxHeartbeats 4000000
open Go Go.Eng
attribute [local irreducible] WD RunD PreD Runs CallOK

theorem waStart_ok {L : List (List Int)} {A : List Int} (hs : Shape L A.length) (h : Hp) (v : Value) (hv : Chips h v L A) :
    ∃ v' h', CallOK Try.prog 104 #[v] h v' h' ∧ Adds h h' ∧ GL 3 stR h.next h' v' (stateS L A 0) := by
  refine callY_L (args := [v]) 12 _ [.tmp 2] Try.func104 rfl rfl rfl ?_
  have hv0 := hv
  obtain ⟨a, b, rfl, hL, hA⟩ := hv
  have h5 := hs.le
  have lA := hA.lenD
  have hz3 : zarr #[Value.slice none 0 0, Value.slice none 0 0, Value.int .i64 0] 3 = #[Value.slice none 0 0, Value.slice none 0 0, Value.int .i64 0] := zarr3s _ _ _
  refine WD_first ?_
  try simp (disch := first | omega | (simp; done) | fail) [wrap64c, if_pos, if_neg, lA, hz3]
  refine stopK_heap fun h0 q_h0 => ?_
  refine stopK_go ?_
  have g_h0 : h0.get h.next = .cells [a, b] true true 1 := by simp [q_h0]
  have k_h0 : Adds h h0 := by rw [q_h0]; exact (by first | exact aK | exact kK)
  have n_h0 : h.next < h0.next := by simp [q_h0]; try omega
  try simp (disch := first | omega | (simp; done) | fail) [wrap64c, if_pos, if_neg, lA, hz3, g_h0]
  refine WD_drawC 7 rfl (by kernel_rfl) ?_
  try simp (disch := first | omega | (simp; done) | fail) [wrap64c, if_pos, if_neg, lA, hz3, g_h0, (by omega : (A.length : Int) < 140737488355328), (by omega : (8 : Int) * A.length ≤ 281474976710656)]
  first | refine WY_heap fun h1 q_h1 => ?_ | refine callG_heap fun h1 q_h1 => ?_ | refine callP_heap fun h1 q_h1 => ?_ | refine RY_heap fun h1 q_h1 => ?_ | refine PY_heap fun h1 q_h1 => ?_ | refine doneY_heap fun h1 q_h1 => ?_ | refine loopK_heap fun h1 q_h1 => ?_ | refine thenY_heap fun h1 q_h1 => ?_ | refine thenM_heap fun h1 q_h1 => ?_
  have k1 : Adds h0 h1 := by rw [q_h1]; exact (by first | exact aK | exact kK)
  have n1 : h1.next = h0.next + 1 := by simp [q_h1]
  have g1 : h1.get h0.next = .cells ((List.replicate A.length (0 : Int)).map (.int .i64)) true true 1 := by simp [q_h1]
  obtain ⟨u2, h2, hc2, ha2, hu2, _⟩ := l1Own_ok h1 b A (hA.keep (k_h0.trans k1).1) (by omega)
  refine callP_c (by simp) (by simp) ?ha (hc2) ?hadd ?_
  (case ha => simp (disch := first | omega | (simp; done) | fail) [wrap64c, if_pos, if_neg, lA, hz3, g_h0])
  (case hadd => first | assumption | exact adds_self _ | (simp; done))
  have n2 := ha2.1.1
  have nt2 := hu2.nt
  have cs2 := hu2.cs
  try simp (disch := first | omega | (simp; done) | fail) [wrap64c, if_pos, if_neg, lA, hz3, g_h0, nt2, cs2]
  first | refine WY_heap fun h3 q_h3 => ?_ | refine callG_heap fun h3 q_h3 => ?_ | refine callP_heap fun h3 q_h3 => ?_ | refine RY_heap fun h3 q_h3 => ?_ | refine PY_heap fun h3 q_h3 => ?_ | refine doneY_heap fun h3 q_h3 => ?_ | refine loopK_heap fun h3 q_h3 => ?_ | refine thenY_heap fun h3 q_h3 => ?_ | refine thenM_heap fun h3 q_h3 => ?_
  have k3 : Adds h2 h3 := by rw [q_h3]; exact (by first | exact aK | exact kK)
  have n3 : h3.next = h2.next + 1 := by simp [q_h3]
  have g3 : h3.get h2.next = .cells [.slice (some ⟨h0.next, 0, none⟩) A.length A.length, u2, .int .i64 1] true true 3 := by simp [q_h3]
  have hz : IntsO (Btw h0.next h1.next) h1 (.slice (some ⟨h0.next, 0, none⟩) A.length A.length) (List.replicate A.length (0 : Int)) := by
    have := IntsO.mk (S := Btw h0.next h1.next) (xs := List.replicate A.length (0 : Int)) (ex := true) ⟨Nat.le_refl _, by omega⟩ (by omega) (by simp; omega) g1
    simpa using this
  refine done_ret rfl ⟨((k_h0.trans k1).trans ha2).trans k3, .inr ⟨h2.next, true, _, by simp [stateS], by omega, by omega, g3, rfl, fun k hk => ?_⟩⟩
  have : k = 0 := by simp [stateS] at hk; exact hk
  subst this
  refine ⟨_, _, rfl, ?_, ?_⟩
  · exact ((hz.keep (ha2.trans k3).1).read).sub fun o ho => ⟨by have := ho.1; omega, by have := ho.2; omega⟩
  · exact ((hu2.keep k3.1).read).sub fun o ho => ⟨by have := ho.1; omega, by have := ho.2; omega⟩

theorem specRuns_ok (h : Hp) (v : Value) (L : List (List Int)) (A : List Int) (hv : Chips h v L A) :
    CallOK Try.prog 55 #[v] h (.tuple #[.int .i64 (runsN L A), .bool (runsB L A)]) h := by
  refine callY_P 38 _ [.tmp 2, .tmp 3] Try.func55 rfl rfl rfl (by first | rfl | simp) ?_
  have hv0 := hv
  obtain ⟨a, b, rfl, hL, hA⟩ := hv
  refine WD_first ?_
  try simp (disch := first | omega | (simp; done) | fail) [wrap64c, if_pos, if_neg]
  refine stopK_heap fun h0 q_h0 => ?_
  refine stopK_go ?_
  have g_h0 : h0.get h.next = .cells [a, b] true true 1 := by simp [q_h0]
  have k_h0 : Adds h h0 := by rw [q_h0]; exact (by first | exact aK | exact kK)
  have n_h0 : h.next < h0.next := by simp [q_h0]; try omega
  try simp (disch := first | omega | (simp; done) | fail) [wrap64c, if_pos, if_neg, g_h0]
  refine callG_c (by simp) (by simp) ?ha (waGood_ok h0 _ L A (hv0.keep k_h0.1)) ?_
  (case ha => simp (disch := first | omega | (simp; done) | fail) [wrap64c, if_pos, if_neg, g_h0])
  by_cases c1 : goodB L A = true
  case neg =>
    have c1' : goodB L A = false := by simpa using c1
    have hk : runsB L A = false := by simp [runsB, fullR, c1]
    try simp (disch := first | omega | (simp; done) | fail) [wrap64c, if_pos, if_neg, g_h0, c1, c1']
    exact done_ret rfl (by simp [runsN, hk, k_h0.1])
  have ho := (good_of c1).ok
  try simp (disch := first | omega | (simp; done) | fail) [wrap64c, if_pos, if_neg, g_h0, c1]
  obtain ⟨v1, h1, hc1, ha1, u1, u2, rfl, hu1, hu2⟩ := waFull_ok h0 _ (.slice none 0 0) L A [] (hv0.keep k_h0.1) (Ints.nil _) ho (by simp)
  have eB : fullR L A [] = fullA L [] 61 [] A := if_pos c1
  rw [← eB] at hc1 hu1
  refine callG_c (by simp) (by simp) ?ha (hc1) ?_
  (case ha => simp (disch := first | omega | (simp; done) | fail) [wrap64c, if_pos, if_neg, g_h0, c1])
  have n1 := ha1.1.1
  have K1 := k_h0.trans ha1
  have g1 : h1.get h.next = .cells [a, b] true true 1 := by rw [ha1.1.2 _ n_h0]; exact g_h0
  cases hf : fullR L A [] with
  | none =>
    have hf' := hf
    have hk : runsB L A = false := by simp [runsB, hf]
    try simp (disch := first | omega | (simp; done) | fail) [wrap64c, if_pos, if_neg, g_h0, c1, g1, hf']
    exact done_ret rfl (by simp [runsN, hk, K1.1])
  | some p =>
    obtain ⟨run, E⟩ := p
    have hf' := hf
    have f := fullR_fin (by simp) hf
    have hR : run.length ≤ 60 := (fullR_len (by simp) hf).1
    rw [hf] at hu1
    have lu1 := hu1.lenD
    have hfr : fRun (some (run, E)) = run := rfl
    obtain ⟨v2, h2, hc2, ha2, hg2⟩ := waStart_ok ho.sh h1 (.agg #[a, b]) (hv0.keep K1.1)
    have n2 := ha2.1.1
    have g2 : h2.get h.next = .cells [a, b] true true 1 := by rw [ha2.1.2 _ (by omega)]; exact g1
    try simp (disch := first | omega | (simp; done) | fail) [wrap64c, if_pos, if_neg, g_h0, c1, g1, hf', lu1, hfr]
    refine callG_c (by simp) (by simp) ?ha (hc2) ?_
    (case ha => simp (disch := first | omega | (simp; done) | fail) [wrap64c, if_pos, if_neg, g_h0, c1, g1, hf', lu1, hfr])
    try simp (disch := first | omega | (simp; done) | fail) [wrap64c, if_pos, if_neg, g_h0, c1, g1, hf', lu1, hfr]
    refine WD_loopC [1, 22] (fun m tm h' => ∃ j w, m = run.length - j ∧ tm 7 = w ∧ tm 23 = .int .i64 (j : Int) ∧ (j ≤ run.length) ∧ (Keeps h h') ∧ (h'.get h.next = .cells [a, b] true true 1) ∧ (h.next < h'.next) ∧ (∃ B, GL 3 stR B h' w (stateS L A j))) _ ⟨0, v2, rfl, (by simp (disch := first | omega | (simp; done) | fail) [wrap64c, if_pos, if_neg, g_h0, c1, g1, hf', lu1, hfr]), (by simp (disch := first | omega | (simp; done) | fail) [wrap64c, if_pos, if_neg, g_h0, c1, g1, hf', lu1, hfr]), (by first | omega | assumption | (simp (disch := first | omega | (simp; done) | fail) [wrap64c, if_pos, if_neg, g_h0, c1, g1, hf', lu1, hfr] <;> omega)), (K1.1.trans ha2.1), g2, (by omega), ⟨_, hg2⟩⟩ ?_
    rintro m tm h' hFr ⟨j, w, rfl, e7, e23, hj, ha, hg, hn, hw⟩
    simp only [FrameL] at hFr
    obtain ⟨f1_0, f22_0, -⟩ := hFr
    try simp (disch := first | omega | (simp; done) | fail) [wrap64c, if_pos, if_neg, g_h0, c1, g1, hf', lu1, hfr] at f1_0 f22_0
    have e1 := f1_0
    have e22 := f22_0
    rename Hp => hq
    obtain ⟨B, hw⟩ := hw
    by_cases hlt : j < run.length
    · obtain ⟨hI, _, _⟩ := stateS_inv f ho.sh j hj
      obtain ⟨v3, h3, hc3, ha3, hg3⟩ := waStates_ok f ho.sh ho hR hlt hq (.agg #[a, b]) w _ B (hv0.keep ha) hw hI
      have n3 := ha3.1.1
      try simp (disch := first | omega | (simp; done) | fail) [wrap64c, if_pos, if_neg, g_h0, c1, g1, hf', lu1, hfr, e1, e7, e22, e23, hg, hlt]
      refine callG_c (by simp) (by simp) ?ha (hc3) ?_
      (case ha => simp (disch := first | omega | (simp; done) | fail) [wrap64c, if_pos, if_neg, g_h0, c1, g1, hf', lu1, hfr, e1, e7, e22, e23, hg, hlt])
      try simp (disch := first | omega | (simp; done) | fail) [wrap64c, if_pos, if_neg, g_h0, c1, g1, hf', lu1, hfr, e1, e7, e22, e23, hg, hlt]
      refine loopK_next _ ?hm ?hf ⟨j + 1, v3, rfl, (by simp (disch := first | omega | (simp; done) | fail) [wrap64c, if_pos, if_neg, g_h0, c1, g1, hf', lu1, hfr, e1, e7, e22, e23, hg, hlt] <;> omega), (by simp (disch := first | omega | (simp; done) | fail) [wrap64c, if_pos, if_neg, g_h0, c1, g1, hf', lu1, hfr, e1, e7, e22, e23, hg, hlt] <;> omega), (by first | omega | assumption | (simp (disch := first | omega | (simp; done) | fail) [wrap64c, if_pos, if_neg, g_h0, c1, g1, hf', lu1, hfr, e1, e7, e22, e23, hg, hlt] <;> omega)), (ha.trans ha3.1), (by rw [ha3.1.2 _ (by omega)]; exact hg), (by first | omega | assumption | (simp (disch := first | omega | (simp; done) | fail) [wrap64c, if_pos, if_neg, g_h0, c1, g1, hf', lu1, hfr, e1, e7, e22, e23, hg, hlt] <;> omega)), ⟨_, hg3⟩⟩
      (case hm => first | omega | (simp; omega))
      (case hf => simp [FrameL, g_h0, c1, g1, hf', lu1, hfr, e1, e7, e22, e23, hg, hlt, f1_0, f22_0])
    · have hje : j = run.length := by omega
      have hend := stateS_end f ho.sh
      rw [hje, hend] at hw
      obtain ⟨o, cs, ex, y, z, y1, y2, y3, y4, y5, ⟨y6, y7, y8⟩, _, _⟩ := stG_at hw (k := 0) (by simp)
      have y1' := y1
      simp only [List.length_cons, List.length_nil] at y4
      have y4' : cs.length = 3 := by omega
      obtain ⟨W, hW⟩ : ∃ W, W = wN L run.length A := ⟨_, rfl⟩
      simp only [List.getElem_cons_zero, ← hW] at y8 y5
      have y8' : ∀ h2 : 0 * 3 + 2 < cs.length, cs[0 * 3 + 2] = .int .i64 ((capN W : Nat) : Int) := fun h2 => (List.getElem?_eq_some_iff.1 y8).2
      have y9' : ∀ h2 : 2 < cs.length, cs[2] = .int .i64 ((capN W : Nat) : Int) := fun h2 => by simpa using y8' (by omega)
      by_cases hc : W ≤ 1000000000
      · have hk : runsB L A = true := by simp [runsB, hf, fst?, ← hW, hc]
        have hcw : capN W = W := by unfold capN; omega
        have hgt : ¬ (1000000000 : Int) < (W : Int) := by omega
        try simp (disch := first | omega | (simp; done) | fail) [wrap64c, if_pos, if_neg, g_h0, c1, g1, hf', lu1, hfr, e1, e7, e22, e23, hg, hlt, y1', y3, y4, y5, y6, y7, y8, y4', y9', hcw, hgt]
        exact done_ret rfl (by simp [runsN, hk, hf, fst?, ← hW, ha])
      · have hk : runsB L A = false := by simp [runsB, hf, fst?, ← hW, hc]
        have hcw : capN W = 1000000001 := by unfold capN; omega
        try simp (disch := first | omega | (simp; done) | fail) [wrap64c, if_pos, if_neg, g_h0, c1, g1, hf', lu1, hfr, e1, e7, e22, e23, hg, hlt, y1', y3, y4, y5, y6, y7, y8, y4', y9', hcw]
        exact done_ret rfl (by simp [runsN, hk, ha])
end Go.Proofs.Ytnjabaeajjhliaa
