/- How often each place is moved in full runs. -/
import Derived.Test.YtnnjehonbolliaaB7
namespace Go.Proofs.Ytnnjehonbolliaa
set_option linter.unusedSimpArgs false
set_option linter.unusedVariables false
set_option maxHeartbeats 4000000
open Go Go.Eng
attribute [local irreducible] WD RunD PreD Runs CallOK

/-- How often each place is in a run. -/
def cntL (n : Nat) (run : List Int) : List Int := (List.range n).map fun (i : Nat) => (run.count (i : Int) : Int)
@[simp] theorem cntL_length (n : Nat) (run : List Int) : (cntL n run).length = n := by simp [cntL]
theorem cntL_get (n : Nat) (run : List Int) (i : Nat) (h : i < (cntL n run).length) : (cntL n run)[i] = (run.count (i : Int) : Int) := by simp [cntL]
theorem cntL_nil (n : Nat) : cntL n [] = List.replicate n 0 := by
  apply List.ext_getElem
  · simp
  · intro i h1 h2; simp [cntL]
theorem cntL_snoc (n : Nat) (run : List Int) (i : Nat) (hi : i < n) : cntL n (run ++ [(i : Int)]) = (cntL n run).set i ((cntL n run)[i]'(by simpa using hi) + 1) := by
  apply List.ext_getElem
  · simp
  · intro k h1 h2
    rw [cntL_get, List.getElem_set, List.count_append]
    by_cases e : i = k
    · subst e; rw [if_pos rfl, cntL_get]; simp
    · rw [if_neg e, cntL_get]
      have : List.count (k : Int) [(i : Int)] = 0 := by simp [List.count_singleton]; omega
      rw [this]; rfl
theorem cntL_le (n : Nat) (run : List Int) (i : Nat) (h : i < (cntL n run).length) : 0 ≤ (cntL n run)[i] ∧ (cntL n run)[i] ≤ run.length := by
  rw [cntL_get]
  have := List.count_le_length (a := (i : Int)) (l := run)
  omega

theorem waCounts_ok (h : Hp) (w : Value) (run : List Int) (n : Nat) (hw : Ints h w run) (hn : n ≤ 5) (hr : ∀ x ∈ run, 0 ≤ x ∧ x < n) (hl : run.length ≤ 60) :
    ∃ v' h', CallOK Try.prog 48 #[.int .i64 n, w] h v' h' ∧ Adds h h' ∧ IntsO (Btw h.next h'.next) h' v' (cntL n run) := by
  refine callY_L (args := [.int .i64 n, w]) 24 _ [.tmp 4] Try.func48 rfl rfl rfl ?_
  have lw := hw.lenD
  try simp (disch := first | omega | (simp; done) | fail) [wrap64c, if_pos, if_neg, lw, (by omega : (n : Int) < 140737488355328), (by omega : (8 : Int) * n ≤ 281474976710656)]
  refine WD_loopC [5, 10, 11] (fun m tm h' => ∃ j, m = run.length - j ∧ tm 12 = .int .i64 (j : Int) ∧ (j ≤ run.length) ∧ (Adds h h') ∧ (h.next < h'.next) ∧ (h'.get h.next = .cells ((cntL n (run.take j)).map (.int .i64)) true true 1)) _ ⟨0, rfl, (by simp (disch := first | omega | (simp; done) | fail) [wrap64c, if_pos, if_neg, lw]), (by first | omega | assumption | (simp (disch := first | omega | (simp; done) | fail) [wrap64c, if_pos, if_neg, lw] <;> omega)), (by first | exact aK | exact kK), (by simp), (by simp [cntL_nil])⟩ ?_
  rintro m tm h' hFr ⟨j, rfl, e12, hj, ha, hn', hg⟩
  simp only [FrameL] at hFr
  obtain ⟨f5_0, f10_0, f11_0, -⟩ := hFr
  try simp (disch := first | omega | (simp; done) | fail) [wrap64c, if_pos, if_neg, lw] at f5_0 f10_0 f11_0
  have e5 := f5_0
  have e10 := f10_0
  have e11 := f11_0
  by_cases hlt : j < run.length
  · obtain ⟨o_x, i_x, c_x, cs_x, own_x, ex_x, es_x, q_x, b_x, g_x, l_x, r_x⟩ := (hw.keep ha.1).open ((by omega))
    have z_x : ∀ h2 : i_x < cs_x.length, cs_x[i_x] = _ := fun h2 => r_x 0 ((by omega)) h2
    have hb := hr _ (List.getElem_mem hlt)
    obtain ⟨i, hi⟩ : ∃ i : Nat, run[j] = (i : Int) := ⟨run[j].toNat, by omega⟩
    have hin : i < n := by omega
    have hle := cntL_le n (run.take j) i (by simpa using hin)
    have hle2 : (run.take j).length ≤ 60 := by simp; omega
    have hcl := cntL_length n (run.take j)
    try simp (disch := first | omega | (simp; done) | fail) [wrap64c, if_pos, if_neg, lw, e5, e10, e11, e12, hg, hlt, q_x, g_x, l_x, r_x, z_x, hi]
    refine loopK_next _ ?hm ?hf ⟨j + 1, rfl, (by simp (disch := first | omega | (simp; done) | fail) [wrap64c, if_pos, if_neg, lw, e5, e10, e11, e12, hg, hlt, q_x, g_x, l_x, r_x, z_x, hi] <;> omega), (by first | omega | assumption | (simp (disch := first | omega | (simp; done) | fail) [wrap64c, if_pos, if_neg, lw, e5, e10, e11, e12, hg, hlt, q_x, g_x, l_x, r_x, z_x, hi] <;> omega)), (by first | exact aK | exact kK), (by simpa using hn'), ?c_hg⟩
    (case hm => first | omega | (simp; omega))
    (case hf => simp [FrameL, lw, e5, e10, e11, e12, hg, hlt, q_x, g_x, l_x, r_x, z_x, hi, f5_0, f10_0, f11_0])
    case c_hg =>
      exact (by
        rw [List.take_succ_eq_append_getElem hlt, hi, cntL_snoc n _ i hin]
        simp [putCells_one, hin])
  · try simp (disch := first | omega | (simp; done) | fail) [wrap64c, if_pos, if_neg, lw, e5, e10, e11, e12, hg, hlt]
    have hj' : j = run.length := by omega
    subst hj'
    rw [List.take_length] at hg
    have := IntsO.mk (S := Btw h.next h'.next) (xs := cntL n run) (ex := true) ⟨Nat.le_refl _, hn'⟩ hn' (by simp; omega) hg
    exact done_ret rfl ⟨ha, by simpa using this⟩

theorem fullA_run {L : List (List Int)} {cs : List Int} (hcs : ∀ x ∈ cs, 0 ≤ x) : ∀ {n : Nat} {run A r B : List Int}, fullA L cs n run A = some (r, B) → run.length ≤ 60 → (∀ x ∈ run, 0 ≤ x ∧ x < A.length) → r.length ≤ 60 ∧ (∀ x ∈ r, 0 ≤ x ∧ x < A.length) ∧ B.length = A.length
  | 0, _, _, _, _, h, _, _ => by simp [fullA] at h
  | n + 1, run, A, r, B, h, hl, hr => by
    unfold fullA at h
    by_cases hm : movesL L A = []
    · rw [if_pos hm] at h
      simp only [Option.some.injEq, Prod.mk.injEq] at h
      obtain ⟨rfl, rfl⟩ := h
      exact ⟨hl, hr, rfl⟩
    · rw [if_neg hm] at h
      by_cases h60 : run.length = 60
      · rw [if_pos h60] at h; cases h
      · rw [if_neg h60] at h
        have hml : 0 < (movesL L A).length := List.length_pos_iff.2 hm
        have hk1 := pickK_lt hml hcs run.length
        obtain ⟨i, hi0, hi1, hi2⟩ := movesL_get hk1
        have hk2 : (movesL L A).getD (pickK (movesL L A) cs run.length) 0 = (i : Int) := by rw [List.getD_eq_getElem?_getD, List.getElem?_eq_getElem hk1]; exact hi0
        rw [hk2] at h
        have := fullA_run hcs h (by simp; omega) (fun x hx => by
          rcases List.mem_append.1 hx with hx | hx
          · simpa using hr x hx
          · simp at hx; subst hx; simp; omega)
        simpa using this

noncomputable def countsR (L : List (List Int)) (A : List Int) : Option (List Int) := (fst? (fullR L A [])).map (cntL A.length)

theorem spMoveCounts_ok : FnCL' 12 countsR := by
  intro h v L A hv
  refine callY_L (args := [v]) 23 _ [.tmp 2, .tmp 3] Try.func12 rfl rfl rfl ?_
  have hv0 := hv
  obtain ⟨a, b, rfl, hL, hA⟩ := hv
  have lA := hA.lenD
  refine WD_first ?_
  try simp (disch := first | omega | (simp; done) | fail) [wrap64c, if_pos, if_neg, lA]
  refine stopK_heap fun h0 q_h0 => ?_
  refine stopK_go ?_
  have g_h0 : h0.get h.next = .cells [a, b] true true 1 := by simp [q_h0]
  have k_h0 : Adds h h0 := by rw [q_h0]; exact (by first | exact aK | exact kK)
  have n_h0 : h.next < h0.next := by simp [q_h0]; try omega
  try simp (disch := first | omega | (simp; done) | fail) [wrap64c, if_pos, if_neg, lA, g_h0]
  refine callG_c (by simp) (by simp) ?ha (waGood_ok h0 _ L A (hv0.keep k_h0.1)) ?_
  (case ha => simp (disch := first | omega | (simp; done) | fail) [wrap64c, if_pos, if_neg, lA, g_h0])
  by_cases c1 : goodB L A = true
  · have ho := (good_of c1).ok
    try simp (disch := first | omega | (simp; done) | fail) [wrap64c, if_pos, if_neg, lA, g_h0, c1]
    obtain ⟨v1, h1, hc1, ha1, u1, u2, rfl, hu1, hu2⟩ := waFull_ok h0 _ (.slice none 0 0) L A [] (hv0.keep k_h0.1) (Ints.nil _) ho (by simp)
    have eB : fullR L A [] = fullA L [] 61 [] A := if_pos c1
    rw [← eB] at hu1 hc1
    refine callG_c (by simp) (by simp) ?ha (hc1) ?_
    (case ha => simp (disch := first | omega | (simp; done) | fail) [wrap64c, if_pos, if_neg, lA, g_h0, c1])
    have n1 := ha1.1.1
    have K1 := k_h0.trans ha1
    have g1 : h1.get h.next = .cells [a, b] true true 1 := by rw [ha1.1.2 _ n_h0]; exact g_h0
    cases hr : fullR L A [] with
    | none =>
      have hr' := hr
      try simp (disch := first | omega | (simp; done) | fail) [wrap64c, if_pos, if_neg, lA, g_h0, c1, g1, hr']
      exact done_ret rfl ⟨K1, _, by rw [countsR, hr]; rfl, by rw [countsR, hr]; exact .nil _ _⟩
    | some B =>
      have hr' := hr
      rw [hr] at hu1
      rw [eB] at hr
      have hb := fullA_run (by simp) hr (by simp) (by simp)
      try simp (disch := first | omega | (simp; done) | fail) [wrap64c, if_pos, if_neg, lA, g_h0, c1, g1, hr']
      obtain ⟨u3, h3, hc3, ha3, hu3⟩ := waCounts_ok h1 u1 B.1 A.length hu1.ints ho.le hb.2.1 hb.1
      refine callG_c (by simp) (by simp) ?ha (hc3) ?_
      (case ha => simp (disch := first | omega | (simp; done) | fail) [wrap64c, if_pos, if_neg, lA, g_h0, c1, g1, hr'])
      try simp (disch := first | omega | (simp; done) | fail) [wrap64c, if_pos, if_neg, lA, g_h0, c1, g1, hr']
      rw [← eB] at hr
      exact done_ret rfl ⟨K1.trans ha3, u3, by rw [countsR, hr]; rfl, by rw [countsR, hr]; exact hu3.sub fun x hx => by unfold Btw at *; omega⟩
  · have c1' : goodB L A = false := by simpa using c1
    have eB : fullR L A [] = none := if_neg c1
    try simp (disch := first | omega | (simp; done) | fail) [wrap64c, if_pos, if_neg, lA, g_h0, c1, c1']
    exact done_ret rfl ⟨k_h0, _, by rw [countsR, eB]; rfl, by rw [countsR, eB]; exact .nil _ _⟩

theorem imMoveCounts_ok : FnCL' 11 countsR := by
  intro h v L A hv
  refine callY_L (args := [v]) 36 _ [.tmp 2, .tmp 3] Try.func11 rfl rfl rfl ?_
  have hv0 := hv
  obtain ⟨a, b, rfl, hL, hA⟩ := hv
  have lA := hA.lenD
  refine WD_first ?_
  try simp (disch := first | omega | (simp; done) | fail) [wrap64c, if_pos, if_neg, lA]
  refine stopK_heap fun h0 q_h0 => ?_
  refine stopK_go ?_
  have g_h0 : h0.get h.next = .cells [a, b] true true 1 := by simp [q_h0]
  have k_h0 : Adds h h0 := by rw [q_h0]; exact (by first | exact aK | exact kK)
  have n_h0 : h.next < h0.next := by simp [q_h0]; try omega
  try simp (disch := first | omega | (simp; done) | fail) [wrap64c, if_pos, if_neg, lA, g_h0]
  obtain ⟨v1, h1, hc1, ha1, u1, u2, rfl, hu1, hu2⟩ := imFull_ok h0 _ (.slice none 0 0) L A [] (hv0.keep k_h0.1) (Ints.nil _) (by simp)
  obtain ⟨p, q, S1, S2, rfl, hp, hq, s1, s2, s3⟩ := hu2
  refine callG_c (by simp) (by simp) ?ha (hc1) ?_
  (case ha => simp (disch := first | omega | (simp; done) | fail) [wrap64c, if_pos, if_neg, lA, g_h0])
  have ntp := hp.nt
  have csp := hp.cs
  have ntq := hq.nt
  have csq := hq.cs
  have n1 := ha1.1.1
  have K1 := k_h0.trans ha1
  have g1 : h1.get h.next = .cells [a, b] true true 1 := by rw [ha1.1.2 _ n_h0]; exact g_h0
  by_cases c1 : goodB L A = true
  · have ho := (good_of c1).ok
    have h5 := ho.le
    have eB : fullR L A [] = fullA L [] 61 [] A := if_pos c1
    cases hr : fullR L A [] with
    | none =>
      have hr' := hr
      try simp (disch := first | omega | (simp; done) | fail) [wrap64c, if_pos, if_neg, lA, g_h0, ntp, csp, ntq, csq, g1, hr', putCells]
      exact done_ret rfl ⟨(by first | exact aK | exact kK), _, by rw [countsR, hr]; rfl, by rw [countsR, hr]; exact .nil _ _⟩
    | some B =>
      have hr' := hr
      rw [hr] at hu1
      rw [eB] at hr
      have hb := fullA_run (by simp) hr (by simp) (by simp)
      rw [← eB] at hr
      try simp (disch := first | omega | (simp; done) | fail) [wrap64c, if_pos, if_neg, lA, g_h0, ntp, csp, ntq, csq, g1, hr', putCells, -wd_region, wd_region 0, wd_region 1, wd_region 2, wd_region 3, wd_region 5, wd_region 6, wd_region 7, wd_region 8, wd_region 9, wd_region 10]
      first | refine WY_heap fun h2 q_h2 => ?_ | refine callG_heap fun h2 q_h2 => ?_ | refine callP_heap fun h2 q_h2 => ?_ | refine callS_heap fun h2 q_h2 => ?_ | refine RY_heap fun h2 q_h2 => ?_ | refine PY_heap fun h2 q_h2 => ?_ | refine SY_heap fun h2 q_h2 => ?_ | refine doneY_heap fun h2 q_h2 => ?_ | refine loopK_heap fun h2 q_h2 => ?_ | refine thenY_heap fun h2 q_h2 => ?_ | refine thenM_heap fun h2 q_h2 => ?_
      have K12 : Adds h1 h2 := by rw [q_h2]; exact (by first | exact aK | exact kK)
      have K2 := K1.trans K12
      have hu2 : IntsO (Btw h0.next h1.next) h2 u1 B.1 := hu1.keep K12.1
      have n2 := K12.1.1
      have g2 : h2.get h.next = .cells [a, b] true true 1 := by rw [K12.1.2 _ (by omega)]; exact g1
      have lu := hu2.lenD
      try simp (disch := first | omega | (simp; done) | fail) [wrap64c, if_pos, if_neg, lA, g_h0, ntp, csp, ntq, csq, g1, hr', g2, lu, (by omega : (A.length : Int) < 140737488355328), (by omega : (8 : Int) * A.length ≤ 281474976710656)]
      refine WD_loopC [7, 22, 23] (fun m tm h' => ∃ j, m = B.1.length - j ∧ tm 24 = .int .i64 (j : Int) ∧ (j ≤ B.1.length) ∧ (Adds h2 h') ∧ (h2.next < h'.next) ∧ (h'.get h2.next = .cells ((cntL A.length (B.1.take j)).map (.int .i64)) true true 1)) _ ⟨0, rfl, (by simp (disch := first | omega | (simp; done) | fail) [wrap64c, if_pos, if_neg, lA, g_h0, ntp, csp, ntq, csq, g1, hr', g2, lu]), (by first | omega | assumption | (simp (disch := first | omega | (simp; done) | fail) [wrap64c, if_pos, if_neg, lA, g_h0, ntp, csp, ntq, csq, g1, hr', g2, lu] <;> omega)), (by first | exact aK | exact kK), (by simp), (by simp [cntL_nil])⟩ ?_
      rintro m tm h' hFr ⟨j, rfl, e24, hj, ha, hn', hg⟩
      simp only [FrameL] at hFr
      obtain ⟨f7_0, f22_0, f23_0, -⟩ := hFr
      try simp (disch := first | omega | (simp; done) | fail) [wrap64c, if_pos, if_neg, lA, g_h0, ntp, csp, ntq, csq, g1, hr', g2, lu] at f7_0 f22_0 f23_0
      have e7 := f7_0
      have e22 := f22_0
      have e23 := f23_0
      by_cases hlt : j < B.1.length
      · obtain ⟨o_x, i_x, c_x, cs_x, own_x, ex_x, es_x, q_x, b_x, g_x, l_x, r_x⟩ := ((hu2.keep ha.1).ints).open ((by omega))
        have z_x : ∀ h2 : i_x < cs_x.length, cs_x[i_x] = _ := fun h2 => r_x 0 ((by omega)) h2
        have hb1 := hb.2.1 _ (List.getElem_mem hlt)
        have hb2 := hb.1
        obtain ⟨i, hi⟩ : ∃ i : Nat, B.1[j] = (i : Int) := ⟨B.1[j].toNat, by omega⟩
        have hin : i < A.length := by omega
        have hle := cntL_le A.length (B.1.take j) i (by simpa using hin)
        have hle2 : (B.1.take j).length ≤ 60 := by simp; omega
        have hcl := cntL_length A.length (B.1.take j)
        try simp (disch := first | omega | (simp; done) | fail) [wrap64c, if_pos, if_neg, lA, g_h0, ntp, csp, ntq, csq, g1, hr', g2, lu, e7, e22, e23, e24, hg, hlt, q_x, g_x, l_x, r_x, z_x, hi]
        refine loopK_next _ ?hm ?hf ⟨j + 1, rfl, (by simp (disch := first | omega | (simp; done) | fail) [wrap64c, if_pos, if_neg, lA, g_h0, ntp, csp, ntq, csq, g1, hr', g2, lu, e7, e22, e23, e24, hg, hlt, q_x, g_x, l_x, r_x, z_x, hi] <;> omega), (by first | omega | assumption | (simp (disch := first | omega | (simp; done) | fail) [wrap64c, if_pos, if_neg, lA, g_h0, ntp, csp, ntq, csq, g1, hr', g2, lu, e7, e22, e23, e24, hg, hlt, q_x, g_x, l_x, r_x, z_x, hi] <;> omega)), (by first | exact aK | exact kK), (by simpa using hn'), ?c_hg⟩
        (case hm => first | omega | (simp; omega))
        (case hf => simp [FrameL, lA, g_h0, ntp, csp, ntq, csq, g1, hr', g2, lu, e7, e22, e23, e24, hg, hlt, q_x, g_x, l_x, r_x, z_x, hi, f7_0, f22_0, f23_0])
        case c_hg =>
          exact (by
            rw [List.take_succ_eq_append_getElem hlt, hi, cntL_snoc A.length _ i hin]
            simp [putCells_one, hin])
      · try simp (disch := first | omega | (simp; done) | fail) [wrap64c, if_pos, if_neg, lA, g_h0, ntp, csp, ntq, csq, g1, hr', g2, lu, e7, e22, e23, e24, hg, hlt]
        have hj' : j = B.1.length := by omega
        subst hj'
        rw [List.take_length] at hg
        have hz := IntsO.mk (S := Btw h.next h'.next) (xs := cntL A.length B.1) (ex := true) ⟨by omega, hn'⟩ hn' (by simp; omega) hg
        exact done_ret rfl ⟨K2.trans ha, _, by rw [countsR, hr]; rfl, by rw [countsR, hr]; simpa [fst?] using hz⟩
  · have eB : fullR L A [] = none := if_neg c1
    have eB' := eB
    try simp (disch := first | omega | (simp; done) | fail) [wrap64c, if_pos, if_neg, lA, g_h0, ntp, csp, ntq, csq, g1, eB', putCells]
    exact done_ret rfl ⟨(by first | exact aK | exact kK), _, by rw [countsR, eB]; rfl, by rw [countsR, eB]; exact .nil _ _⟩
end Go.Proofs.Ytnnjehonbolliaa
