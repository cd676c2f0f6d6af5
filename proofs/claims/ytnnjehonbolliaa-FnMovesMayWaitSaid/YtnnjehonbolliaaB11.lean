/- ReachedBy: reference and program. -/
import Derived.Test.YtnnjehonbolliaaB10
namespace Go.Proofs.Ytnnjehonbolliaa
set_option linter.unusedSimpArgs false
set_option linter.unusedVariables false
set_option maxHeartbeats 4000000
open Go Go.Eng
attribute [local irreducible] WD RunD PreD Runs CallOK

theorem all_zero {k : List Int} (hn : ∀ x ∈ k, 0 ≤ x) : decide (∀ x ∈ k, (0 : Int) ≤ x ∧ x ≤ 0) = decide (∀ x ∈ k, x = 0) := by
  apply decide_eq_decide.2
  exact ⟨fun h x hx => by have := h x hx; omega, fun h x hx => by have := h x hx; omega⟩

theorem spReachedBy_ok (h : Hp) (v w : Value) (L : List (List Int)) (A cs : List Int) (hv : Chips h v L A) (hw : Ints h w cs) : CallOK Try.prog 32 #[v, w] h (.tuple #[.bool (reB L A cs), .bool (reG L A cs)]) h := by
  refine callY_P 72 _ [.tmp 4, .tmp 5] Try.func32 rfl rfl rfl (by first | rfl | simp) ?_
  have hv0 := hv
  have hwl := hw.len
  have lw := hw.lenD
  obtain ⟨a, b, rfl, hL, hA⟩ := hv
  have lA := hA.lenD
  have hAl := hA.len
  refine WD_first ?_
  try simp (disch := first | omega | (simp; done) | fail) [wrap64c, if_pos, if_neg, lw, lA]
  refine stopK_heap fun h0 q_h0 => ?_
  refine stopK_go ?_
  have g_h0 : h0.get h.next = .cells [a, b] true true 1 := by simp [q_h0]
  have k_h0 : Adds h h0 := by rw [q_h0]; exact (by first | exact aK | exact kK)
  have n_h0 : h.next < h0.next := by simp [q_h0]; try omega
  try simp (disch := first | omega | (simp; done) | fail) [wrap64c, if_pos, if_neg, lw, lA, g_h0]
  refine callG_c (by simp) (by simp) ?ha (waGood_ok h0 _ L A (hv0.keep k_h0.1)) ?_
  (case ha => simp (disch := first | omega | (simp; done) | fail) [wrap64c, if_pos, if_neg, lw, lA, g_h0])
  by_cases c1 : goodB L A = true
  · have ho := (good_of c1).ok
    have h5 := ho.le
    by_cases c2 : cs.length = A.length
    · have c2b : ((cs.length : Int) != (A.length : Int)) = false := by simp [c2]
      have hc := l1All_ok h0 w cs 0 60 (hw.keep k_h0.1)
      by_cases c3 : ∀ x ∈ cs, (0 : Int) ≤ x ∧ x ≤ 60
      · rw [decide_eq_true c3] at hc
        try simp (disch := first | omega | (simp; done) | fail) [wrap64c, if_pos, if_neg, lw, lA, g_h0, c1, c2b]
        refine callG_c (by simp) (by simp) ?ha (hc) ?_
        (case ha => simp (disch := first | omega | (simp; done) | fail) [wrap64c, if_pos, if_neg, lw, lA, g_h0, c1, c2b])
        try simp (disch := first | omega | (simp; done) | fail) [wrap64c, if_pos, if_neg, lw, lA, g_h0, c1, c2b]
        obtain ⟨v1, h1, hc1, ha1, u1, u2, rfl, hu1, hu2⟩ := waFull_ok h0 _ (.slice none 0 0) L A [] (hv0.keep k_h0.1) (Ints.nil _) ho (by simp)
        have eB : fullR L A [] = fullA L [] 61 [] A := if_pos c1
        rw [← eB] at hc1
        refine callG_c (by simp) (by simp) ?ha (hc1) ?_
        (case ha => simp (disch := first | omega | (simp; done) | fail) [wrap64c, if_pos, if_neg, lw, lA, g_h0, c1, c2b])
        have n1 := ha1.1.1
        have K1 := k_h0.trans ha1
        have g1 : h1.get h.next = .cells [a, b] true true 1 := by rw [ha1.1.2 _ n_h0]; exact g_h0
        by_cases c4 : (fullR L A []).isSome = true
        · have hG : ReG L A cs := ⟨c1, c4, c2, c3⟩
          try simp (disch := first | omega | (simp; done) | fail) [wrap64c, if_pos, if_neg, lw, lA, g_h0, c1, c2b, g1, c4]
          obtain ⟨u3, h3, hc3, ha3, hu3, _⟩ := l1Own_ok h1 b A (hA.keep K1.1) (by omega)
          refine callG_c (by simp) (by simp) ?ha (hc3) ?_
          (case ha => simp (disch := first | omega | (simp; done) | fail) [wrap64c, if_pos, if_neg, lw, lA, g_h0, c1, c2b, g1, c4])
          have n3 := ha3.1.1
          have K3 := K1.trans ha3
          have g3 : h3.get h.next = .cells [a, b] true true 1 := by rw [ha3.1.2 _ (by omega)]; exact g1
          try simp (disch := first | omega | (simp; done) | fail) [wrap64c, if_pos, if_neg, lw, lA, g_h0, c1, c2b, g1, c4, g3]
          obtain ⟨u4, h4, hc4, ha4, hu4, _⟩ := l1Own_ok h3 w cs (hw.keep K3.1) (by omega)
          refine callG_c (by simp) (by simp) ?ha (hc4) ?_
          (case ha => simp (disch := first | omega | (simp; done) | fail) [wrap64c, if_pos, if_neg, lw, lA, g_h0, c1, c2b, g1, c4, g3])
          have n4 := ha4.1.1
          have K4 := K3.trans ha4
          have g4 : h4.get h.next = .cells [a, b] true true 1 := by rw [ha4.1.2 _ (by omega)]; exact g3
          try simp (disch := first | omega | (simp; done) | fail) [wrap64c, if_pos, if_neg, lw, lA, g_h0, c1, c2b, g1, c4, g3, g4]
          refine WD_loopC [2, 10] (fun m tm h' => ∃ B k u mv F, m = 2 * k.sum.toNat + (if mv = true then 1 else 0) ∧ tm 9 = u ∧ tm 11 = .bool mv ∧ (Adds h h') ∧ (h4.next ≤ h'.next) ∧ (h'.get h.next = .cells [a, b] true true 1) ∧ (Due L A cs B k) ∧ (IntsO F h' u B) ∧ (∀ o, F o → o < h'.next ∧ ¬ Btw h3.next h4.next o ∧ h.next < o) ∧ (IntsO (Btw h3.next h4.next) h' u4 k) ∧ (mv = false → Stuck L B k)) _ ⟨A, cs, _, true, _, rfl, (by simp (disch := first | omega | (simp; done) | fail) [wrap64c, if_pos, if_neg, lw, lA, g_h0, c1, c2b, g1, c4, g3, g4]), (by simp (disch := first | omega | (simp; done) | fail) [wrap64c, if_pos, if_neg, lw, lA, g_h0, c1, c2b, g1, c4, g3, g4]), K4, (by first | omega | assumption | (simp (disch := first | omega | (simp; done) | fail) [wrap64c, if_pos, if_neg, lw, lA, g_h0, c1, c2b, g1, c4, g3, g4] <;> omega)), g4, (.refl _ _), (hu3.keep ha4.1), (fun o ho => by unfold Btw at *; omega), hu4, (fun e => by cases e)⟩ ?_
          rintro m tm h' hFr ⟨B, k, u, mv, F, rfl, e9, e11, ha, hn, hg, hD, hu, hF, hk, hmv⟩
          simp only [FrameL] at hFr
          obtain ⟨f2_0, f10_0, -⟩ := hFr
          try simp (disch := first | omega | (simp; done) | fail) [wrap64c, if_pos, if_neg, lw, lA, g_h0, c1, c2b, g1, c4, g3, g4] at f2_0 f10_0
          have e2 := f2_0
          have e10 := f10_0
          have hlen := hD.len
          have hoB := hD.ok ho
          have hkn := hD.nn fun x hx => (c3 x hx).1
          have lu := hu.lenD
          have ks := sum_nn hkn
          cases mv with
          | false =>
            try simp (disch := first | omega | (simp; done) | fail) [wrap64c, if_pos, if_neg, lw, lA, g_h0, c1, c2b, g1, c4, g3, g4, e2, e9, e10, e11, hg, lu]
            refine callG_c (by simp) (by simp) ?ha (l1All_ok h' u4 k 0 0 hk.ints) ?_
            (case ha => simp (disch := first | omega | (simp; done) | fail) [wrap64c, if_pos, if_neg, lw, lA, g_h0, c1, c2b, g1, c4, g3, g4, e2, e9, e10, e11, hg, lu])
            try simp (disch := first | omega | (simp; done) | fail) [wrap64c, if_pos, if_neg, lw, lA, g_h0, c1, c2b, g1, c4, g3, g4, e2, e9, e10, e11, hg, lu]
            rw [all_zero hkn, ← reB_eq hG hD (hmv rfl)]
            exact done_ret rfl (by simp [reG_true hG, ha.1])
          | true =>
            try simp (disch := first | omega | (simp; done) | fail) [wrap64c, if_pos, if_neg, lw, lA, g_h0, c1, c2b, g1, c4, g3, g4, e2, e9, e10, e11, hg, lu]
            refine WD_loopC [2, 10, 44] (fun m tm h' => ∃ j B2 k2 u2' mv2 F2, m = B.length - j ∧ tm 9 = u2' ∧ tm 11 = .bool mv2 ∧ tm 45 = .int .i64 (j : Int) ∧ (j ≤ B.length) ∧ (Adds h h') ∧ (h4.next ≤ h'.next) ∧ (h'.get h.next = .cells [a, b] true true 1) ∧ (Due L A cs B2 k2) ∧ (IntsO F2 h' u2' B2) ∧ (∀ o, F2 o → o < h'.next ∧ ¬ Btw h3.next h4.next o ∧ h.next < o) ∧ (IntsO (Btw h3.next h4.next) h' u4 k2) ∧ (k2.sum ≤ k.sum) ∧ (mv2 = true → k2.sum < k.sum) ∧ (mv2 = false → ∀ i, i < j → canB L B2 i = true → k2.getD i 0 ≤ 0)) _ ⟨0, B, k, u, false, F, rfl, (by simp (disch := first | omega | (simp; done) | fail) [wrap64c, if_pos, if_neg, lw, lA, g_h0, c1, c2b, g1, c4, g3, g4, e2, e9, e10, e11, hg, lu]), (by simp (disch := first | omega | (simp; done) | fail) [wrap64c, if_pos, if_neg, lw, lA, g_h0, c1, c2b, g1, c4, g3, g4, e2, e9, e10, e11, hg, lu]), (by simp (disch := first | omega | (simp; done) | fail) [wrap64c, if_pos, if_neg, lw, lA, g_h0, c1, c2b, g1, c4, g3, g4, e2, e9, e10, e11, hg, lu]), (by first | omega | assumption | (simp (disch := first | omega | (simp; done) | fail) [wrap64c, if_pos, if_neg, lw, lA, g_h0, c1, c2b, g1, c4, g3, g4, e2, e9, e10, e11, hg, lu] <;> omega)), ha, hn, hg, hD, hu, hF, hk, (by first | omega | assumption | (simp (disch := first | omega | (simp; done) | fail) [wrap64c, if_pos, if_neg, lw, lA, g_h0, c1, c2b, g1, c4, g3, g4, e2, e9, e10, e11, hg, lu] <;> omega)), (fun e => by cases e), (fun _ i hi => by omega)⟩ ?_
            rintro m tm h' hFr ⟨j, B2, k2, u2', mv2, F2, rfl, e9, e11, e45, hj, ha2, hn2, hg2, hD2, hu2, hF2, hk2, hs1, hs2, hs3⟩
            simp only [FrameL] at hFr
            obtain ⟨f2_1, f10_1, f44_1, -⟩ := hFr
            try simp (disch := first | omega | (simp; done) | fail) [wrap64c, if_pos, if_neg, lw, lA, g_h0, c1, c2b, g1, c4, g3, g4, e2, e9, e10, e11, hg, lu] at f2_1 f10_1 f44_1
            have e2 := f2_1
            have e10 := f10_1
            have e44 := f44_1
            have hlen2 := hD2.len
            have hoB2 := hD2.ok ho
            have hkn2 := hD2.nn fun x hx => (c3 x hx).1
            have ks2 := sum_nn hkn2
            by_cases hlt : j < B.length
            · have hjk : j < k2.length := by omega
              have hjB : j < B2.length := by omega
              have hkj := hkn2 _ (List.getElem_mem hjk)
              have hkj2 := le_sum hkn2 (List.getElem_mem hjk)
              have hks : k2.sum ≤ 1000 := by
                have e1 := hD2.le
                have : ∀ n, n ≤ k2.length → (k2.take n).sum ≤ 60 * (n : Int) := fun n hn' => (sum_take (by omega) (fun x hx => by
                  obtain ⟨i, hi, rfl⟩ := List.getElem_of_mem hx
                  have := e1 i
                  have e2 : k2.getD i 0 = k2[i] := by simp [hi]
                  have e3 : cs.getD i 0 = cs[i]'(by omega) := by simp [show i < cs.length by omega]
                  have := (c3 _ (List.getElem_mem (show i < cs.length by omega)))
                  exact ⟨hkn2 _ hx, by omega⟩) n hn').2
                have := this k2.length (Nat.le_refl _)
                rw [List.take_length] at this
                omega
              obtain ⟨o_z, i_z, c_z, cs_z, own_z, ex_z, es_z, q_z, b_z, g_z, l_z, r_z⟩ := (hk2.ints).open ((by omega))
              have z_z : ∀ h2 : i_z < cs_z.length, cs_z[i_z] = _ := fun h2 => r_z 0 ((by omega)) h2
              by_cases c5 : 0 < k2[j]
              · try simp (disch := first | omega | (simp; done) | fail) [wrap64c, if_pos, if_neg, lw, lA, g_h0, c1, c2b, g1, c4, g3, g4, e2, e9, e10, e11, hg, lu, e44, e45, hg2, hlt, q_z, g_z, l_z, r_z, z_z, c5]
                refine callG_c (by simp) (by simp) ?ha (waCan_ok h' _ u2' L A B2 j (hv0.keep ha2.1) hu2.ints hoB2.sh hjB) ?_
                (case ha => simp (disch := first | omega | (simp; done) | fail) [wrap64c, if_pos, if_neg, lw, lA, g_h0, c1, c2b, g1, c4, g3, g4, e2, e9, e10, e11, hg, lu, e44, e45, hg2, hlt, q_z, g_z, l_z, r_z, z_z, c5])
                by_cases c6 : canB L B2 j = true
                · try simp (disch := first | omega | (simp; done) | fail) [wrap64c, if_pos, if_neg, lw, lA, g_h0, c1, c2b, g1, c4, g3, g4, e2, e9, e10, e11, hg, lu, e44, e45, hg2, hlt, q_z, g_z, l_z, r_z, z_z, c5, c6]
                  obtain ⟨u6, h6, hc6, ha6, hu6⟩ := waMove_ok h' _ u2' L A B2 j (hv0.keep ha2.1) hu2.ints hoB2.sh hoB2.small hjB
                  refine callG_c (by simp) (by simp) ?ha (hc6) ?_
                  (case ha => simp (disch := first | omega | (simp; done) | fail) [wrap64c, if_pos, if_neg, lw, lA, g_h0, c1, c2b, g1, c4, g3, g4, e2, e9, e10, e11, hg, lu, e44, e45, hg2, hlt, q_z, g_z, l_z, r_z, z_z, c5, c6])
                  have n6 := ha6.1.1
                  have g6 : h6.get h.next = .cells [a, b] true true 1 := by rw [ha6.1.2 _ (by omega)]; exact hg2
                  have hk6 := hk2.keep ha6.1
                  have K6 := ha2.trans ha6
                  obtain ⟨o_z, i_z, c_z, cs_z, ex_z, q_z, S_z, b_z, g_z, l_z, r_z⟩ := hk6.open ((by omega))
                  have z_z : ∀ h2 : i_z < cs_z.length, cs_z[i_z] = _ := fun h2 => r_z 0 ((by omega)) h2
                  try simp (disch := first | omega | (simp; done) | fail) [wrap64c, if_pos, if_neg, lw, lA, g_h0, c1, c2b, g1, c4, g3, g4, e2, e9, e10, e11, hg, lu, e44, e45, hg2, hlt, q_z, g_z, l_z, r_z, z_z, c5, c6]
                  refine loopK_next _ ?hm ?hf ⟨j + 1, moveA L B2 j, k2.set j (k2[j] - 1), u6, true, (fun o => Btw h'.next h6.next o), rfl, (by simp (disch := first | omega | (simp; done) | fail) [wrap64c, if_pos, if_neg, lw, lA, g_h0, c1, c2b, g1, c4, g3, g4, e2, e9, e10, e11, hg, lu, e44, e45, hg2, hlt, q_z, g_z, l_z, r_z, z_z, c5, c6] <;> omega), (by simp (disch := first | omega | (simp; done) | fail) [wrap64c, if_pos, if_neg, lw, lA, g_h0, c1, c2b, g1, c4, g3, g4, e2, e9, e10, e11, hg, lu, e44, e45, hg2, hlt, q_z, g_z, l_z, r_z, z_z, c5, c6] <;> omega), (by simp (disch := first | omega | (simp; done) | fail) [wrap64c, if_pos, if_neg, lw, lA, g_h0, c1, c2b, g1, c4, g3, g4, e2, e9, e10, e11, hg, lu, e44, e45, hg2, hlt, q_z, g_z, l_z, r_z, z_z, c5, c6] <;> omega), (by first | omega | assumption | (simp (disch := first | omega | (simp; done) | fail) [wrap64c, if_pos, if_neg, lw, lA, g_h0, c1, c2b, g1, c4, g3, g4, e2, e9, e10, e11, hg, lu, e44, e45, hg2, hlt, q_z, g_z, l_z, r_z, z_z, c5, c6] <;> omega)), (by have := S_z.1; exact (by first | exact aK | exact kK)), (by simp; omega), (by simp [g6, show ¬ h.next = o_z by have := S_z.1; omega]), (hD2.step hjB c6 hjk c5), (hu6.same (Same.put (Same.refl _ _) (by have := S_z.2; unfold Btw; omega) _)), (fun o ho' => by unfold Btw at *; simp; omega), (hk6.write q_z (by omega) g_z _), (by rw [sum_set hjk]; omega), (fun _ => by rw [sum_set hjk]; omega), (fun e => by cases e)⟩
                  (case hm => first | omega | (simp; omega))
                  (case hf => simp [FrameL, lw, lA, g_h0, c1, c2b, g1, c4, g3, g4, e2, e9, e10, e11, hg, lu, e44, e45, hg2, hlt, q_z, g_z, l_z, r_z, z_z, c5, c6, f2_1, f10_1, f44_1])
                · have c6' : canB L B2 j = false := by simpa using c6
                  try simp (disch := first | omega | (simp; done) | fail) [wrap64c, if_pos, if_neg, lw, lA, g_h0, c1, c2b, g1, c4, g3, g4, e2, e9, e10, e11, hg, lu, e44, e45, hg2, hlt, q_z, g_z, l_z, r_z, z_z, c5, c6, c6']
                  refine loopK_next _ ?hm ?hf ⟨j + 1, B2, k2, u2', mv2, F2, rfl, (by simp (disch := first | omega | (simp; done) | fail) [wrap64c, if_pos, if_neg, lw, lA, g_h0, c1, c2b, g1, c4, g3, g4, e2, e9, e10, e11, hg, lu, e44, e45, hg2, hlt, q_z, g_z, l_z, r_z, z_z, c5, c6, c6'] <;> omega), (by simp (disch := first | omega | (simp; done) | fail) [wrap64c, if_pos, if_neg, lw, lA, g_h0, c1, c2b, g1, c4, g3, g4, e2, e9, e10, e11, hg, lu, e44, e45, hg2, hlt, q_z, g_z, l_z, r_z, z_z, c5, c6, c6'] <;> omega), (by simp (disch := first | omega | (simp; done) | fail) [wrap64c, if_pos, if_neg, lw, lA, g_h0, c1, c2b, g1, c4, g3, g4, e2, e9, e10, e11, hg, lu, e44, e45, hg2, hlt, q_z, g_z, l_z, r_z, z_z, c5, c6, c6'] <;> omega), (by first | omega | assumption | (simp (disch := first | omega | (simp; done) | fail) [wrap64c, if_pos, if_neg, lw, lA, g_h0, c1, c2b, g1, c4, g3, g4, e2, e9, e10, e11, hg, lu, e44, e45, hg2, hlt, q_z, g_z, l_z, r_z, z_z, c5, c6, c6'] <;> omega)), (by first | omega | assumption | (simp (disch := first | omega | (simp; done) | fail) [wrap64c, if_pos, if_neg, lw, lA, g_h0, c1, c2b, g1, c4, g3, g4, e2, e9, e10, e11, hg, lu, e44, e45, hg2, hlt, q_z, g_z, l_z, r_z, z_z, c5, c6, c6'] <;> omega)), (by first | omega | assumption | (simp (disch := first | omega | (simp; done) | fail) [wrap64c, if_pos, if_neg, lw, lA, g_h0, c1, c2b, g1, c4, g3, g4, e2, e9, e10, e11, hg, lu, e44, e45, hg2, hlt, q_z, g_z, l_z, r_z, z_z, c5, c6, c6'] <;> omega)), (by first | omega | assumption | (simp (disch := first | omega | (simp; done) | fail) [wrap64c, if_pos, if_neg, lw, lA, g_h0, c1, c2b, g1, c4, g3, g4, e2, e9, e10, e11, hg, lu, e44, e45, hg2, hlt, q_z, g_z, l_z, r_z, z_z, c5, c6, c6'] <;> omega)), (by first | omega | assumption | (simp (disch := first | omega | (simp; done) | fail) [wrap64c, if_pos, if_neg, lw, lA, g_h0, c1, c2b, g1, c4, g3, g4, e2, e9, e10, e11, hg, lu, e44, e45, hg2, hlt, q_z, g_z, l_z, r_z, z_z, c5, c6, c6'] <;> omega)), (by first | omega | assumption | (simp (disch := first | omega | (simp; done) | fail) [wrap64c, if_pos, if_neg, lw, lA, g_h0, c1, c2b, g1, c4, g3, g4, e2, e9, e10, e11, hg, lu, e44, e45, hg2, hlt, q_z, g_z, l_z, r_z, z_z, c5, c6, c6'] <;> omega)), (by first | omega | assumption | (simp (disch := first | omega | (simp; done) | fail) [wrap64c, if_pos, if_neg, lw, lA, g_h0, c1, c2b, g1, c4, g3, g4, e2, e9, e10, e11, hg, lu, e44, e45, hg2, hlt, q_z, g_z, l_z, r_z, z_z, c5, c6, c6'] <;> omega)), (by first | omega | assumption | (simp (disch := first | omega | (simp; done) | fail) [wrap64c, if_pos, if_neg, lw, lA, g_h0, c1, c2b, g1, c4, g3, g4, e2, e9, e10, e11, hg, lu, e44, e45, hg2, hlt, q_z, g_z, l_z, r_z, z_z, c5, c6, c6'] <;> omega)), (by first | omega | assumption | (simp (disch := first | omega | (simp; done) | fail) [wrap64c, if_pos, if_neg, lw, lA, g_h0, c1, c2b, g1, c4, g3, g4, e2, e9, e10, e11, hg, lu, e44, e45, hg2, hlt, q_z, g_z, l_z, r_z, z_z, c5, c6, c6'] <;> omega)), (by first | omega | assumption | (simp (disch := first | omega | (simp; done) | fail) [wrap64c, if_pos, if_neg, lw, lA, g_h0, c1, c2b, g1, c4, g3, g4, e2, e9, e10, e11, hg, lu, e44, e45, hg2, hlt, q_z, g_z, l_z, r_z, z_z, c5, c6, c6'] <;> omega)), ?c_hs3⟩
                  (case hm => first | omega | (simp; omega))
                  (case hf => simp [FrameL, lw, lA, g_h0, c1, c2b, g1, c4, g3, g4, e2, e9, e10, e11, hg, lu, e44, e45, hg2, hlt, q_z, g_z, l_z, r_z, z_z, c5, c6, c6', f2_1, f10_1, f44_1])
                  case c_hs3 =>
                    exact (fun e i hi hc => by
                      rcases Nat.lt_succ_iff_lt_or_eq.1 hi with q | q
                      · exact hs3 e i q hc
                      · subst q; rw [c6'] at hc; cases hc)
              · try simp (disch := first | omega | (simp; done) | fail) [wrap64c, if_pos, if_neg, lw, lA, g_h0, c1, c2b, g1, c4, g3, g4, e2, e9, e10, e11, hg, lu, e44, e45, hg2, hlt, q_z, g_z, l_z, r_z, z_z, c5]
                refine loopK_next _ ?hm ?hf ⟨j + 1, B2, k2, u2', mv2, F2, rfl, (by simp (disch := first | omega | (simp; done) | fail) [wrap64c, if_pos, if_neg, lw, lA, g_h0, c1, c2b, g1, c4, g3, g4, e2, e9, e10, e11, hg, lu, e44, e45, hg2, hlt, q_z, g_z, l_z, r_z, z_z, c5] <;> omega), (by simp (disch := first | omega | (simp; done) | fail) [wrap64c, if_pos, if_neg, lw, lA, g_h0, c1, c2b, g1, c4, g3, g4, e2, e9, e10, e11, hg, lu, e44, e45, hg2, hlt, q_z, g_z, l_z, r_z, z_z, c5] <;> omega), (by simp (disch := first | omega | (simp; done) | fail) [wrap64c, if_pos, if_neg, lw, lA, g_h0, c1, c2b, g1, c4, g3, g4, e2, e9, e10, e11, hg, lu, e44, e45, hg2, hlt, q_z, g_z, l_z, r_z, z_z, c5] <;> omega), (by first | omega | assumption | (simp (disch := first | omega | (simp; done) | fail) [wrap64c, if_pos, if_neg, lw, lA, g_h0, c1, c2b, g1, c4, g3, g4, e2, e9, e10, e11, hg, lu, e44, e45, hg2, hlt, q_z, g_z, l_z, r_z, z_z, c5] <;> omega)), (by first | omega | assumption | (simp (disch := first | omega | (simp; done) | fail) [wrap64c, if_pos, if_neg, lw, lA, g_h0, c1, c2b, g1, c4, g3, g4, e2, e9, e10, e11, hg, lu, e44, e45, hg2, hlt, q_z, g_z, l_z, r_z, z_z, c5] <;> omega)), (by first | omega | assumption | (simp (disch := first | omega | (simp; done) | fail) [wrap64c, if_pos, if_neg, lw, lA, g_h0, c1, c2b, g1, c4, g3, g4, e2, e9, e10, e11, hg, lu, e44, e45, hg2, hlt, q_z, g_z, l_z, r_z, z_z, c5] <;> omega)), (by first | omega | assumption | (simp (disch := first | omega | (simp; done) | fail) [wrap64c, if_pos, if_neg, lw, lA, g_h0, c1, c2b, g1, c4, g3, g4, e2, e9, e10, e11, hg, lu, e44, e45, hg2, hlt, q_z, g_z, l_z, r_z, z_z, c5] <;> omega)), (by first | omega | assumption | (simp (disch := first | omega | (simp; done) | fail) [wrap64c, if_pos, if_neg, lw, lA, g_h0, c1, c2b, g1, c4, g3, g4, e2, e9, e10, e11, hg, lu, e44, e45, hg2, hlt, q_z, g_z, l_z, r_z, z_z, c5] <;> omega)), (by first | omega | assumption | (simp (disch := first | omega | (simp; done) | fail) [wrap64c, if_pos, if_neg, lw, lA, g_h0, c1, c2b, g1, c4, g3, g4, e2, e9, e10, e11, hg, lu, e44, e45, hg2, hlt, q_z, g_z, l_z, r_z, z_z, c5] <;> omega)), (by first | omega | assumption | (simp (disch := first | omega | (simp; done) | fail) [wrap64c, if_pos, if_neg, lw, lA, g_h0, c1, c2b, g1, c4, g3, g4, e2, e9, e10, e11, hg, lu, e44, e45, hg2, hlt, q_z, g_z, l_z, r_z, z_z, c5] <;> omega)), (by first | omega | assumption | (simp (disch := first | omega | (simp; done) | fail) [wrap64c, if_pos, if_neg, lw, lA, g_h0, c1, c2b, g1, c4, g3, g4, e2, e9, e10, e11, hg, lu, e44, e45, hg2, hlt, q_z, g_z, l_z, r_z, z_z, c5] <;> omega)), (by first | omega | assumption | (simp (disch := first | omega | (simp; done) | fail) [wrap64c, if_pos, if_neg, lw, lA, g_h0, c1, c2b, g1, c4, g3, g4, e2, e9, e10, e11, hg, lu, e44, e45, hg2, hlt, q_z, g_z, l_z, r_z, z_z, c5] <;> omega)), (by first | omega | assumption | (simp (disch := first | omega | (simp; done) | fail) [wrap64c, if_pos, if_neg, lw, lA, g_h0, c1, c2b, g1, c4, g3, g4, e2, e9, e10, e11, hg, lu, e44, e45, hg2, hlt, q_z, g_z, l_z, r_z, z_z, c5] <;> omega)), ?c_hs3⟩
                (case hm => first | omega | (simp; omega))
                (case hf => simp [FrameL, lw, lA, g_h0, c1, c2b, g1, c4, g3, g4, e2, e9, e10, e11, hg, lu, e44, e45, hg2, hlt, q_z, g_z, l_z, r_z, z_z, c5, f2_1, f10_1, f44_1])
                case c_hs3 =>
                  exact (fun e i hi hc => by
                    rcases Nat.lt_succ_iff_lt_or_eq.1 hi with q | q
                    · exact hs3 e i q hc
                    · subst q; simp [hjk]; omega)
            · try simp (disch := first | omega | (simp; done) | fail) [wrap64c, if_pos, if_neg, lw, lA, g_h0, c1, c2b, g1, c4, g3, g4, e2, e9, e10, e11, hg, lu, e44, e45, hg2, hlt]
              have hj' : j = B.length := by omega
              subst hj'
              refine loopK_next _ ?hm ?hf ⟨B2, k2, u2', mv2, F2, rfl, (by simp (disch := first | omega | (simp; done) | fail) [wrap64c, if_pos, if_neg, lw, lA, g_h0, c1, c2b, g1, c4, g3, g4, e2, e9, e10, e11, hg, lu, e44, e45, hg2, hlt] <;> omega), (by simp (disch := first | omega | (simp; done) | fail) [wrap64c, if_pos, if_neg, lw, lA, g_h0, c1, c2b, g1, c4, g3, g4, e2, e9, e10, e11, hg, lu, e44, e45, hg2, hlt] <;> omega), ha2, hn2, hg2, hD2, hu2, hF2, hk2, (fun e i hi hc => hs3 e i (by omega) hc)⟩
              (case hm => exact (by by_cases e : mv2 = true; (have := hs2 e; simp only [e, if_true]; omega); (simp only [e, if_true]; simp; omega)))
              (case hf => simp [FrameL, lw, lA, g_h0, c1, c2b, g1, c4, g3, g4, e2, e9, e10, e11, hg, lu, e44, e45, hg2, hlt, f2_0, f10_0])
        · have c4' : (fullR L A []).isSome = false := by simpa using c4
          have hG : ¬ ReG L A cs := fun q => c4 q.2.1
          try simp (disch := first | omega | (simp; done) | fail) [wrap64c, if_pos, if_neg, lw, lA, g_h0, c1, c2b, g1, c4, c4']
          exact done_ret rfl (by simp [reG_false hG, reB_false hG, K1.1])
      · rw [decide_eq_false c3] at hc
        have hG : ¬ ReG L A cs := fun q => c3 q.2.2.2
        try simp (disch := first | omega | (simp; done) | fail) [wrap64c, if_pos, if_neg, lw, lA, g_h0, c1, c2b]
        refine callG_c (by simp) (by simp) ?ha (hc) ?_
        (case ha => simp (disch := first | omega | (simp; done) | fail) [wrap64c, if_pos, if_neg, lw, lA, g_h0, c1, c2b])
        try simp (disch := first | omega | (simp; done) | fail) [wrap64c, if_pos, if_neg, lw, lA, g_h0, c1, c2b]
        exact done_ret rfl (by simp [reG_false hG, reB_false hG, k_h0.1])
    · have c2b : ((cs.length : Int) != (A.length : Int)) = true := by simp [c2]
      have hG : ¬ ReG L A cs := fun q => c2 q.2.2.1
      try simp (disch := first | omega | (simp; done) | fail) [wrap64c, if_pos, if_neg, lw, lA, g_h0, c1, c2b]
      exact done_ret rfl (by simp [reG_false hG, reB_false hG, k_h0.1])
  · have c1' : goodB L A = false := by simpa using c1
    have hG : ¬ ReG L A cs := fun q => c1 q.1
    try simp (disch := first | omega | (simp; done) | fail) [wrap64c, if_pos, if_neg, lw, lA, g_h0, c1, c1']
    exact done_ret rfl (by simp [reG_false hG, reB_false hG, k_h0.1])

theorem reached1_ok (h : Hp) (x : Int) : CallOK Try.prog 68 #[.int .i64 x] h (.bool (!decide (0 ≤ x ∧ x ≤ 60))) h := by
  refine callY_P 6 _ [.tmp 2] Try.func68 rfl rfl rfl (by first | rfl | simp) ?_
  try simp (disch := first | omega | (simp; done) | fail) [wrap64c, if_pos, if_neg]
  refine callG_c (by simp) (by simp) ?ha (within_ok h x 0 60) ?_
  (case ha => simp (disch := first | omega | (simp; done) | fail) [wrap64c, if_pos, if_neg])
  try simp (disch := first | omega | (simp; done) | fail) [wrap64c, if_pos, if_neg]
  exact done_ret rfl (by simp)

theorem reached2_ok (h : Hp) (o : Nat) (u : Value) (k : List Int) (x : Int) (S : Nat → Prop) (ex : Bool) (hg : h.get o = .cells [u] true ex 1) (hk : IntsO S h u k) (h0 : 0 ≤ x) (h1 : x < k.length) :
    CallOK Try.prog 71 #[.int .i64 x, .pointer (some ⟨o, 0, none⟩)] h (.bool (decide (0 < k.getD x.toNat 0))) h := by
  refine callY_P 9 _ [.tmp 3] Try.func71 rfl rfl rfl (by first | rfl | simp) ?_
  obtain ⟨i, rfl⟩ : ∃ i : Nat, x = (i : Int) := ⟨x.toNat, by omega⟩
  have hi : i < k.length := by omega
  obtain ⟨o_z, i_z, c_z, cs_z, ex_z, q_z, S_z, b_z, g_z, l_z, r_z⟩ := hk.open ((by omega))
  have z_z : ∀ h2 : i_z < cs_z.length, cs_z[i_z] = _ := fun h2 => r_z 0 ((by omega)) h2
  have hg' := hg
  try simp (disch := first | omega | (simp; done) | fail) [wrap64c, if_pos, if_neg, q_z, g_z, l_z, r_z, z_z, hg']
  exact done_ret rfl (by simp [hi])

/-- The greatest of some numbers. -/
def maxL : List Int → Int
  | [] => 0
  | x :: l => l.foldl (fun a y => if y > a then y else a) x
theorem maxL_cons (x : Int) (l : List Int) : maxL (x :: l) = l.foldl (fun a y => if y > a then y else a) x := rfl
theorem foldl_max_ge (l : List Int) : ∀ (x : Int), x ≤ l.foldl (fun a y => if y > a then y else a) x ∧ (∀ y ∈ l, y ≤ l.foldl (fun a y => if y > a then y else a) x) ∧ (l.foldl (fun a y => if y > a then y else a) x = x ∨ l.foldl (fun a y => if y > a then y else a) x ∈ l) := by
  induction l with
  | nil => intro x; simp
  | cons y l ih =>
    intro x
    simp only [List.foldl_cons]
    obtain ⟨h1, h2, h3⟩ := ih (if y > x then y else x)
    have hx : x ≤ (if y > x then y else x) ∧ y ≤ (if y > x then y else x) := by split <;> omega
    refine ⟨Int.le_trans hx.1 h1, fun z hz => ?_, ?_⟩
    · rcases List.mem_cons.1 hz with rfl | hz
      · exact Int.le_trans hx.2 h1
      · exact h2 z hz
    · rcases h3 with h3 | h3
      · rw [h3]; split
        · exact .inr (List.mem_cons_self)
        · exact .inl rfl
      · exact .inr (List.mem_cons_of_mem _ h3)
theorem maxL_zero {k : List Int} (hk : 0 < k.length) (hn : ∀ x ∈ k, 0 ≤ x) : (maxL k == 0) = decide (∀ x ∈ k, x = 0) := by
  obtain ⟨x, l, rfl⟩ : ∃ x l, k = x :: l := by cases k with
    | nil => simp at hk
    | cons x l => exact ⟨x, l, rfl⟩
  rw [maxL_cons]
  obtain ⟨h1, h2, h3⟩ := foldl_max_ge l x
  have hx := hn x (List.mem_cons_self)
  by_cases hz : ∀ y ∈ x :: l, y = 0
  · rw [decide_eq_true hz]
    have e1 := hz x (List.mem_cons_self)
    have : l.foldl (fun a y => if y > a then y else a) x = 0 := by
      rcases h3 with h3 | h3
      · omega
      · exact hz _ (List.mem_cons_of_mem _ h3)
    simp [this]
  · rw [decide_eq_false hz]
    simp only [beq_eq_false_iff_ne]
    intro e
    apply hz
    intro y hy
    have := hn y hy
    rcases List.mem_cons.1 hy with rfl | hy
    · omega
    · have := h2 y hy; omega

theorem idxW_pos (p : Int → Bool) : ∀ (l : List Int) (j : Nat) (hj : j < l.length), idxW p l = (j : Int) → p l[j] = true
  | x :: l, j, hj, h => by
    unfold idxW at h
    split at h
    · rename_i hp
      have : j = 0 := by omega
      subst this
      simpa using hp
    · split at h
      · omega
      · obtain ⟨i, rfl⟩ : ∃ i, j = i + 1 := ⟨j - 1, by omega⟩
        simpa using idxW_pos p l i (by simpa using hj) (by omega)

theorem slMax_ok (h : Hp) (v : Value) (k : List Int) (hv : Ints h v k) (hk : 0 < k.length) : CallOK Try.prog 72 #[v] h (.int .i64 (maxL k)) h := by
  refine callY_P 25 _ [.tmp 2] Try.func72 rfl rfl rfl (by first | rfl | simp) ?_
  have hl := hv.len
  have lv := hv.lenD
  have hne : ¬ k = [] := by intro e; rw [e] at hk; simp at hk
  obtain ⟨x, l, rfl⟩ : ∃ x l, k = x :: l := by cases k with
    | nil => simp at hk
    | cons x l => exact ⟨x, l, rfl⟩
  have hl2 : (x :: l).length = l.length + 1 := rfl
  obtain ⟨o_z, i_z, c_z, cs_z, own_z, ex_z, es_z, q_z, b_z, g_z, l_z, r_z⟩ := hv.open (hk)
  have z_z : ∀ h2 : i_z < cs_z.length, cs_z[i_z] = _ := fun h2 => r_z 0 (hk) h2
  try simp (disch := first | omega | (simp; done) | fail) [wrap64c, if_pos, if_neg, lv, hne, q_z, g_z, l_z, r_z, z_z]
  refine WD_loopC [0] (fun m tm h' => ∃ j, m = (x :: l).length - j ∧ h = h' ∧ tm 3 = .int .i64 ((l.take (j - 1)).foldl (fun a y => if y > a then y else a) x) ∧ tm 4 = .int .i64 (j : Int) ∧ (1 ≤ j ∧ j ≤ (x :: l).length)) _ ⟨1, rfl, rfl, (by simp (disch := first | omega | (simp; done) | fail) [wrap64c, if_pos, if_neg, lv, hne, q_z, g_z, l_z, r_z, z_z]), (by simp (disch := first | omega | (simp; done) | fail) [wrap64c, if_pos, if_neg, lv, hne, q_z, g_z, l_z, r_z, z_z]), (by first | omega | assumption | (simp (disch := first | omega | (simp; done) | fail) [wrap64c, if_pos, if_neg, lv, hne, q_z, g_z, l_z, r_z, z_z] <;> omega))⟩ ?_
  rintro m tm h' hFr ⟨j, rfl, rfl, e3, e4, hj⟩
  simp only [FrameL] at hFr
  obtain ⟨f0_0, -⟩ := hFr
  try simp (disch := first | omega | (simp; done) | fail) [wrap64c, if_pos, if_neg, lv, hne, q_z, g_z, l_z, r_z, z_z] at f0_0
  have e0 := f0_0
  by_cases hlt : j < (x :: l).length
  · have hlt' : j - 1 < l.length := by simp at hlt; omega
    have ej : (x :: l)[j] = l[j - 1] := by
      obtain ⟨i, rfl⟩ : ∃ i, j = i + 1 := ⟨j - 1, by omega⟩
      simp
    have ej' := ej
    have es : (l.take (j + 1 - 1)).foldl (fun a y => if y > a then y else a) x = (if l[j - 1] > (l.take (j - 1)).foldl (fun a y => if y > a then y else a) x then l[j - 1] else (l.take (j - 1)).foldl (fun a y => if y > a then y else a) x) := by
      rw [show j + 1 - 1 = (j - 1) + 1 by omega, List.take_succ_eq_append_getElem hlt', List.foldl_append]; rfl
    try simp (disch := first | omega | (simp; done) | fail) [wrap64c, if_pos, if_neg, lv, hne, q_z, g_z, l_z, r_z, z_z, e0, e3, e4, hlt, ej']
    refine loopK_next _ ?hm ?hf ⟨j + 1, rfl, rfl, (by rw [es]; simp [ej]), (by simp (disch := first | omega | (simp; done) | fail) [wrap64c, if_pos, if_neg, lv, hne, q_z, g_z, l_z, r_z, z_z, e0, e3, e4, hlt, ej'] <;> omega), (by first | omega | assumption | (simp (disch := first | omega | (simp; done) | fail) [wrap64c, if_pos, if_neg, lv, hne, q_z, g_z, l_z, r_z, z_z, e0, e3, e4, hlt, ej'] <;> omega))⟩
    (case hm => first | omega | (simp; omega))
    (case hf => simp [FrameL, lv, hne, q_z, g_z, l_z, r_z, z_z, e0, e3, e4, hlt, ej', f0_0])
  · try simp (disch := first | omega | (simp; done) | fail) [wrap64c, if_pos, if_neg, lv, hne, q_z, g_z, l_z, r_z, z_z, e0, e3, e4, hlt]
    have : l.take (j - 1) = l := List.take_of_length_le (by simp at hlt hj; omega)
    exact done_ret rfl (by rw [maxL_cons]; simp [e3, this])

theorem imReachedBy_ok (h : Hp) (v w : Value) (L : List (List Int)) (A cs : List Int) (hv : Chips h v L A) (hw : Ints h w cs) : CallOK Try.prog 31 #[v, w] h (.tuple #[.bool (reB L A cs), .bool (reG L A cs)]) h := by
  refine callY_P 60 _ [.tmp 4, .tmp 5] Try.func31 rfl rfl rfl (by first | rfl | simp) ?_
  have hv0 := hv
  have hwl := hw.len
  have lw := hw.lenD
  obtain ⟨a, b, rfl, hL, hA⟩ := hv
  have lA := hA.lenD
  have hAl := hA.len
  refine WD_first ?_
  try simp (disch := first | omega | (simp; done) | fail) [wrap64c, if_pos, if_neg, lw, lA]
  refine stopK_heap fun h0 q_h0 => ?_
  refine stopK_go ?_
  have g_h0 : h0.get h.next = .cells [a, b] true true 1 := by simp [q_h0]
  have k_h0 : Adds h h0 := by rw [q_h0]; exact (by first | exact aK | exact kK)
  have n_h0 : h.next < h0.next := by simp [q_h0]; try omega
  try simp (disch := first | omega | (simp; done) | fail) [wrap64c, if_pos, if_neg, lw, lA, g_h0]
  obtain ⟨v1, h1, hc1, ha1, u1, u2, rfl, hu1, hu2⟩ := imFull_ok h0 _ (.slice none 0 0) L A [] (hv0.keep k_h0.1) (Ints.nil _) (by simp)
  obtain ⟨p0, q0, P1, P2, rfl, hp0, hq0, _, _, _⟩ := hu2
  refine callG_c (by simp) (by simp) ?ha (hc1) ?_
  (case ha => simp (disch := first | omega | (simp; done) | fail) [wrap64c, if_pos, if_neg, lw, lA, g_h0])
  have ntp0 := hp0.nt
  have csp0 := hp0.cs
  have ntq0 := hq0.nt
  have csq0 := hq0.cs
  have n1 := ha1.1.1
  have K1 := k_h0.trans ha1
  have g1 : h1.get h.next = .cells [a, b] true true 1 := by rw [ha1.1.2 _ n_h0]; exact g_h0
  try simp (disch := first | omega | (simp; done) | fail) [wrap64c, if_pos, if_neg, lw, lA, g_h0, ntp0, csp0, ntq0, csq0, g1, putCells, -wd_region, wd_region 0, wd_region 1, wd_region 3, wd_region 4, wd_region 5, wd_region 6, wd_region 7, wd_region 8, wd_region 9, wd_region 10]
  first | refine WY_heap fun h2 q_h2 => ?_ | refine callG_heap fun h2 q_h2 => ?_ | refine callP_heap fun h2 q_h2 => ?_ | refine callS_heap fun h2 q_h2 => ?_ | refine RY_heap fun h2 q_h2 => ?_ | refine PY_heap fun h2 q_h2 => ?_ | refine SY_heap fun h2 q_h2 => ?_ | refine doneY_heap fun h2 q_h2 => ?_ | refine loopK_heap fun h2 q_h2 => ?_ | refine thenY_heap fun h2 q_h2 => ?_ | refine thenM_heap fun h2 q_h2 => ?_
  have k12 : Adds h1 h2 := by rw [q_h2]; exact (by first | exact aK | exact kK)
  have n2 := k12.1.1
  have K2 := K1.trans k12
  have g2 : h2.get h.next = .cells [a, b] true true 1 := by rw [k12.1.2 _ (by omega)]; exact g1
  by_cases c4 : (fullR L A []).isSome = true
  · have c1 : goodB L A = true := by
      by_cases c1 : goodB L A = true
      · exact c1
      · rw [show fullR L A [] = none from if_neg c1] at c4; cases c4
    have ho := (good_of c1).ok
    have h5 := ho.le
    obtain ⟨r1, r2⟩ := row_le ho.sh
    by_cases c2 : cs.length = A.length
    · have c2b : ((cs.length : Int) != (A.length : Int)) = false := by simp [c2]
      obtain ⟨pq, hpq⟩ : ∃ pq : Int → Bool, pq = (fun x => !decide (0 ≤ x ∧ x ≤ 60)) := ⟨_, rfl⟩
      have hcf := containsFuncW_ok h2 w cs 68 #[] #[] pq (hw.keep K2.1) (by simp) (fun x _ => by rw [hpq]; simpa using reached1_ok h2 x)
      by_cases c3 : ∀ x ∈ cs, (0 : Int) ≤ x ∧ x ≤ 60
      · have hG : ReG L A cs := ⟨c1, c4, c2, c3⟩
        rw [idxW_none _ cs (fun x hx => by have := c3 x hx; rw [hpq]; simp; exact this)] at hcf
        try simp (disch := first | omega | (simp; done) | fail) [wrap64c, if_pos, if_neg, lw, lA, g_h0, ntp0, csp0, ntq0, csq0, g1, g2, c4, c2b]
        refine callG_c (by simp) (by simp) ?ha (hcf) ?_
        (case ha => simp (disch := first | omega | (simp; done) | fail) [wrap64c, if_pos, if_neg, lw, lA, g_h0, ntp0, csp0, ntq0, csq0, g1, g2, c4, c2b])
        try simp (disch := first | omega | (simp; done) | fail) [wrap64c, if_pos, if_neg, lw, lA, g_h0, ntp0, csp0, ntq0, csq0, g1, g2, c4, c2b]
        refine WD_drawC 6 rfl (by kernel_rfl) ?_
        try simp (disch := first | omega | (simp; done) | fail) [wrap64c, if_pos, if_neg, lw, lA, g_h0, ntp0, csp0, ntq0, csq0, g1, g2, c4, c2b]
        obtain ⟨u3, h3, hc3, ha3, hu3⟩ := clone_ok h2 w cs (hw.keep K2.1) (by omega)
        refine callP_c (by simp) (by simp) ?ha (hc3) ?hadd ?_
        (case ha => simp (disch := first | omega | (simp; done) | fail) [wrap64c, if_pos, if_neg, lw, lA, g_h0, ntp0, csp0, ntq0, csq0, g1, g2, c4, c2b])
        (case hadd => first | assumption | exact adds_self _ | (simp; done))
        have n3 := ha3.1.1
        have K3 := K2.trans ha3
        have g3 : h3.get h.next = .cells [a, b] true true 1 := by rw [ha3.1.2 _ (by omega)]; exact g2
        try simp (disch := first | omega | (simp; done) | fail) [wrap64c, if_pos, if_neg, lw, lA, g_h0, ntp0, csp0, ntq0, csq0, g1, g2, c4, c2b, g3]
        obtain ⟨v4, h4, hc4, ha4, hi4⟩ := imCopied_ok h3 _ L A (hv0.keep K3.1) r1 r2 (by omega)
        obtain ⟨p, q, S1, S2, rfl, hp, hq, s1, s2, s3⟩ := hi4
        refine callP_c (by simp) (by simp) ?ha (hc4) ?hadd ?_
        (case ha => simp (disch := first | omega | (simp; done) | fail) [wrap64c, if_pos, if_neg, lw, lA, g_h0, ntp0, csp0, ntq0, csq0, g1, g2, c4, c2b, g3])
        (case hadd => first | assumption | exact adds_self _ | (simp; done))
        have n4 := ha4.1.1
        have K4 := K3.trans ha4
        have ntp := hp.nt
        have csp := hp.cs
        have ntq := hq.nt
        have csq := hq.cs
        have nt3 := hu3.nt
        have cs3 := hu3.cs
        try simp (disch := first | omega | (simp; done) | fail) [wrap64c, if_pos, if_neg, lw, lA, g_h0, ntp0, csp0, ntq0, csq0, g1, g2, c4, c2b, g3, ntp, csp, ntq, csq, nt3, cs3, putCells]
        first | refine WY_heap fun h5' q_h5' => ?_ | refine callG_heap fun h5' q_h5' => ?_ | refine callP_heap fun h5' q_h5' => ?_ | refine callS_heap fun h5' q_h5' => ?_ | refine RY_heap fun h5' q_h5' => ?_ | refine PY_heap fun h5' q_h5' => ?_ | refine SY_heap fun h5' q_h5' => ?_ | refine doneY_heap fun h5' q_h5' => ?_ | refine loopK_heap fun h5' q_h5' => ?_ | refine thenY_heap fun h5' q_h5' => ?_ | refine thenM_heap fun h5' q_h5' => ?_
        have k5 : Adds h4 h5' := by rw [q_h5']; exact (by first | exact aK | exact kK)
        have n5 : h5'.next = h4.next + 2 := by simp [q_h5']
        have K5 := K4.trans k5
        have e5 : h5'.get h4.next = .cells [u3] true true 1 := by simp [q_h5']
        have f5 : h5'.get (h4.next + 1) = .cells [p, q] true true 1 := by simp [q_h5']
        refine WD_loopC [9, 10] (fun m tm h' => ∃ B k, m = k.sum.toNat ∧ (Adds h h') ∧ (h5'.next ≤ h'.next) ∧ (h'.get h4.next = .cells [u3] true true 1) ∧ (h'.get (h4.next + 1) = .cells [p, q] true true 1) ∧ (Due L A cs B k) ∧ (IRowsO S1 h' p L) ∧ (IntsO S2 h' q B) ∧ (IntsO (Btw h2.next h3.next) h' u3 k)) _ ⟨A, cs, rfl, K5, (by first | omega | assumption | (simp (disch := first | omega | (simp; done) | fail) [wrap64c, if_pos, if_neg, lw, lA, g_h0, ntp0, csp0, ntq0, csq0, g1, g2, c4, c2b, g3, ntp, csp, ntq, csq, nt3, cs3, e5, f5] <;> omega)), e5, f5, (.refl _ _), (hp.keep k5.1), (hq.keep k5.1), (hu3.keep (ha4.trans k5).1)⟩ ?_
        rintro m tm h' hFr ⟨B, k, rfl, ha, hn, hl, hs, hD, hp', hq', hk⟩
        simp only [FrameL] at hFr
        obtain ⟨f9_0, f10_0, -⟩ := hFr
        try simp (disch := first | omega | (simp; done) | fail) [wrap64c, if_pos, if_neg, lw, lA, g_h0, ntp0, csp0, ntq0, csq0, g1, g2, c4, c2b, g3, ntp, csp, ntq, csq, nt3, cs3, e5, f5] at f9_0 f10_0
        have e9 := f9_0
        have e10 := f10_0
        have hlen := hD.len
        have hoB := hD.ok ho
        have hkn := hD.nn fun x hx => (c3 x hx).1
        have ks := sum_nn hkn
        try simp (disch := first | omega | (simp; done) | fail) [wrap64c, if_pos, if_neg, lw, lA, g_h0, ntp0, csp0, ntq0, csq0, g1, g2, c4, c2b, g3, ntp, csp, ntq, csq, nt3, cs3, e5, f5, e9, e10, hl, hs]
        obtain ⟨u6, h6, hc6, ha6, hu6⟩ := imMoves_ok h' _ L B ⟨p, q, rfl, hp'.rows, hq'.ints⟩ hoB.sh
        refine callG_c (by simp) (by simp) ?ha (hc6) ?_
        (case ha => simp (disch := first | omega | (simp; done) | fail) [wrap64c, if_pos, if_neg, lw, lA, g_h0, ntp0, csp0, ntq0, csq0, g1, g2, c4, c2b, g3, ntp, csp, ntq, csq, nt3, cs3, e5, f5, e9, e10, hl, hs])
        have n6 := ha6.1.1
        have K6 := ha.trans ha6
        have l6 : h6.get h4.next = .cells [u3] true true 1 := by rw [ha6.1.2 _ (by omega)]; exact hl
        have s6 : h6.get (h4.next + 1) = .cells [p, q] true true 1 := by rw [ha6.1.2 _ (by omega)]; exact hs
        have hk6 := hk.keep ha6.1
        try simp (disch := first | omega | (simp; done) | fail) [wrap64c, if_pos, if_neg, lw, lA, g_h0, ntp0, csp0, ntq0, csq0, g1, g2, c4, c2b, g3, ntp, csp, ntq, csq, nt3, cs3, e5, f5, e9, e10, hl, hs, l6, s6]
        obtain ⟨pp, hpp⟩ : ∃ pp : Int → Bool, pp = (fun x => decide (0 < k.getD x.toNat 0)) := ⟨_, rfl⟩
        have hix := indexFuncW_ok h6 u6 (movesL L B) 71 #[] #[.pointer (some ⟨h4.next, 0, none⟩)] pp hu6.ints (by simp) (fun x hx => by
          obtain ⟨i, hi, rfl⟩ := List.getElem_of_mem hx
          obtain ⟨j, e, hj, _⟩ := movesL_get hi
          rw [e, hpp]
          exact reached2_ok h6 h4.next u3 k (j : Int) _ true l6 hk6 (by omega) (by omega))
        refine callG_c (by simp) (by simp) ?ha (hix) ?_
        (case ha => simp (disch := first | omega | (simp; done) | fail) [wrap64c, if_pos, if_neg, lw, lA, g_h0, ntp0, csp0, ntq0, csq0, g1, g2, c4, c2b, g3, ntp, csp, ntq, csq, nt3, cs3, e5, f5, e9, e10, hl, hs, l6, s6])
        have hrg := idxW_range pp (movesL L B)
        by_cases c6 : idxW pp (movesL L B) < 0
        · have hst : Stuck L B k := fun i hi hc => by
            have hm : (i : Int) ∈ movesL L B := List.mem_map.2 ⟨i, List.mem_filter.2 ⟨by simpa using hi, hc⟩, rfl⟩
            have := idxW_neg _ _ c6 _ hm
            rw [hpp] at this
            simp at this
            simpa using this
          try simp (disch := first | omega | (simp; done) | fail) [wrap64c, if_pos, if_neg, lw, lA, g_h0, ntp0, csp0, ntq0, csq0, g1, g2, c4, c2b, g3, ntp, csp, ntq, csq, nt3, cs3, e5, f5, e9, e10, hl, hs, l6, s6, c6]
          refine callG_c (by simp) (by simp) ?ha (slMax_ok h6 u3 k hk6.ints (by have := (good_of c1).1.1; omega)) ?_
          (case ha => simp (disch := first | omega | (simp; done) | fail) [wrap64c, if_pos, if_neg, lw, lA, g_h0, ntp0, csp0, ntq0, csq0, g1, g2, c4, c2b, g3, ntp, csp, ntq, csq, nt3, cs3, e5, f5, e9, e10, hl, hs, l6, s6, c6])
          try simp (disch := first | omega | (simp; done) | fail) [wrap64c, if_pos, if_neg, lw, lA, g_h0, ntp0, csp0, ntq0, csq0, g1, g2, c4, c2b, g3, ntp, csp, ntq, csq, nt3, cs3, e5, f5, e9, e10, hl, hs, l6, s6, c6]
          rw [maxL_zero (by have := (good_of c1).1.1; omega) hkn, ← reB_eq hG hD hst]
          exact done_ret rfl (by simp [reG_true hG, K6.1])
        · obtain ⟨j, hj⟩ : ∃ j : Nat, idxW pp (movesL L B) = (j : Int) := ⟨(idxW pp (movesL L B)).toNat, by omega⟩
          have hjm : j < (movesL L B).length := by omega
          obtain ⟨i, ei, hi, hci⟩ := movesL_get hjm
          have hpos := idxW_pos pp (movesL L B) j hjm hj
          rw [ei, hpp] at hpos
          have hik : i < k.length := by omega
          have hkp : 0 < k[i] := by simpa [hik] using hpos
          have hki := hD.le i
          have ek1 : k.getD i 0 = k[i] := by simp [hik]
          have ek2 : cs.getD i 0 = cs[i]'(by omega) := by simp [show i < cs.length by omega]
          have hcsi := c3 _ (List.getElem_mem (show i < cs.length by omega))
          have ei' := ei
          try simp (disch := first | omega | (simp; done) | fail) [wrap64c, if_pos, if_neg, lw, lA, g_h0, ntp0, csp0, ntq0, csq0, g1, g2, c4, c2b, g3, ntp, csp, ntq, csq, nt3, cs3, e5, f5, e9, e10, hl, hs, l6, s6, c6, hj, ei']
          obtain ⟨u7, h7, hc7, ha7, hu7⟩ := imMoves_ok h6 _ L B ⟨p, q, rfl, (hp'.keep ha6.1).rows, (hq'.keep ha6.1).ints⟩ hoB.sh
          refine callG_c (by simp) (by simp) ?ha (hc7) ?_
          (case ha => simp (disch := first | omega | (simp; done) | fail) [wrap64c, if_pos, if_neg, lw, lA, g_h0, ntp0, csp0, ntq0, csq0, g1, g2, c4, c2b, g3, ntp, csp, ntq, csq, nt3, cs3, e5, f5, e9, e10, hl, hs, l6, s6, c6, hj, ei'])
          have n7 := ha7.1.1
          have K7 := K6.trans ha7
          have l7 : h7.get h4.next = .cells [u3] true true 1 := by rw [ha7.1.2 _ (by omega)]; exact l6
          have s7 : h7.get (h4.next + 1) = .cells [p, q] true true 1 := by rw [ha7.1.2 _ (by omega)]; exact s6
          obtain ⟨o_y, i_y, c_y, cs_y, own_y, ex_y, es_y, q_y, b_y, g_y, l_y, r_y⟩ := (hu7.ints).open ((by omega))
          have z_y : ∀ h2 : i_y < cs_y.length, cs_y[i_y] = _ := fun h2 => r_y 0 ((by omega)) h2
          try simp (disch := first | omega | (simp; done) | fail) [wrap64c, if_pos, if_neg, lw, lA, g_h0, ntp0, csp0, ntq0, csq0, g1, g2, c4, c2b, g3, ntp, csp, ntq, csq, nt3, cs3, e5, f5, e9, e10, hl, hs, l6, s6, c6, hj, ei', l7, s7, q_y, g_y, l_y, r_y, z_y]
          have hp7 := (hp'.keep ha6.1).keep ha7.1
          have hq7 := (hq'.keep ha6.1).keep ha7.1
          obtain ⟨v8, h8, hc8, rfl, hW8, hu8⟩ := imMove_ok S2 S1 h7 p q L B i hp7.read hq7 s3 hoB.sh hoB.small hi
          refine callG_c (by simp) (by simp) ?ha (hc8) ?_
          (case ha => simp (disch := first | omega | (simp; done) | fail) [wrap64c, if_pos, if_neg, lw, lA, g_h0, ntp0, csp0, ntq0, csq0, g1, g2, c4, c2b, g3, ntp, csp, ntq, csq, nt3, cs3, e5, f5, e9, e10, hl, hs, l6, s6, c6, hj, ei', l7, s7, q_y, g_y, l_y, r_y, z_y])
          have n8 := hW8.upd.1
          have K8 : Adds h h8 := K7.wr hW8 fun o e => by have := s2 o e; unfold Btw at this; omega
          have l8 : h8.get h4.next = .cells [u3] true true 1 := by rw [hW8.upd.2 _ (by omega) (fun e => by have := s2 _ e; unfold Btw at this; omega)]; exact l7
          have s8 : h8.get (h4.next + 1) = .cells [p, q] true true 1 := by rw [hW8.upd.2 _ (by omega) (fun e => by have := s2 _ e; unfold Btw at this; omega)]; exact s7
          have hk8 := (hk6.keep ha7.1).same (hW8.upd.same fun x hx hx' => by have := s2 _ hx'; unfold Btw at *; omega)
          have hp8 := hp7.same (hW8.upd.same s3)
          obtain ⟨o_z, i_z, c_z, cs_z, ex_z, q_z, S_z, b_z, g_z, l_z, r_z⟩ := hk8.open ((by omega))
          have z_z : ∀ h2 : i_z < cs_z.length, cs_z[i_z] = _ := fun h2 => r_z 0 ((by omega)) h2
          try simp (disch := first | omega | (simp; done) | fail) [wrap64c, if_pos, if_neg, lw, lA, g_h0, ntp0, csp0, ntq0, csq0, g1, g2, c4, c2b, g3, ntp, csp, ntq, csq, nt3, cs3, e5, f5, e9, e10, hl, hs, l6, s6, c6, hj, ei', l7, s7, q_y, g_y, l_y, r_y, z_y, l8, q_z, g_z, l_z, r_z, z_z]
          have hkis := le_sum hkn (List.getElem_mem hik)
          refine loopK_next _ ?hm ?hf ⟨moveA L B i, k.set i (k[i] - 1), rfl, (by have := S_z.1; exact (by first | exact aK | exact kK)), (by simp; omega), (by simp [l8, show ¬ h4.next = o_z by have := S_z.2; omega]), (by simp [s8, show ¬ h4.next + 1 = o_z by have := S_z.2; omega]), (hD.step hi hci hik hkp), (hp8.same (Same.put (Same.refl _ _) (fun e => by have := s1 _ e; have := S_z.2; unfold Btw at *; omega) _)), (hu8.same (Same.put (Same.refl _ _) (fun e => by have := s2 _ e; have := S_z.2; unfold Btw at *; omega) _)), (hk8.write q_z (by omega) g_z _)⟩
          (case hm => exact (by rw [sum_set hik]; omega))
          (case hf => simp [FrameL, lw, lA, g_h0, ntp0, csp0, ntq0, csq0, g1, g2, c4, c2b, g3, ntp, csp, ntq, csq, nt3, cs3, e5, f5, e9, e10, hl, hs, l6, s6, c6, hj, ei', l7, s7, q_y, g_y, l_y, r_y, z_y, l8, q_z, g_z, l_z, r_z, z_z, f9_0, f10_0])
      · have hG : ¬ ReG L A cs := fun q => c3 q.2.2.2
        have c5 : 0 ≤ idxW pq cs := by
          rcases Int.lt_or_le (idxW pq cs) 0 with hn | hn
          · exact absurd (fun x hx => by have := idxW_neg _ cs hn x hx; rw [hpq] at this; simpa using this) c3
          · exact hn
        rw [decide_eq_true c5] at hcf
        try simp (disch := first | omega | (simp; done) | fail) [wrap64c, if_pos, if_neg, lw, lA, g_h0, ntp0, csp0, ntq0, csq0, g1, g2, c4, c2b]
        refine callG_c (by simp) (by simp) ?ha (hcf) ?_
        (case ha => simp (disch := first | omega | (simp; done) | fail) [wrap64c, if_pos, if_neg, lw, lA, g_h0, ntp0, csp0, ntq0, csq0, g1, g2, c4, c2b])
        try simp (disch := first | omega | (simp; done) | fail) [wrap64c, if_pos, if_neg, lw, lA, g_h0, ntp0, csp0, ntq0, csq0, g1, g2, c4, c2b]
        exact done_ret rfl (by simp [reG_false hG, reB_false hG, K2.1])
    · have c2b : ((cs.length : Int) != (A.length : Int)) = true := by simp [c2]
      have hG : ¬ ReG L A cs := fun q => c2 q.2.2.1
      try simp (disch := first | omega | (simp; done) | fail) [wrap64c, if_pos, if_neg, lw, lA, g_h0, ntp0, csp0, ntq0, csq0, g1, g2, c4, c2b]
      exact done_ret rfl (by simp [reG_false hG, reB_false hG, K2.1])
  · have c4' : (fullR L A []).isSome = false := by simpa using c4
    have hG : ¬ ReG L A cs := fun q => c4 q.2.1
    try simp (disch := first | omega | (simp; done) | fail) [wrap64c, if_pos, if_neg, lw, lA, g_h0, ntp0, csp0, ntq0, csq0, g1, g2, c4, c4']
    exact done_ret rfl (by simp [reG_false hG, reB_false hG, K2.1])
end Go.Proofs.Ytnnjehonbolliaa
