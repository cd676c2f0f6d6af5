/- Chips that are moved by the program: one move, copies. -/
import Derived.Test.YtnnjehonbolliaaA7
import Derived.Test.YtnnjehonbolliaaEngZb
namespace Go.Proofs.Ytnnjehonbolliaa
set_option linter.unusedSimpArgs false
set_option linter.unusedVariables false
set_option maxHeartbeats 4000000
open Go Go.Eng
attribute [local irreducible] WD RunD PreD Runs CallOK

theorem imMove_ok (S F : Nat → Prop) (h : Hp) (a b : Value) (L : List (List Int)) (A : List Int) (i : Nat) (hL : IRowsF F h a L) (hA : IntsO S h b A) (hd : ∀ x, F x → ¬ S x) (hs : Shape L A.length) (hSm : Small A) (hi : i < A.length) :
    ∃ v' h', CallOK Try.prog 54 #[.agg #[a, b], .int .i64 i] h v' h' ∧ v' = undef ∧ Wr S h h' ∧ IntsO S h' b (moveA L A i) := by
  refine callY_L (args := [.agg #[a, b], .int .i64 i]) 36 _ [] Try.func54 rfl rfl rfl ?_
  have h5 := hs.le
  have hi' : i < L.length := by have := hs.len; omega
  have h1 := hs.at hi'
  have hdg := hs.deg hi
  have sAi := hSm.at hi
  have hA1 := hA.cut
  refine WD_first ?_
  try simp (disch := first | omega | (simp; done) | fail) [wrap64c, if_pos, if_neg]
  refine stopK_heap fun h0 q_h0 => ?_
  refine stopK_go ?_
  have g_h0 : h0.get h.next = .cells [a, b] true true 1 := by simp [q_h0]
  have k_h0 : Adds h h0 := by rw [q_h0]; exact (by first | exact aK | exact kK)
  have n_h0 : h.next < h0.next := by simp [q_h0]; try omega
  have hL0 := hL.keep k_h0.1
  have hA0 := hA1.keep k_h0.1
  obtain ⟨o_w, i_w, c_w, cs_w, ex_w, q_w, S_w, b_w, g_w, l_w, r_w⟩ := hA0.open ((by omega))
  have z_w : ∀ h2 : i_w < cs_w.length, cs_w[i_w] = _ := fun h2 => r_w 0 ((by omega)) h2
  try simp (disch := first | omega | (simp; done) | fail) [wrap64c, if_pos, if_neg, g_h0, q_w, g_w, l_w, r_w, z_w]
  refine WD_drawC 8 rfl (by kernel_rfl) ?_
  try simp (disch := first | omega | (simp; done) | fail) [wrap64c, if_pos, if_neg, g_h0, q_w, g_w, l_w, r_w, z_w]
  refine callP_c (by simp) (by simp) ?ha (imDegree_ok h0 _ L A _ i ⟨a, b, rfl, hL0.rows, hA0.ints⟩ hs hi) ?hadd ?_
  (case ha => simp (disch := first | omega | (simp; done) | fail) [wrap64c, if_pos, if_neg, g_h0, q_w, g_w, l_w, r_w, z_w])
  (case hadd => first | assumption | exact adds_self _ | (simp; done))
  try simp (disch := first | omega | (simp; done) | fail) [wrap64c, if_pos, if_neg, g_h0, q_w, g_w, l_w, r_w, z_w, -wd_region, wd_region 0, wd_region 1, wd_region 3, wd_region 4, wd_region 5, wd_region 6]
  first | refine WY_heap fun h2 q_h2 => ?_ | refine callG_heap fun h2 q_h2 => ?_ | refine callP_heap fun h2 q_h2 => ?_ | refine callS_heap fun h2 q_h2 => ?_ | refine RY_heap fun h2 q_h2 => ?_ | refine PY_heap fun h2 q_h2 => ?_ | refine SY_heap fun h2 q_h2 => ?_ | refine doneY_heap fun h2 q_h2 => ?_ | refine loopK_heap fun h2 q_h2 => ?_ | refine thenY_heap fun h2 q_h2 => ?_ | refine thenM_heap fun h2 q_h2 => ?_
  obtain ⟨B0, eB0⟩ : ∃ B0, B0 = A.set i (A[i] - deg L i) := ⟨_, rfl⟩
  have lB0 : B0.length = A.length := by rw [eB0]; simp
  have hu2 : IntsO (fun x => S x ∧ x < h.next) h2 b B0 := by rw [q_h2, eB0]; exact hA0.write q_w (by omega) g_w _
  have W2 : Wr (fun x => S x ∧ x < h.next) h0 h2 := by rw [q_h2]; exact (Wr.refl _ _).put S_w fun _ => rfl
  have U2 := W2.upd
  have n2 : h2.next = h0.next := by rw [q_h2]; rfl
  have g2 : h2.get h.next = .cells [a, b] true true 1 := by rw [U2.2 _ n_h0 (by omega)]; exact g_h0
  obtain ⟨o_x, i_x, c_x, cs_x, own_x, ex_x, es_x, us_x, q_x, b_x, g_x, l_x, r_x, R_x⟩ := (hL0.same (U2.same fun x hx hx' => hd x hx hx'.1)).open ((by omega))
  have z_x : ∀ h2 : i_x < cs_x.length, cs_x[i_x] = _ := fun h2 => r_x 0 ((by omega)) h2
  have hr := R_x i hi'
  have lr := hr.lenD
  try simp (disch := first | omega | (simp; done) | fail) [wrap64c, if_pos, if_neg, g_h0, q_w, g_w, l_w, r_w, z_w, g2, q_x, g_x, l_x, r_x, z_x, lr]
  refine WD_loopC [2, 20, 21] (fun m tm h' => ∃ j B, m = L[i].length - j ∧ tm 22 = .int .i64 (j : Int) ∧ (j ≤ L[i].length) ∧ (Wr (fun x => S x ∧ x < h.next) h0 h') ∧ (IntsF F h' (us_x i) L[i]) ∧ (h'.next = h0.next) ∧ (IntsO (fun x => S x ∧ x < h.next) h' b B) ∧ (B.length = A.length) ∧ (∀ k (hk : k < B.length) (hk' : k < A.length), B[k] = A[k] + (if k < j then (L[i].getD k 0) else 0) - (if k = i then deg L i else 0))) _ ⟨0, B0, rfl, (by simp (disch := first | omega | (simp; done) | fail) [wrap64c, if_pos, if_neg, g_h0, q_w, g_w, l_w, r_w, z_w, g2, q_x, g_x, l_x, r_x, z_x, lr]), (by first | omega | assumption | (simp (disch := first | omega | (simp; done) | fail) [wrap64c, if_pos, if_neg, g_h0, q_w, g_w, l_w, r_w, z_w, g2, q_x, g_x, l_x, r_x, z_x, lr] <;> omega)), W2, hr, n2, hu2, lB0, (by intro k hk hk'; subst eB0; rw [List.getElem_set]; exact if e : i = k then (by subst e; simp) else (by simp [e, Ne.symm e]))⟩ ?_
  rintro m tm h' hFr ⟨j, B, rfl, e22, hj, hW, hr', hn, hy, hB, hx⟩
  simp only [FrameL] at hFr
  obtain ⟨f2_0, f20_0, f21_0, -⟩ := hFr
  try simp (disch := first | omega | (simp; done) | fail) [wrap64c, if_pos, if_neg, g_h0, q_w, g_w, l_w, r_w, z_w, g2, q_x, g_x, l_x, r_x, z_x, lr] at f2_0 f20_0 f21_0
  have e2 := f2_0
  have e20 := f20_0
  have e21 := f21_0
  have hu := hW.upd
  have g3 : h'.get h.next = .cells [a, b] true true 1 := by rw [hu.2 _ n_h0 (by omega)]; exact g_h0
  by_cases hlt : j < L[i].length
  · have hjA : j < A.length := by omega
    have b1 := h1.2 _ (List.getElem_mem hlt)
    have hBj := hx j (by omega) hjA
    have sA2 := hSm.at hjA
    have bj : B[j] ≤ 1100 ∧ -1100 ≤ B[j] := by
      rw [hBj]; simp; split <;> omega
    obtain ⟨o_u, i_u, c_u, cs_u, own_u, ex_u, es_u, q_u, b_u, g_u, l_u, r_u⟩ := hr'.open ((by omega))
    have z_u : ∀ h2 : i_u < cs_u.length, cs_u[i_u] = _ := fun h2 => r_u 0 ((by omega)) h2
    obtain ⟨o_w, i_w, c_w, cs_w, ex_w, q_w, S_w, b_w, g_w, l_w, r_w⟩ := hy.open ((by omega))
    have z_w : ∀ h2 : i_w < cs_w.length, cs_w[i_w] = _ := fun h2 => r_w 0 ((by omega)) h2
    try simp (disch := first | omega | (simp; done) | fail) [wrap64c, if_pos, if_neg, g_h0, q_w, g_w, l_w, r_w, z_w, g2, q_x, g_x, l_x, r_x, z_x, lr, e2, e20, e21, e22, g3, hlt, q_u, g_u, l_u, r_u, z_u]
    refine loopK_next _ ?hm ?hf ⟨j + 1, B.set j (B[j] + L[i][j]), rfl, (by simp (disch := first | omega | (simp; done) | fail) [wrap64c, if_pos, if_neg, g_h0, q_w, g_w, l_w, r_w, z_w, g2, q_x, g_x, l_x, r_x, z_x, lr, e2, e20, e21, e22, g3, hlt, q_u, g_u, l_u, r_u, z_u] <;> omega), (by first | omega | assumption | (simp (disch := first | omega | (simp; done) | fail) [wrap64c, if_pos, if_neg, g_h0, q_w, g_w, l_w, r_w, z_w, g2, q_x, g_x, l_x, r_x, z_x, lr, e2, e20, e21, e22, g3, hlt, q_u, g_u, l_u, r_u, z_u] <;> omega)), (hW.put S_w fun _ => rfl), (hr'.same (Same.put (Same.refl _ _) (fun e => hd _ e S_w.1) _)), (by simp [hn]), (hy.write q_w (by omega) g_w _), (by simp [hB]), ?c_hx⟩
    (case hm => first | omega | (simp; omega))
    (case hf => simp [FrameL, g_h0, q_w, g_w, l_w, r_w, z_w, g2, q_x, g_x, l_x, r_x, z_x, lr, e2, e20, e21, e22, g3, hlt, q_u, g_u, l_u, r_u, z_u, f2_0, f20_0, f21_0])
    case c_hx =>
      exact (fun k hk1 hk2 => by
        rw [List.getElem_set]
        by_cases hjk : j = k
        · subst hjk; simp [hBj, hlt]; omega
        · have e1 := hx k (by simpa using hk1) hk2
          have : k < j + 1 ↔ k < j := by omega
          simp [hjk, e1, this])
  · try simp (disch := first | omega | (simp; done) | fail) [wrap64c, if_pos, if_neg, g_h0, q_w, g_w, l_w, r_w, z_w, g2, q_x, g_x, l_x, r_x, z_x, lr, e2, e20, e21, e22, g3, hlt]
    have hj' : j = L[i].length := by omega
    subst hj'
    have e : B = moveA L A i := List.ext_getElem (by simp [hB]) fun k h1' h2' => by
      have hk' : k < A.length := by omega
      rw [hx k h1' hk', moveA_get L A i k hk' h2' hi' (by omega)]
      simp [show k < L[i].length by omega]
    have hy' : IntsO (fun x => S x ∧ x < h.next) h' b (moveA L A i) := e ▸ hy
    exact done_end rfl ⟨rfl, (Wr.of_adds k_h0).trans (hW.mono fun x _ hx => hx.1), hy'.sub fun x hx => hx.1⟩

theorem clone_ok (h : Hp) (v : Value) (xs : List Int) (hv : Ints h v xs) (hl : xs.length < 2 ^ 39) : ∃ v' h', CallOK Try.prog 69 #[v] h v' h' ∧ Adds h h' ∧ IntsO (Btw h.next h'.next) h' v' xs := by
  refine callY_L (args := [v]) 8 _ [.tmp 2] Try.func69 rfl rfl rfl ?_
  have hv0 := hv
  obtain ⟨s, c, e, hc, hc', hx⟩ := hv
  have e' := e
  cases s with
  | none =>
    have hxs : xs = [] := by
      cases xs with
      | nil => rfl
      | cons x xs => obtain ⟨o, i, cs, own, ex, es, h1, _⟩ := hx 0 x rfl; cases h1
    subst hxs
    try simp (disch := first | omega | (simp; done) | fail) [wrap64c, if_pos, if_neg, e', Try.underlying25]
    exact done_ret rfl ⟨Adds.refl _, .nil _ _⟩
  | some ad =>
    try simp (disch := first | omega | (simp; done) | fail) [wrap64c, if_pos, if_neg, e', Try.underlying25]
    first | refine WY_heap fun h1 q_h1 => ?_ | refine callG_heap fun h1 q_h1 => ?_ | refine callP_heap fun h1 q_h1 => ?_ | refine callS_heap fun h1 q_h1 => ?_ | refine RY_heap fun h1 q_h1 => ?_ | refine PY_heap fun h1 q_h1 => ?_ | refine SY_heap fun h1 q_h1 => ?_ | refine doneY_heap fun h1 q_h1 => ?_ | refine loopK_heap fun h1 q_h1 => ?_ | refine thenY_heap fun h1 q_h1 => ?_ | refine thenM_heap fun h1 q_h1 => ?_
    have k1 : Adds h h1 := by rw [q_h1]; exact (by first | exact aK | exact kK)
    have hA : IntsA h.next h1 (.slice (some ⟨h.next, 0, none⟩) 0 0) [] := .lit (ex := true) (Nat.le_refl _) (by simp [q_h1]) (by simp [q_h1])
    obtain ⟨v2, h2, hap, hA2, k2, n2, s2⟩ := append_ints (P := Try.prog) (t := 25) (t' := 25) hA (hv0.keep k1.1) ty_elT_25 ty_szT_3 ty_zeroT_3 ty_byT_3 (by decide) (by decide) (by simp) (by simp; omega) (by simp [q_h1]) k1 (Nat.le_refl _)
    rw [e] at hap
    simp only [List.nil_append] at hA2
    try simp (disch := first | omega | (simp; done) | fail) [wrap64c, if_pos, if_neg, e', hap]
    exact done_ret rfl ⟨k2, hA2.own (by omega)⟩

theorem imCopied_ok (h : Hp) (v : Value) (L : List (List Int)) (A : List Int) (hv : Chips h v L A) (hl : L.length < 2 ^ 39) (hr : ∀ x ∈ L, x.length < 2 ^ 39) (hla : A.length < 2 ^ 39) :
    ∃ v' h', CallOK Try.prog 52 #[v] h v' h' ∧ Adds h h' ∧ ChipsO (Btw h.next h'.next) h' v' L A := by
  refine callY_L (args := [v]) 26 _ [.cell 2 27] Try.func52 rfl rfl rfl ?_
  obtain ⟨a, b, rfl, hL, hA⟩ := hv
  refine WD_first ?_
  try simp (disch := first | omega | (simp; done) | fail) [wrap64c, if_pos, if_neg]
  refine stopK_heap fun h0 q_h0 => ?_
  refine stopK_go ?_
  have k0 : Adds h h0 := by rw [q_h0]; exact (by first | exact aK | exact kK)
  have n0 : h0.next = h.next + 2 := by simp [q_h0]
  have g0 : h0.get h.next = .cells [a, b] true true 1 := by simp [q_h0]
  have z0 : h0.get (h.next + 1) = .cells [.slice none 0 0, .slice none 0 0] true true 1 := by simp [q_h0]
  try simp (disch := first | omega | (simp; done) | fail) [wrap64c, if_pos, if_neg, g0, z0]
  obtain ⟨u1, h1, hc1, ha1, hu1⟩ := clone_ok h0 b A (hA.keep k0.1) hla
  refine callG_c (by simp) (by simp) ?ha (hc1) ?_
  (case ha => simp (disch := first | omega | (simp; done) | fail) [wrap64c, if_pos, if_neg, g0, z0])
  have nt1 := hu1.nt
  have cs1 := hu1.cs
  have lL := hL.lenD
  have n1 := ha1.1.1
  have K1 := k0.trans ha1
  have g1 : h1.get h.next = .cells [a, b] true true 1 := by rw [ha1.1.2 _ (by omega)]; exact g0
  try simp (disch := first | omega | (simp; done) | fail) [wrap64c, if_pos, if_neg, g0, z0, nt1, cs1, lL, g1, putCells]
  first | refine WY_heap fun h2 q_h2 => ?_ | refine callG_heap fun h2 q_h2 => ?_ | refine callP_heap fun h2 q_h2 => ?_ | refine callS_heap fun h2 q_h2 => ?_ | refine RY_heap fun h2 q_h2 => ?_ | refine PY_heap fun h2 q_h2 => ?_ | refine SY_heap fun h2 q_h2 => ?_ | refine doneY_heap fun h2 q_h2 => ?_ | refine loopK_heap fun h2 q_h2 => ?_ | refine thenY_heap fun h2 q_h2 => ?_ | refine thenM_heap fun h2 q_h2 => ?_
  have K12 : Adds h1 h2 := by rw [q_h2]; exact (by first | exact aK | exact kK)
  have K2 := K1.trans K12
  have n2 : h2.next = h1.next + 1 := by simp [q_h2]
  have g2 : h2.get h1.next = .cells [.slice none 0 0, u1] true true 1 := by simp [q_h2]
  have z2 : h2.get (h.next + 1) = .cells [.slice none 0 0, .slice none 0 0] true true 1 := by rw [(ha1.trans K12).1.2 _ (by omega)]; exact z0
  refine WD_loopC [2, 3, 11, 12] (fun m tm h' => ∃ j u, m = L.length - j ∧ tm 13 = .int .i64 (j : Int) ∧ (j ≤ L.length) ∧ (Adds h h') ∧ (h2.next ≤ h'.next) ∧ (h'.get h1.next = .cells [u, u1] true true 1) ∧ (h'.get (h.next + 1) = .cells [.slice none 0 0, .slice none 0 0] true true 1) ∧ (IRowsA h2.next h' u (L.take j)) ∧ (IntsO (Btw h0.next h1.next) h' u1 A)) _ ⟨0, .slice none 0 0, rfl, (by simp (disch := first | omega | (simp; done) | fail) [wrap64c, if_pos, if_neg, g0, z0, nt1, cs1, lL, g1, g2, z2]), (by first | omega | assumption | (simp (disch := first | omega | (simp; done) | fail) [wrap64c, if_pos, if_neg, g0, z0, nt1, cs1, lL, g1, g2, z2] <;> omega)), K2, (by first | omega | assumption | (simp (disch := first | omega | (simp; done) | fail) [wrap64c, if_pos, if_neg, g0, z0, nt1, cs1, lL, g1, g2, z2] <;> omega)), g2, z2, (by simpa using IRowsA.nil _ _), (hu1.keep K12.1)⟩ ?_
  rintro m tm h' hFr ⟨j, u, rfl, e13, hj, ha, hn, hg, hz, hu, hb⟩
  simp only [FrameL] at hFr
  obtain ⟨f2_0, f3_0, f11_0, f12_0, -⟩ := hFr
  try simp (disch := first | omega | (simp; done) | fail) [wrap64c, if_pos, if_neg, g0, z0, nt1, cs1, lL, g1, g2, z2] at f2_0 f3_0 f11_0 f12_0
  have e2 := f2_0
  have e3 := f3_0
  have e11 := f11_0
  have e12 := f12_0
  have ntu := hu.nt
  by_cases hlt : j < L.length
  · obtain ⟨o_x, i_x, c_x, cs_x, own_x, ex_x, es_x, us_x, q_x, b_x, g_x, l_x, r_x, R_x⟩ := (hL.keep ha.1).open ((by omega))
    have z_x : ∀ h2 : i_x < cs_x.length, cs_x[i_x] = _ := fun h2 => r_x 0 ((by omega)) h2
    try simp (disch := first | omega | (simp; done) | fail) [wrap64c, if_pos, if_neg, g0, z0, nt1, cs1, lL, g1, g2, z2, e2, e3, e11, e12, e13, hg, ntu, hlt, q_x, g_x, l_x, r_x, z_x]
    refine WD_drawC 5 rfl (by kernel_rfl) ?_
    try simp (disch := first | omega | (simp; done) | fail) [wrap64c, if_pos, if_neg, g0, z0, nt1, cs1, lL, g1, g2, z2, e2, e3, e11, e12, e13, hg, ntu, hlt, q_x, g_x, l_x, r_x, z_x]
    obtain ⟨u3, h3, hc3, ha3, hu3⟩ := clone_ok h' (us_x j) L[j] (R_x j hlt) (hr _ (List.getElem_mem hlt))
    refine callP_c (by simp) (by simp) ?ha (hc3) ?hadd ?_
    (case ha => simp (disch := first | omega | (simp; done) | fail) [wrap64c, if_pos, if_neg, g0, z0, nt1, cs1, lL, g1, g2, z2, e2, e3, e11, e12, e13, hg, ntu, hlt, q_x, g_x, l_x, r_x, z_x])
    (case hadd => first | assumption | exact adds_self _ | (simp; done))
    have nt3 := hu3.nt
    have cs3 := hu3.cs
    try simp (disch := first | omega | (simp; done) | fail) [wrap64c, if_pos, if_neg, g0, z0, nt1, cs1, lL, g1, g2, z2, e2, e3, e11, e12, e13, hg, ntu, hlt, q_x, g_x, l_x, r_x, z_x, nt3, cs3]
    have K3 := ha.trans ha3
    have n3 := ha3.1.1
    obtain ⟨u4, h4, hap, hu4, ha4, hn4, hs4⟩ := appR hu ha3.1 hu3 (by simp; omega) hn K3 (by omega)
    have nt4 := hu4.nt
    have cs4 : u4.cells = #[u4] := by rcases hu4 with ⟨_, rfl⟩ | ⟨o, ex, us, rfl, _⟩ <;> rfl
    have g4 : h4.get h1.next = .cells [u, u1] true true 1 := by rw [hs4 _ (by omega) (by omega), ha3.1.2 _ (by omega)]; exact hg
    have z4 : h4.get (h.next + 1) = .cells [.slice none 0 0, .slice none 0 0] true true 1 := by rw [hs4 _ (by omega) (by omega), ha3.1.2 _ (by omega)]; exact hz
    try simp (disch := first | omega | (simp; done) | fail) [wrap64c, if_pos, if_neg, g0, z0, nt1, cs1, lL, g1, g2, z2, e2, e3, e11, e12, e13, hg, ntu, hlt, q_x, g_x, l_x, r_x, z_x, nt3, cs3, nt4, cs4, g4, hap, putCells]
    refine loopK_next _ ?hm ?hf ⟨j + 1, u4, rfl, (by simp (disch := first | omega | (simp; done) | fail) [wrap64c, if_pos, if_neg, g0, z0, nt1, cs1, lL, g1, g2, z2, e2, e3, e11, e12, e13, hg, ntu, hlt, q_x, g_x, l_x, r_x, z_x, nt3, cs3, nt4, cs4, g4] <;> omega), (by first | omega | assumption | (simp (disch := first | omega | (simp; done) | fail) [wrap64c, if_pos, if_neg, g0, z0, nt1, cs1, lL, g1, g2, z2, e2, e3, e11, e12, e13, hg, ntu, hlt, q_x, g_x, l_x, r_x, z_x, nt3, cs3, nt4, cs4, g4] <;> omega)), (by have := K2.1.1; exact (by first | exact aK | exact kK)), (by simp; omega), (by simp), (by simp [z4, show ¬ h.next + 1 = h1.next by omega]), ?c_hu, ?c_hb⟩
    (case hm => first | omega | (simp; omega))
    (case hf => simp [FrameL, g0, z0, nt1, cs1, lL, g1, g2, z2, e2, e3, e11, e12, e13, hg, ntu, hlt, q_x, g_x, l_x, r_x, z_x, nt3, cs3, nt4, cs4, g4, f2_0, f3_0, f11_0, f12_0])
    case c_hu =>
      exact (by
        rw [List.take_succ_eq_append_getElem hlt]
        rcases hu4 with ⟨e, _⟩ | ⟨o, ex, us, e1, e2, e3, e4, e5⟩
        · exact absurd (congrArg List.length e) (by rw [List.length_append]; exact Nat.succ_ne_zero _)
        · exact .inr ⟨o, ex, us, e1, e2, e3, by simp [show ¬ o = h1.next by omega, e4], e5.same (Same.put (Same.refl _ _) (by omega) _)⟩)
    case c_hb =>
      exact (by
        refine IntsO.same (Same.put ⟨by omega, fun o ho ho' => ?_⟩ (by unfold Btw; omega) _) hb
        unfold Btw at ho
        rw [hs4 o (by omega) (by omega), ha3.1.2 o ho'])
  · try simp (disch := first | omega | (simp; done) | fail) [wrap64c, if_pos, if_neg, g0, z0, nt1, cs1, lL, g1, g2, z2, e2, e3, e11, e12, e13, hg, ntu, hlt, putCells, hz]
    have hj' : j = L.length := by omega
    subst hj'
    rw [List.take_length] at hu
    have hk := K2.1.1
    have hu' := hu.own (by omega)
    refine done_ret (by simp [putCells, hz, hg, e2]; rfl) ⟨(by first | exact aK | exact kK), u, u1, Btw h2.next h'.next, Btw h0.next h1.next, by simp, hu'.same (Same.put (Same.refl _ _) (by unfold Btw; omega) _), hb.same (Same.put (Same.refl _ _) (by unfold Btw; omega) _), ?_, ?_, ?_⟩ <;> intro x <;> simp [Btw] <;> omega

theorem waWith_ok (h : Hp) (v w : Value) (L : List (List Int)) (A0 A : List Int) (hv : Chips h v L A0) (hw : Ints h w A) (hl : L.length < 2 ^ 39) (hr : ∀ x ∈ L, x.length < 2 ^ 39) :
    ∃ v' h', CallOK Try.prog 49 #[v, w] h v' h' ∧ Adds h h' ∧ ∃ u, v' = .agg #[u, w] ∧ IRowsO (Btw h.next h'.next) h' u L := by
  refine callY_L (args := [v, w]) 24 _ [.cell 4 27] Try.func49 rfl rfl rfl ?_
  obtain ⟨a, b, rfl, hL, hA⟩ := hv
  have ntw := hw.nt
  have csw := hw.cs
  have lL := hL.lenD
  refine WD_first ?_
  try simp (disch := first | omega | (simp; done) | fail) [wrap64c, if_pos, if_neg, ntw, csw, lL]
  refine stopK_heap fun h0 q_h0 => ?_
  refine stopK_go ?_
  have k0 : Adds h h0 := by rw [q_h0]; exact (by first | exact aK | exact kK)
  have n0 : h0.next = h.next + 2 := by simp [q_h0]
  have g0 : h0.get h.next = .cells [a, b] true true 1 := by simp [q_h0]
  have z0 : h0.get (h.next + 1) = .cells [.slice none 0 0, .slice none 0 0] true true 1 := by simp [q_h0]
  try simp (disch := first | omega | (simp; done) | fail) [wrap64c, if_pos, if_neg, ntw, csw, lL, g0, z0]
  refine WD_loopC [1, 4, 9, 10] (fun m tm h' => ∃ j u, m = L.length - j ∧ tm 5 = u ∧ tm 11 = .int .i64 (j : Int) ∧ (j ≤ L.length) ∧ (Adds h h') ∧ (h0.next ≤ h'.next) ∧ (h'.get (h.next + 1) = .cells [.slice none 0 0, .slice none 0 0] true true 1) ∧ (IRowsA h0.next h' u (L.take j))) _ ⟨0, .slice none 0 0, rfl, (by simp (disch := first | omega | (simp; done) | fail) [wrap64c, if_pos, if_neg, ntw, csw, lL, g0, z0]), (by simp (disch := first | omega | (simp; done) | fail) [wrap64c, if_pos, if_neg, ntw, csw, lL, g0, z0]), (by first | omega | assumption | (simp (disch := first | omega | (simp; done) | fail) [wrap64c, if_pos, if_neg, ntw, csw, lL, g0, z0] <;> omega)), k0, (by first | omega | assumption | (simp (disch := first | omega | (simp; done) | fail) [wrap64c, if_pos, if_neg, ntw, csw, lL, g0, z0] <;> omega)), z0, (by simpa using IRowsA.nil _ _)⟩ ?_
  rintro m tm h' hFr ⟨j, u, rfl, e5, e11, hj, ha, hn, hz, hu⟩
  simp only [FrameL] at hFr
  obtain ⟨f1_0, f4_0, f9_0, f10_0, -⟩ := hFr
  try simp (disch := first | omega | (simp; done) | fail) [wrap64c, if_pos, if_neg, ntw, csw, lL, g0, z0] at f1_0 f4_0 f9_0 f10_0
  have e1 := f1_0
  have e4 := f4_0
  have e9 := f9_0
  have e10 := f10_0
  have ntu := hu.nt
  have csu : u.cells = #[u] := by rcases hu with ⟨_, rfl⟩ | ⟨o, ex, us, rfl, _⟩ <;> rfl
  by_cases hlt : j < L.length
  · obtain ⟨o_x, i_x, c_x, cs_x, own_x, ex_x, es_x, us_x, q_x, b_x, g_x, l_x, r_x, R_x⟩ := (hL.keep ha.1).open ((by omega))
    have z_x : ∀ h2 : i_x < cs_x.length, cs_x[i_x] = _ := fun h2 => r_x 0 ((by omega)) h2
    try simp (disch := first | omega | (simp; done) | fail) [wrap64c, if_pos, if_neg, ntw, csw, lL, g0, z0, e1, e4, e5, e9, e10, e11, ntu, csu, hlt, q_x, g_x, l_x, r_x, z_x]
    obtain ⟨u3, h3, hc3, ha3, hu3, _⟩ := l1Own_ok h' (us_x j) L[j] (R_x j hlt) (hr _ (List.getElem_mem hlt))
    refine callG_c (by simp) (by simp) ?ha (hc3) ?_
    (case ha => simp (disch := first | omega | (simp; done) | fail) [wrap64c, if_pos, if_neg, ntw, csw, lL, g0, z0, e1, e4, e5, e9, e10, e11, ntu, csu, hlt, q_x, g_x, l_x, r_x, z_x])
    have nt3 := hu3.nt
    have cs3 := hu3.cs
    try simp (disch := first | omega | (simp; done) | fail) [wrap64c, if_pos, if_neg, ntw, csw, lL, g0, z0, e1, e4, e5, e9, e10, e11, ntu, csu, hlt, q_x, g_x, l_x, r_x, z_x, nt3, cs3]
    have K3 := ha.trans ha3
    have n3 := ha3.1.1
    obtain ⟨u4, h4, hap, hu4, ha4, hn4, hs4⟩ := appR hu ha3.1 hu3 (by simp; omega) hn K3 (by omega)
    have z4 : h4.get (h.next + 1) = .cells [.slice none 0 0, .slice none 0 0] true true 1 := by rw [hs4 _ (by omega) (by omega), ha3.1.2 _ (by omega)]; exact hz
    try simp (disch := first | omega | (simp; done) | fail) [wrap64c, if_pos, if_neg, ntw, csw, lL, g0, z0, e1, e4, e5, e9, e10, e11, ntu, csu, hlt, q_x, g_x, l_x, r_x, z_x, nt3, cs3, hap]
    refine loopK_next _ ?hm ?hf ⟨j + 1, u4, rfl, (by simp (disch := first | omega | (simp; done) | fail) [wrap64c, if_pos, if_neg, ntw, csw, lL, g0, z0, e1, e4, e5, e9, e10, e11, ntu, csu, hlt, q_x, g_x, l_x, r_x, z_x, nt3, cs3] <;> omega), (by simp (disch := first | omega | (simp; done) | fail) [wrap64c, if_pos, if_neg, ntw, csw, lL, g0, z0, e1, e4, e5, e9, e10, e11, ntu, csu, hlt, q_x, g_x, l_x, r_x, z_x, nt3, cs3] <;> omega), (by first | omega | assumption | (simp (disch := first | omega | (simp; done) | fail) [wrap64c, if_pos, if_neg, ntw, csw, lL, g0, z0, e1, e4, e5, e9, e10, e11, ntu, csu, hlt, q_x, g_x, l_x, r_x, z_x, nt3, cs3] <;> omega)), (by first | omega | assumption | (simp (disch := first | omega | (simp; done) | fail) [wrap64c, if_pos, if_neg, ntw, csw, lL, g0, z0, e1, e4, e5, e9, e10, e11, ntu, csu, hlt, q_x, g_x, l_x, r_x, z_x, nt3, cs3] <;> omega)), (by first | omega | assumption | (simp (disch := first | omega | (simp; done) | fail) [wrap64c, if_pos, if_neg, ntw, csw, lL, g0, z0, e1, e4, e5, e9, e10, e11, ntu, csu, hlt, q_x, g_x, l_x, r_x, z_x, nt3, cs3] <;> omega)), (by first | omega | assumption | (simp (disch := first | omega | (simp; done) | fail) [wrap64c, if_pos, if_neg, ntw, csw, lL, g0, z0, e1, e4, e5, e9, e10, e11, ntu, csu, hlt, q_x, g_x, l_x, r_x, z_x, nt3, cs3] <;> omega)), (by rw [List.take_succ_eq_append_getElem hlt]; exact hu4)⟩
    (case hm => first | omega | (simp; omega))
    (case hf => simp [FrameL, ntw, csw, lL, g0, z0, e1, e4, e5, e9, e10, e11, ntu, csu, hlt, q_x, g_x, l_x, r_x, z_x, nt3, cs3, f1_0, f4_0, f9_0, f10_0])
  · try simp (disch := first | omega | (simp; done) | fail) [wrap64c, if_pos, if_neg, ntw, csw, lL, g0, z0, e1, e4, e5, e9, e10, e11, ntu, csu, hlt, hz, putCells]
    have hj' : j = L.length := by omega
    subst hj'
    rw [List.take_length] at hu
    have hu' := hu.own (by omega)
    refine done_ret (by simp [putCells, hz, e4]; rfl) ⟨(by first | exact aK | exact kK), u, by simp, (hu'.same (Same.put (Same.refl _ _) (by unfold Btw; omega) _)).sub fun x hx => ?_⟩
    unfold Btw at hx ⊢
    simp; omega
end Go.Proofs.Ytnnjehonbolliaa
