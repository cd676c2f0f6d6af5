/- Chips that are moved: degrees, places that can be moved, one move, copies. -/
import Derived.Test.YtnnjehonbolliaaA5
namespace Go.Proofs.Ytnnjehonbolliaa
set_option linter.unusedSimpArgs false
set_option linter.unusedVariables false
set_option maxHeartbeats 4000000
open Go Go.Eng
attribute [local irreducible] WD RunD PreD Runs CallOK

def deg (L : List (List Int)) (i : Nat) : Int := (L.getD i []).sum
/-- n rows of n numbers in 0..3, n at most 5. -/
structure Shape (L : List (List Int)) (n : Nat) : Prop where
  len : L.length = n
  le : n ≤ 5
  row : ∀ r ∈ L, r.length = n ∧ ∀ x ∈ r, 0 ≤ x ∧ x ≤ 3
theorem Good.shape {L : List (List Int)} {A : List Int} (h : Good L A) : Shape L A.length := ⟨h.2.1, h.1.2, h.2.2.2.1⟩
theorem Shape.at {L : List (List Int)} {n : Nat} (h : Shape L n) {i : Nat} (hi : i < L.length) : L[i].length = n ∧ ∀ x ∈ L[i], 0 ≤ x ∧ x ≤ 3 := h.row _ (List.getElem_mem hi)
theorem deg_eq {L : List (List Int)} {i : Nat} (hi : i < L.length) : deg L i = L[i].sum := by simp [deg, hi]
theorem Shape.deg {L : List (List Int)} {n : Nat} (h : Shape L n) {i : Nat} (hi : i < n) : 0 ≤ deg L i ∧ deg L i ≤ 15 := by
  have hi' : i < L.length := by have := h.len; omega
  rw [deg_eq hi']
  have h1 := h.at hi'
  have := sum_take (A := L[i]) (b := 3) (by omega) h1.2 L[i].length (Nat.le_refl _)
  rw [List.take_length] at this
  have := h.le
  omega

theorem waDegree_ok (h : Hp) (v : Value) (L : List (List Int)) (A : List Int) (n i : Nat) (hv : Chips h v L A) (hs : Shape L n) (hi : i < n) : CallOK Try.prog 97 #[v, .int .i64 i] h (.int .i64 (deg L i)) h := by
  refine callY_P 23 _ [.tmp 4] Try.func97 rfl rfl rfl (by first | rfl | simp) ?_
  obtain ⟨a, b, rfl, hL, hA⟩ := hv
  refine WD_first ?_
  try simp (disch := first | omega | (simp; done) | fail) [wrap64c, if_pos, if_neg]
  refine stopK_heap fun h0 q_h0 => ?_
  refine stopK_go ?_
  have g_h0 : h0.get h.next = .cells [a, b] true true 1 := by simp [q_h0]
  have k_h0 : Adds h h0 := by rw [q_h0]; exact (by first | exact aK | exact kK)
  have n_h0 : h.next < h0.next := by simp [q_h0]; try omega
  have k0 := k_h0.1
  have hi' : i < L.length := by have := hs.len; omega
  have h1 := hs.at hi'
  have h5 := hs.le
  obtain ⟨o_x, i_x, c_x, cs_x, own_x, ex_x, es_x, us_x, q_x, b_x, g_x, l_x, r_x, R_x⟩ := (hL.keep k0).open ((by omega))
  have z_x : ∀ h2 : i_x < cs_x.length, cs_x[i_x] = _ := fun h2 => r_x 0 ((by omega)) h2
  have hu := R_x i hi'
  have lu := hu.lenD
  try simp (disch := first | omega | (simp; done) | fail) [wrap64c, if_pos, if_neg, g_h0, q_x, g_x, l_x, r_x, z_x, lu]
  refine WD_loopC [12, 13] (fun m tm h' => ∃ j, m = L[i].length - j ∧ h0 = h' ∧ tm 5 = .int .i64 (L[i].take j).sum ∧ tm 14 = .int .i64 (j : Int) ∧ (j ≤ L[i].length)) _ ⟨0, rfl, rfl, (by simp (disch := first | omega | (simp; done) | fail) [wrap64c, if_pos, if_neg, g_h0, q_x, g_x, l_x, r_x, z_x, lu]), (by simp (disch := first | omega | (simp; done) | fail) [wrap64c, if_pos, if_neg, g_h0, q_x, g_x, l_x, r_x, z_x, lu]), (by first | omega | assumption | (simp (disch := first | omega | (simp; done) | fail) [wrap64c, if_pos, if_neg, g_h0, q_x, g_x, l_x, r_x, z_x, lu] <;> omega))⟩ ?_
  rintro m tm h' hFr ⟨j, rfl, rfl, e5, e14, hj⟩
  simp only [FrameL] at hFr
  obtain ⟨f12_0, f13_0, -⟩ := hFr
  try simp (disch := first | omega | (simp; done) | fail) [wrap64c, if_pos, if_neg, g_h0, q_x, g_x, l_x, r_x, z_x, lu] at f12_0 f13_0
  have e12 := f12_0
  have e13 := f13_0
  by_cases hlt : j < L[i].length
  · obtain ⟨o_u, i_u, c_u, cs_u, own_u, ex_u, es_u, q_u, b_u, g_u, l_u, r_u⟩ := hu.open ((by omega))
    have z_u : ∀ h2 : i_u < cs_u.length, cs_u[i_u] = _ := fun h2 => r_u 0 ((by omega)) h2
    have b1 := sum_take (by omega) h1.2 j (by omega)
    have b2 := h1.2 _ (List.getElem_mem hlt)
    try simp (disch := first | omega | (simp; done) | fail) [wrap64c, if_pos, if_neg, g_h0, q_x, g_x, l_x, r_x, z_x, lu, e5, e12, e13, e14, hlt, q_u, g_u, l_u, r_u, z_u]
    refine loopK_next _ ?hm ?hf ⟨j + 1, rfl, rfl, (by simp [sum_step hlt]), (by simp (disch := first | omega | (simp; done) | fail) [wrap64c, if_pos, if_neg, g_h0, q_x, g_x, l_x, r_x, z_x, lu, e5, e12, e13, e14, hlt, q_u, g_u, l_u, r_u, z_u] <;> omega), (by first | omega | assumption | (simp (disch := first | omega | (simp; done) | fail) [wrap64c, if_pos, if_neg, g_h0, q_x, g_x, l_x, r_x, z_x, lu, e5, e12, e13, e14, hlt, q_u, g_u, l_u, r_u, z_u] <;> omega))⟩
    (case hm => first | omega | (simp; omega))
    (case hf => simp [FrameL, g_h0, q_x, g_x, l_x, r_x, z_x, lu, e5, e12, e13, e14, hlt, q_u, g_u, l_u, r_u, z_u, f12_0, f13_0])
  · try simp (disch := first | omega | (simp; done) | fail) [wrap64c, if_pos, if_neg, g_h0, q_x, g_x, l_x, r_x, z_x, lu, e5, e12, e13, e14, hlt]
    have hj' : j = L[i].length := by omega
    subst hj'
    exact done_ret rfl (by simp [k0, deg_eq hi', e5])

theorem imDegree_ok (h : Hp) (v : Value) (L : List (List Int)) (A : List Int) (n i : Nat) (hv : Chips h v L A) (hs : Shape L n) (hi : i < n) : CallOK Try.prog 63 #[v, .int .i64 i] h (.int .i64 (deg L i)) h := by
  refine callY_P 23 _ [.tmp 4] Try.func63 rfl rfl rfl (by first | rfl | simp) ?_
  obtain ⟨a, b, rfl, hL, hA⟩ := hv
  refine WD_first ?_
  try simp (disch := first | omega | (simp; done) | fail) [wrap64c, if_pos, if_neg]
  refine stopK_heap fun h0 q_h0 => ?_
  refine stopK_go ?_
  have g_h0 : h0.get h.next = .cells [a, b] true true 1 := by simp [q_h0]
  have k_h0 : Adds h h0 := by rw [q_h0]; exact (by first | exact aK | exact kK)
  have n_h0 : h.next < h0.next := by simp [q_h0]; try omega
  have k0 := k_h0.1
  have hi' : i < L.length := by have := hs.len; omega
  have h1 := hs.at hi'
  have h5 := hs.le
  obtain ⟨o_x, i_x, c_x, cs_x, own_x, ex_x, es_x, us_x, q_x, b_x, g_x, l_x, r_x, R_x⟩ := (hL.keep k0).open ((by omega))
  have z_x : ∀ h2 : i_x < cs_x.length, cs_x[i_x] = _ := fun h2 => r_x 0 ((by omega)) h2
  have hu := R_x i hi'
  have lu := hu.lenD
  try simp (disch := first | omega | (simp; done) | fail) [wrap64c, if_pos, if_neg, g_h0, q_x, g_x, l_x, r_x, z_x, lu]
  refine WD_loopC [12, 13] (fun m tm h' => ∃ j, m = L[i].length - j ∧ h0 = h' ∧ tm 5 = .int .i64 (L[i].take j).sum ∧ tm 14 = .int .i64 (j : Int) ∧ (j ≤ L[i].length)) _ ⟨0, rfl, rfl, (by simp (disch := first | omega | (simp; done) | fail) [wrap64c, if_pos, if_neg, g_h0, q_x, g_x, l_x, r_x, z_x, lu]), (by simp (disch := first | omega | (simp; done) | fail) [wrap64c, if_pos, if_neg, g_h0, q_x, g_x, l_x, r_x, z_x, lu]), (by first | omega | assumption | (simp (disch := first | omega | (simp; done) | fail) [wrap64c, if_pos, if_neg, g_h0, q_x, g_x, l_x, r_x, z_x, lu] <;> omega))⟩ ?_
  rintro m tm h' hFr ⟨j, rfl, rfl, e5, e14, hj⟩
  simp only [FrameL] at hFr
  obtain ⟨f12_0, f13_0, -⟩ := hFr
  try simp (disch := first | omega | (simp; done) | fail) [wrap64c, if_pos, if_neg, g_h0, q_x, g_x, l_x, r_x, z_x, lu] at f12_0 f13_0
  have e12 := f12_0
  have e13 := f13_0
  by_cases hlt : j < L[i].length
  · obtain ⟨o_u, i_u, c_u, cs_u, own_u, ex_u, es_u, q_u, b_u, g_u, l_u, r_u⟩ := hu.open ((by omega))
    have z_u : ∀ h2 : i_u < cs_u.length, cs_u[i_u] = _ := fun h2 => r_u 0 ((by omega)) h2
    have b1 := sum_take (by omega) h1.2 j (by omega)
    have b2 := h1.2 _ (List.getElem_mem hlt)
    try simp (disch := first | omega | (simp; done) | fail) [wrap64c, if_pos, if_neg, g_h0, q_x, g_x, l_x, r_x, z_x, lu, e5, e12, e13, e14, hlt, q_u, g_u, l_u, r_u, z_u]
    refine loopK_next _ ?hm ?hf ⟨j + 1, rfl, rfl, (by simp [sum_step hlt]), (by simp (disch := first | omega | (simp; done) | fail) [wrap64c, if_pos, if_neg, g_h0, q_x, g_x, l_x, r_x, z_x, lu, e5, e12, e13, e14, hlt, q_u, g_u, l_u, r_u, z_u] <;> omega), (by first | omega | assumption | (simp (disch := first | omega | (simp; done) | fail) [wrap64c, if_pos, if_neg, g_h0, q_x, g_x, l_x, r_x, z_x, lu, e5, e12, e13, e14, hlt, q_u, g_u, l_u, r_u, z_u] <;> omega))⟩
    (case hm => first | omega | (simp; omega))
    (case hf => simp [FrameL, g_h0, q_x, g_x, l_x, r_x, z_x, lu, e5, e12, e13, e14, hlt, q_u, g_u, l_u, r_u, z_u, f12_0, f13_0])
  · try simp (disch := first | omega | (simp; done) | fail) [wrap64c, if_pos, if_neg, g_h0, q_x, g_x, l_x, r_x, z_x, lu, e5, e12, e13, e14, hlt]
    have hj' : j = L[i].length := by omega
    subst hj'
    exact done_ret rfl (by simp [k0, deg_eq hi', e5])

/-- Whether a place can be moved. -/
def canB (L : List (List Int)) (A : List Int) (i : Nat) : Bool := decide (1 ≤ deg L i ∧ deg L i ≤ A.getD i 0)

theorem waCan_ok (h : Hp) (v w : Value) (L : List (List Int)) (A0 A : List Int) (i : Nat) (hv : Chips h v L A0) (hw : Ints h w A) (hs : Shape L A.length) (hi : i < A.length) : CallOK Try.prog 61 #[v, w, .int .i64 i] h (.bool (canB L A i)) h := by
  refine callY_P 21 _ [.tmp 6] Try.func61 rfl rfl rfl (by first | rfl | simp) ?_
  have hv0 := hv
  obtain ⟨a, b, rfl, hL, hA⟩ := hv
  refine WD_first ?_
  try simp (disch := first | omega | (simp; done) | fail) [wrap64c, if_pos, if_neg]
  refine stopK_heap fun h0 q_h0 => ?_
  refine stopK_go ?_
  have g_h0 : h0.get h.next = .cells [a, b] true true 1 := by simp [q_h0]
  have k_h0 : Adds h h0 := by rw [q_h0]; exact (by first | exact aK | exact kK)
  have n_h0 : h.next < h0.next := by simp [q_h0]; try omega
  have k0 := k_h0.1
  have hv1 := hv0.keep k0
  obtain ⟨o_w, i_w, c_w, cs_w, own_w, ex_w, es_w, q_w, b_w, g_w, l_w, r_w⟩ := (hw.keep k0).open ((by omega))
  have z_w : ∀ h2 : i_w < cs_w.length, cs_w[i_w] = _ := fun h2 => r_w 0 ((by omega)) h2
  have hd := hs.deg hi
  try simp (disch := first | omega | (simp; done) | fail) [wrap64c, if_pos, if_neg, g_h0, q_w, g_w, l_w, r_w, z_w]
  refine WD_drawC 12 rfl (by kernel_rfl) ?_
  try simp (disch := first | omega | (simp; done) | fail) [wrap64c, if_pos, if_neg, g_h0, q_w, g_w, l_w, r_w, z_w]
  refine callP_c (by simp) (by simp) ?ha (waDegree_ok h0 _ L A0 _ i hv1 hs hi) ?hadd ?_
  (case ha => simp (disch := first | omega | (simp; done) | fail) [wrap64c, if_pos, if_neg, g_h0, q_w, g_w, l_w, r_w, z_w])
  (case hadd => first | assumption | exact adds_self _ | (simp; done))
  by_cases c1 : 0 < deg L i
  · try simp (disch := first | omega | (simp; done) | fail) [wrap64c, if_pos, if_neg, g_h0, q_w, g_w, l_w, r_w, z_w, c1]
    refine callP_c (by simp) (by simp) ?ha (waDegree_ok h0 _ L A0 _ i hv1 hs hi) ?hadd ?_
    (case ha => simp (disch := first | omega | (simp; done) | fail) [wrap64c, if_pos, if_neg, g_h0, q_w, g_w, l_w, r_w, z_w, c1])
    (case hadd => first | assumption | exact adds_self _ | (simp; done))
    try simp (disch := first | omega | (simp; done) | fail) [wrap64c, if_pos, if_neg, g_h0, q_w, g_w, l_w, r_w, z_w, c1]
    exact done_ret rfl (by simp [k0, canB, hi]; omega)
  · try simp (disch := first | omega | (simp; done) | fail) [wrap64c, if_pos, if_neg, g_h0, q_w, g_w, l_w, r_w, z_w, c1]
    exact done_ret rfl (by simp [k0, canB, hi]; omega)

theorem imCan_ok (h : Hp) (v : Value) (L : List (List Int)) (A : List Int) (i : Nat) (hv : Chips h v L A) (hs : Shape L A.length) (hi : i < A.length) : CallOK Try.prog 53 #[v, .int .i64 i] h (.bool (canB L A i)) h := by
  refine callY_P 20 _ [.tmp 4] Try.func53 rfl rfl rfl (by first | rfl | simp) ?_
  have hv0 := hv
  obtain ⟨a, b, rfl, hL, hA⟩ := hv
  refine WD_first ?_
  try simp (disch := first | omega | (simp; done) | fail) [wrap64c, if_pos, if_neg]
  refine stopK_heap fun h0 q_h0 => ?_
  refine stopK_go ?_
  have g_h0 : h0.get h.next = .cells [a, b] true true 1 := by simp [q_h0]
  have k_h0 : Adds h h0 := by rw [q_h0]; exact (by first | exact aK | exact kK)
  have n_h0 : h.next < h0.next := by simp [q_h0]; try omega
  have k0 := k_h0.1
  have hv1 := hv0.keep k0
  obtain ⟨o_w, i_w, c_w, cs_w, own_w, ex_w, es_w, q_w, b_w, g_w, l_w, r_w⟩ := (hA.keep k0).open ((by omega))
  have z_w : ∀ h2 : i_w < cs_w.length, cs_w[i_w] = _ := fun h2 => r_w 0 ((by omega)) h2
  have hd := hs.deg hi
  try simp (disch := first | omega | (simp; done) | fail) [wrap64c, if_pos, if_neg, g_h0, q_w, g_w, l_w, r_w, z_w]
  refine WD_drawC 13 rfl (by kernel_rfl) ?_
  try simp (disch := first | omega | (simp; done) | fail) [wrap64c, if_pos, if_neg, g_h0, q_w, g_w, l_w, r_w, z_w]
  refine callP_c (by simp) (by simp) ?ha (imDegree_ok h0 _ L A _ i hv1 hs hi) ?hadd ?_
  (case ha => simp (disch := first | omega | (simp; done) | fail) [wrap64c, if_pos, if_neg, g_h0, q_w, g_w, l_w, r_w, z_w])
  (case hadd => first | assumption | exact adds_self _ | (simp; done))
  by_cases c1 : 1 ≤ deg L i
  · try simp (disch := first | omega | (simp; done) | fail) [wrap64c, if_pos, if_neg, g_h0, q_w, g_w, l_w, r_w, z_w, c1]
    refine callP_c (by simp) (by simp) ?ha (imDegree_ok h0 _ L A _ i hv1 hs hi) ?hadd ?_
    (case ha => simp (disch := first | omega | (simp; done) | fail) [wrap64c, if_pos, if_neg, g_h0, q_w, g_w, l_w, r_w, z_w, c1])
    (case hadd => first | assumption | exact adds_self _ | (simp; done))
    try simp (disch := first | omega | (simp; done) | fail) [wrap64c, if_pos, if_neg, g_h0, q_w, g_w, l_w, r_w, z_w, c1]
    exact done_ret rfl (by simp [k0, canB, hi]; omega)
  · try simp (disch := first | omega | (simp; done) | fail) [wrap64c, if_pos, if_neg, g_h0, q_w, g_w, l_w, r_w, z_w, c1]
    exact done_ret rfl (by simp [k0, canB, hi]; omega)

/-- The places that can be moved. -/
def movesL (L : List (List Int)) (A : List Int) : List Int := ((List.range A.length).filter (canB L A)).map fun (i : Nat) => (i : Int)
def movesT (L : List (List Int)) (A : List Int) (j : Nat) : List Int := ((List.range j).filter (canB L A)).map fun (i : Nat) => (i : Int)
theorem movesT_succ (L : List (List Int)) (A : List Int) (j : Nat) : movesT L A (j + 1) = if canB L A j then movesT L A j ++ [(j : Int)] else movesT L A j := by
  unfold movesT
  rw [List.range_succ, List.filter_append]
  by_cases h : canB L A j <;> simp [h]
theorem movesT_length (L : List (List Int)) (A : List Int) : ∀ j, (movesT L A j).length ≤ j
  | 0 => by simp [movesT]
  | j + 1 => by
    have := movesT_length L A j
    rw [movesT_succ]; split <;> simp <;> omega

theorem waMoves_ok (h : Hp) (v w : Value) (L : List (List Int)) (A0 A : List Int) (hv : Chips h v L A0) (hw : Ints h w A) (hs : Shape L A.length) :
    ∃ v' h', CallOK Try.prog 95 #[v, w] h v' h' ∧ Adds h h' ∧ IntsO (Btw h.next h'.next) h' v' (movesL L A) := by
  refine callY_L (args := [v, w]) 22 _ [.tmp 4] Try.func95 rfl rfl rfl ?_
  have hv0 := hv
  obtain ⟨a, b, rfl, hL, hA⟩ := hv
  have h5 := hs.le
  refine WD_first ?_
  try simp (disch := first | omega | (simp; done) | fail) [wrap64c, if_pos, if_neg]
  refine stopK_heap fun h0 q_h0 => ?_
  refine stopK_go ?_
  have g_h0 : h0.get h.next = .cells [a, b] true true 1 := by simp [q_h0]
  have k_h0 : Adds h h0 := by rw [q_h0]; exact (by first | exact aK | exact kK)
  have n_h0 : h.next < h0.next := by simp [q_h0]; try omega
  have lw := hw.lenD
  try simp (disch := first | omega | (simp; done) | fail) [wrap64c, if_pos, if_neg, g_h0, lw]
  refine WD_loopC [1, 2, 8] (fun m tm h' => ∃ j u, m = A.length - j ∧ tm 5 = u ∧ tm 9 = .int .i64 (j : Int) ∧ (j ≤ A.length) ∧ (Adds h h') ∧ (h0.next ≤ h'.next) ∧ (h'.get h.next = .cells [a, b] true true 1) ∧ (IntsA h0.next h' u (movesT L A j))) _ ⟨0, _, rfl, (by simp (disch := first | omega | (simp; done) | fail) [wrap64c, if_pos, if_neg, g_h0, lw]), (by simp (disch := first | omega | (simp; done) | fail) [wrap64c, if_pos, if_neg, g_h0, lw]), (by first | omega | assumption | (simp (disch := first | omega | (simp; done) | fail) [wrap64c, if_pos, if_neg, g_h0, lw] <;> omega)), k_h0, (by first | omega | assumption | (simp (disch := first | omega | (simp; done) | fail) [wrap64c, if_pos, if_neg, g_h0, lw] <;> omega)), g_h0, (.nil _ _)⟩ ?_
  rintro m tm h' hFr ⟨j, u, rfl, e5, e9, hj, ha, hb, hg, hu⟩
  simp only [FrameL] at hFr
  obtain ⟨f1_0, f2_0, f8_0, -⟩ := hFr
  try simp (disch := first | omega | (simp; done) | fail) [wrap64c, if_pos, if_neg, g_h0, lw] at f1_0 f2_0 f8_0
  have e1 := f1_0
  have e2 := f2_0
  have e8 := f8_0
  by_cases hlt : j < A.length
  · try simp (disch := first | omega | (simp; done) | fail) [wrap64c, if_pos, if_neg, g_h0, lw, e1, e2, e5, e8, e9, hg, hlt]
    refine callG_c (by simp) (by simp) ?ha (waCan_ok h' _ w L A0 A j (hv0.keep ha.1) (hw.keep ha.1) hs hlt) ?_
    (case ha => simp (disch := first | omega | (simp; done) | fail) [wrap64c, if_pos, if_neg, g_h0, lw, e1, e2, e5, e8, e9, hg, hlt])
    have hm := movesT_length L A j
    by_cases c : canB L A j = true
    · try simp (disch := first | omega | (simp; done) | fail) [wrap64c, if_pos, if_neg, g_h0, lw, e1, e2, e5, e8, e9, hg, hlt, c]
      obtain ⟨u2, h2, hap, hu2, ha2, hn2, hs2⟩ := appI hu j (by omega) hb ha (by omega)
      try simp (disch := first | omega | (simp; done) | fail) [wrap64c, if_pos, if_neg, g_h0, lw, e1, e2, e5, e8, e9, hg, hlt, c, hap]
      have g2 : h2.get h.next = .cells [a, b] true true 1 := by rw [hs2 _ (by omega) n_h0]; exact hg
      refine loopK_next _ ?hm ?hf ⟨j + 1, u2, rfl, (by simp (disch := first | omega | (simp; done) | fail) [wrap64c, if_pos, if_neg, g_h0, lw, e1, e2, e5, e8, e9, hg, hlt, c, g2] <;> omega), (by simp (disch := first | omega | (simp; done) | fail) [wrap64c, if_pos, if_neg, g_h0, lw, e1, e2, e5, e8, e9, hg, hlt, c, g2] <;> omega), (by first | omega | assumption | (simp (disch := first | omega | (simp; done) | fail) [wrap64c, if_pos, if_neg, g_h0, lw, e1, e2, e5, e8, e9, hg, hlt, c, g2] <;> omega)), (by first | omega | assumption | (simp (disch := first | omega | (simp; done) | fail) [wrap64c, if_pos, if_neg, g_h0, lw, e1, e2, e5, e8, e9, hg, hlt, c, g2] <;> omega)), (by first | omega | assumption | (simp (disch := first | omega | (simp; done) | fail) [wrap64c, if_pos, if_neg, g_h0, lw, e1, e2, e5, e8, e9, hg, hlt, c, g2] <;> omega)), (by first | omega | assumption | (simp (disch := first | omega | (simp; done) | fail) [wrap64c, if_pos, if_neg, g_h0, lw, e1, e2, e5, e8, e9, hg, hlt, c, g2] <;> omega)), (by rw [movesT_succ, if_pos c]; exact hu2)⟩
      (case hm => first | omega | (simp; omega))
      (case hf => simp [FrameL, g_h0, lw, e1, e2, e5, e8, e9, hg, hlt, c, g2, f1_0, f2_0, f8_0])
    · try simp (disch := first | omega | (simp; done) | fail) [wrap64c, if_pos, if_neg, g_h0, lw, e1, e2, e5, e8, e9, hg, hlt, c]
      refine loopK_next _ ?hm ?hf ⟨j + 1, u, rfl, (by simp (disch := first | omega | (simp; done) | fail) [wrap64c, if_pos, if_neg, g_h0, lw, e1, e2, e5, e8, e9, hg, hlt, c] <;> omega), (by simp (disch := first | omega | (simp; done) | fail) [wrap64c, if_pos, if_neg, g_h0, lw, e1, e2, e5, e8, e9, hg, hlt, c] <;> omega), (by first | omega | assumption | (simp (disch := first | omega | (simp; done) | fail) [wrap64c, if_pos, if_neg, g_h0, lw, e1, e2, e5, e8, e9, hg, hlt, c] <;> omega)), (by first | omega | assumption | (simp (disch := first | omega | (simp; done) | fail) [wrap64c, if_pos, if_neg, g_h0, lw, e1, e2, e5, e8, e9, hg, hlt, c] <;> omega)), (by first | omega | assumption | (simp (disch := first | omega | (simp; done) | fail) [wrap64c, if_pos, if_neg, g_h0, lw, e1, e2, e5, e8, e9, hg, hlt, c] <;> omega)), (by first | omega | assumption | (simp (disch := first | omega | (simp; done) | fail) [wrap64c, if_pos, if_neg, g_h0, lw, e1, e2, e5, e8, e9, hg, hlt, c] <;> omega)), (by rw [movesT_succ, if_neg c]; exact hu)⟩
      (case hm => first | omega | (simp; omega))
      (case hf => simp [FrameL, g_h0, lw, e1, e2, e5, e8, e9, hg, hlt, c, f1_0, f2_0, f8_0])
  · try simp (disch := first | omega | (simp; done) | fail) [wrap64c, if_pos, if_neg, g_h0, lw, e1, e2, e5, e8, e9, hg, hlt]
    have hj' : j = A.length := by omega
    subst hj'
    have hm := movesT_length L A A.length
    exact done_ret rfl ⟨ha, (hu.own (by omega)).sub fun o ho => ⟨by have := ho.1; omega, ho.2⟩⟩

theorem imMoves_ok (h : Hp) (v : Value) (L : List (List Int)) (A : List Int) (hv : Chips h v L A) (hs : Shape L A.length) :
    ∃ v' h', CallOK Try.prog 55 #[v] h v' h' ∧ Adds h h' ∧ IntsO (Btw h.next h'.next) h' v' (movesL L A) := by
  refine callY_L (args := [v]) 21 _ [.tmp 2] Try.func55 rfl rfl rfl ?_
  have hv0 := hv
  obtain ⟨a, b, rfl, hL, hA⟩ := hv
  have h5 := hs.le
  refine WD_first ?_
  try simp (disch := first | omega | (simp; done) | fail) [wrap64c, if_pos, if_neg]
  refine stopK_heap fun h0 q_h0 => ?_
  refine stopK_go ?_
  have g_h0 : h0.get h.next = .cells [a, b] true true 1 := by simp [q_h0]
  have k_h0 : Adds h h0 := by rw [q_h0]; exact (by first | exact aK | exact kK)
  have n_h0 : h.next < h0.next := by simp [q_h0]; try omega
  have lA := hA.lenD
  try simp (disch := first | omega | (simp; done) | fail) [wrap64c, if_pos, if_neg, g_h0, lA]
  first | refine WY_heap fun h1 q_h1 => ?_ | refine callG_heap fun h1 q_h1 => ?_ | refine callP_heap fun h1 q_h1 => ?_ | refine callS_heap fun h1 q_h1 => ?_ | refine RY_heap fun h1 q_h1 => ?_ | refine PY_heap fun h1 q_h1 => ?_ | refine SY_heap fun h1 q_h1 => ?_ | refine doneY_heap fun h1 q_h1 => ?_ | refine loopK_heap fun h1 q_h1 => ?_ | refine thenY_heap fun h1 q_h1 => ?_ | refine thenM_heap fun h1 q_h1 => ?_
  have k1 : Adds h h1 := by rw [q_h1]; have := k_h0; exact (by first | exact aK | exact kK)
  have g1 : h1.get h.next = .cells [a, b] true true 1 := by simp [q_h1, g_h0, Nat.ne_of_lt n_h0]
  refine WD_loopC [1, 8] (fun m tm h' => ∃ j u, m = A.length - j ∧ tm 3 = u ∧ tm 9 = .int .i64 (j : Int) ∧ (j ≤ A.length) ∧ (Adds h h') ∧ (h0.next ≤ h'.next) ∧ (h'.get h.next = .cells [a, b] true true 1) ∧ (IntsA h0.next h' u (movesT L A j))) _ ⟨0, _, rfl, (by simp (disch := first | omega | (simp; done) | fail) [wrap64c, if_pos, if_neg, g_h0, lA, g1]), (by simp (disch := first | omega | (simp; done) | fail) [wrap64c, if_pos, if_neg, g_h0, lA, g1]), (by first | omega | assumption | (simp (disch := first | omega | (simp; done) | fail) [wrap64c, if_pos, if_neg, g_h0, lA, g1] <;> omega)), k1, (by simp [q_h1]), g1, (.lit (ex := true) (Nat.le_refl _) (by simp [q_h1]) (by simp [q_h1]))⟩ ?_
  rintro m tm h' hFr ⟨j, u, rfl, e3, e9, hj, ha, hb, hg, hu⟩
  simp only [FrameL] at hFr
  obtain ⟨f1_0, f8_0, -⟩ := hFr
  try simp (disch := first | omega | (simp; done) | fail) [wrap64c, if_pos, if_neg, g_h0, lA, g1] at f1_0 f8_0
  have e1 := f1_0
  have e8 := f8_0
  by_cases hlt : j < A.length
  · try simp (disch := first | omega | (simp; done) | fail) [wrap64c, if_pos, if_neg, g_h0, lA, g1, e1, e3, e8, e9, hg, hlt]
    refine callG_c (by simp) (by simp) ?ha (imCan_ok h' _ L A j (hv0.keep ha.1) hs hlt) ?_
    (case ha => simp (disch := first | omega | (simp; done) | fail) [wrap64c, if_pos, if_neg, g_h0, lA, g1, e1, e3, e8, e9, hg, hlt])
    have hm := movesT_length L A j
    by_cases c : canB L A j = true
    · try simp (disch := first | omega | (simp; done) | fail) [wrap64c, if_pos, if_neg, g_h0, lA, g1, e1, e3, e8, e9, hg, hlt, c]
      obtain ⟨u2, h2, hap, hu2, ha2, hn2, hs2⟩ := appI hu j (by omega) hb ha (by omega)
      try simp (disch := first | omega | (simp; done) | fail) [wrap64c, if_pos, if_neg, g_h0, lA, g1, e1, e3, e8, e9, hg, hlt, c, hap]
      have g2 : h2.get h.next = .cells [a, b] true true 1 := by rw [hs2 _ (by omega) n_h0]; exact hg
      refine loopK_next _ ?hm ?hf ⟨j + 1, u2, rfl, (by simp (disch := first | omega | (simp; done) | fail) [wrap64c, if_pos, if_neg, g_h0, lA, g1, e1, e3, e8, e9, hg, hlt, c, g2] <;> omega), (by simp (disch := first | omega | (simp; done) | fail) [wrap64c, if_pos, if_neg, g_h0, lA, g1, e1, e3, e8, e9, hg, hlt, c, g2] <;> omega), (by first | omega | assumption | (simp (disch := first | omega | (simp; done) | fail) [wrap64c, if_pos, if_neg, g_h0, lA, g1, e1, e3, e8, e9, hg, hlt, c, g2] <;> omega)), (by first | omega | assumption | (simp (disch := first | omega | (simp; done) | fail) [wrap64c, if_pos, if_neg, g_h0, lA, g1, e1, e3, e8, e9, hg, hlt, c, g2] <;> omega)), (by first | omega | assumption | (simp (disch := first | omega | (simp; done) | fail) [wrap64c, if_pos, if_neg, g_h0, lA, g1, e1, e3, e8, e9, hg, hlt, c, g2] <;> omega)), (by first | omega | assumption | (simp (disch := first | omega | (simp; done) | fail) [wrap64c, if_pos, if_neg, g_h0, lA, g1, e1, e3, e8, e9, hg, hlt, c, g2] <;> omega)), (by rw [movesT_succ, if_pos c]; exact hu2)⟩
      (case hm => first | omega | (simp; omega))
      (case hf => simp [FrameL, g_h0, lA, g1, e1, e3, e8, e9, hg, hlt, c, g2, f1_0, f8_0])
    · try simp (disch := first | omega | (simp; done) | fail) [wrap64c, if_pos, if_neg, g_h0, lA, g1, e1, e3, e8, e9, hg, hlt, c]
      refine loopK_next _ ?hm ?hf ⟨j + 1, u, rfl, (by simp (disch := first | omega | (simp; done) | fail) [wrap64c, if_pos, if_neg, g_h0, lA, g1, e1, e3, e8, e9, hg, hlt, c] <;> omega), (by simp (disch := first | omega | (simp; done) | fail) [wrap64c, if_pos, if_neg, g_h0, lA, g1, e1, e3, e8, e9, hg, hlt, c] <;> omega), (by first | omega | assumption | (simp (disch := first | omega | (simp; done) | fail) [wrap64c, if_pos, if_neg, g_h0, lA, g1, e1, e3, e8, e9, hg, hlt, c] <;> omega)), (by first | omega | assumption | (simp (disch := first | omega | (simp; done) | fail) [wrap64c, if_pos, if_neg, g_h0, lA, g1, e1, e3, e8, e9, hg, hlt, c] <;> omega)), (by first | omega | assumption | (simp (disch := first | omega | (simp; done) | fail) [wrap64c, if_pos, if_neg, g_h0, lA, g1, e1, e3, e8, e9, hg, hlt, c] <;> omega)), (by first | omega | assumption | (simp (disch := first | omega | (simp; done) | fail) [wrap64c, if_pos, if_neg, g_h0, lA, g1, e1, e3, e8, e9, hg, hlt, c] <;> omega)), (by rw [movesT_succ, if_neg c]; exact hu)⟩
      (case hm => first | omega | (simp; omega))
      (case hf => simp [FrameL, g_h0, lA, g1, e1, e3, e8, e9, hg, hlt, c, f1_0, f8_0])
  · try simp (disch := first | omega | (simp; done) | fail) [wrap64c, if_pos, if_neg, g_h0, lA, g1, e1, e3, e8, e9, hg, hlt]
    have hj' : j = A.length := by omega
    subst hj'
    have hm := movesT_length L A A.length
    exact done_ret rfl ⟨ha, (hu.own (by omega)).sub fun o ho => ⟨by have := ho.1; omega, ho.2⟩⟩
end Go.Proofs.Ytnnjehonbolliaa
