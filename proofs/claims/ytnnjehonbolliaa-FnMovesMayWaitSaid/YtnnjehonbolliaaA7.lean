/- Chips that are moved: one move, copies. -/
import Derived.Test.YtnnjehonbolliaaA6
namespace Go.Proofs.Ytnnjehonbolliaa
set_option linter.unusedSimpArgs false
set_option linter.unusedVariables false
set_option maxHeartbeats 4000000
open Go Go.Eng
attribute [local irreducible] WD RunD PreD Runs CallOK

/-- What lies on the places behind a move. -/
def moveA (L : List (List Int)) (A : List Int) (i : Nat) : List Int := (List.range A.length).map fun (j : Nat) => A.getD j 0 + (L.getD i []).getD j 0 - if j = i then deg L i else 0
@[simp] theorem moveA_length (L : List (List Int)) (A : List Int) (i : Nat) : (moveA L A i).length = A.length := by simp [moveA]
theorem moveA_get (L : List (List Int)) (A : List Int) (i j : Nat) (h : j < A.length) (h2 : j < (moveA L A i).length) (hi : i < L.length) (h3 : j < L[i].length) : (moveA L A i)[j] = A[j] + L[i][j] - if j = i then deg L i else 0 := by
  simp [moveA, h, hi, h3]
/-- Numbers that may be added and taken away. -/
def Small (A : List Int) : Prop := ∀ x ∈ A, -1000 ≤ x ∧ x ≤ 1000
theorem Small.at {A : List Int} (h : Small A) {i : Nat} (hi : i < A.length) : -1000 ≤ A[i] ∧ A[i] ≤ 1000 := h _ (List.getElem_mem hi)

theorem waMove_ok (h : Hp) (v w : Value) (L : List (List Int)) (A0 A : List Int) (i : Nat) (hv : Chips h v L A0) (hw : Ints h w A) (hs : Shape L A.length) (hA : Small A) (hi : i < A.length) :
    ∃ v' h', CallOK Try.prog 62 #[v, w, .int .i64 i] h v' h' ∧ Adds h h' ∧ IntsO (Btw h.next h'.next) h' v' (moveA L A i) := by
  refine callY_L (args := [v, w, .int .i64 i]) 39 _ [.tmp 6] Try.func62 rfl rfl rfl ?_
  obtain ⟨a, b, rfl, hL, hA0⟩ := hv
  have h5 := hs.le
  have hi' : i < L.length := by have := hs.len; omega
  have h1 := hs.at hi'
  refine WD_first ?_
  try simp (disch := first | omega | (simp; done) | fail) [wrap64c, if_pos, if_neg]
  refine stopK_heap fun h0 q_h0 => ?_
  refine stopK_go ?_
  have g_h0 : h0.get h.next = .cells [a, b] true true 1 := by simp [q_h0]
  have k_h0 : Adds h h0 := by rw [q_h0]; exact (by first | exact aK | exact kK)
  have n_h0 : h.next < h0.next := by simp [q_h0]; try omega
  try simp (disch := first | omega | (simp; done) | fail) [wrap64c, if_pos, if_neg, g_h0]
  obtain ⟨u, h2, hc, ha2, hu, _⟩ := l1Own_ok h0 w A (hw.keep k_h0.1) (by omega)
  refine callG_c (by simp) (by simp) ?ha (hc) ?_
  (case ha => simp (disch := first | omega | (simp; done) | fail) [wrap64c, if_pos, if_neg, g_h0])
  have g2 : h2.get h.next = .cells [a, b] true true 1 := by rw [ha2.1.2 _ n_h0]; exact g_h0
  have n2 : h.next < h2.next := Nat.lt_of_lt_of_le n_h0 ha2.1.1
  have k2 := k_h0.trans ha2
  obtain ⟨o_x, i_x, c_x, cs_x, own_x, ex_x, es_x, us_x, q_x, b_x, g_x, l_x, r_x, R_x⟩ := hL.open ((by omega))
  have z_x : ∀ h2 : i_x < cs_x.length, cs_x[i_x] = _ := fun h2 => r_x 0 ((by omega)) h2
  have g_x := (k2.1.2 _ b_x).trans g_x
  have hr := R_x i hi'
  have lr := hr.lenD
  try simp (disch := first | omega | (simp; done) | fail) [wrap64c, if_pos, if_neg, g_h0, g2, q_x, g_x, l_x, r_x, z_x, lr]
  refine WD_loopC [2, 7, 16, 17] (fun m tm h' => ∃ j B, m = L[i].length - j ∧ tm 18 = .int .i64 (j : Int) ∧ (j ≤ L[i].length) ∧ (Adds h h') ∧ (∀ o, o < h2.next → ¬ Btw h0.next h2.next o → h'.get o = h2.get o) ∧ (h'.next = h2.next) ∧ (IntsO (Btw h0.next h2.next) h' u B) ∧ (B.length = A.length) ∧ (∀ k (hk : k < B.length) (hk' : k < A.length), B[k] = A[k] + (if k < j then (L[i].getD k 0) else 0) - (if k = i then (L[i].take j).sum else 0))) _ ⟨0, A, rfl, (by simp (disch := first | omega | (simp; done) | fail) [wrap64c, if_pos, if_neg, g_h0, g2, q_x, g_x, l_x, r_x, z_x, lr]), (by first | omega | assumption | (simp (disch := first | omega | (simp; done) | fail) [wrap64c, if_pos, if_neg, g_h0, g2, q_x, g_x, l_x, r_x, z_x, lr] <;> omega)), k2, (fun _ _ _ => rfl), (by first | omega | assumption | (simp (disch := first | omega | (simp; done) | fail) [wrap64c, if_pos, if_neg, g_h0, g2, q_x, g_x, l_x, r_x, z_x, lr] <;> omega)), hu, (by first | omega | assumption | (simp (disch := first | omega | (simp; done) | fail) [wrap64c, if_pos, if_neg, g_h0, g2, q_x, g_x, l_x, r_x, z_x, lr] <;> omega)), (by intro k hk hk'; simp)⟩ ?_
  rintro m tm h' hFr ⟨j, B, rfl, e18, hj, ha, hk, hn, hu, hB, hx⟩
  simp only [FrameL] at hFr
  obtain ⟨f2_0, f7_0, f16_0, f17_0, -⟩ := hFr
  try simp (disch := first | omega | (simp; done) | fail) [wrap64c, if_pos, if_neg, g_h0, g2, q_x, g_x, l_x, r_x, z_x, lr] at f2_0 f7_0 f16_0 f17_0
  have e2 := f2_0
  have e7 := f7_0
  have e16 := f16_0
  have e17 := f17_0
  have g2 : h'.get h.next = .cells [a, b] true true 1 := by rw [hk _ n2 (by unfold Btw; omega)]; exact g2
  by_cases hlt : j < L[i].length
  · have hjA : j < A.length := by omega
    have b1 := h1.2 _ (List.getElem_mem hlt)
    have b2 := sum_take (by omega) h1.2 j (by omega)
    have hBi := hx i (by omega) hi
    have hBj := hx j (by omega) hjA
    have sA1 := hA.at hi
    have sA2 := hA.at hjA
    have eL : L[i].getD j 0 = L[i][j] := by simp [hlt]
    have bi1 : B[i] ≤ 1100 ∧ -1100 ≤ B[i] := by
      rw [hBi]
      by_cases hij : i < j
      · have := h1.2 _ (List.getElem_mem (show i < L[i].length by omega))
        have e2 : L[i].getD i 0 = L[i][i] := by simp [show i < L[i].length by omega]
        simp only [hij, if_true, e2]; omega
      · simp only [hij, if_false, if_true]; omega
    have kh : Keeps h h' := ha.1
    obtain ⟨o_x', i_x', c_x', cs_x', own_x', ex_x', es_x', q_x', b_x', g_x', l_x', r_x'⟩ := (hr.keep kh).open ((by omega))
    have z_x' : ∀ h2 : i_x' < cs_x'.length, cs_x'[i_x'] = _ := fun h2 => r_x' 0 ((by omega)) h2
    have o1 : o_x' < h.next := by
      obtain ⟨o2, i2, c2, cs2, own2, ex2, es2, q2, b2, _⟩ := hr.open (by omega)
      rw [q_x'] at q2; cases q2; exact b2
    obtain ⟨o_y, i_y, c_y, cs_y, ex_y, q_y, S_y, b_y, g_y, l_y, r_y⟩ := hu.open ((by omega))
    have z_y : ∀ h2 : i_y < cs_y.length, cs_y[i_y] = _ := fun h2 => r_y 0 ((by omega)) h2
    try simp (disch := first | omega | (simp; done) | fail) [wrap64c, if_pos, if_neg, g_h0, g2, q_x, g_x, l_x, r_x, z_x, lr, e2, e7, e16, e17, e18, hlt, q_x', g_x', l_x', r_x', z_x', q_y, g_y, l_y, r_y, z_y, -wd_region, wd_region 0, wd_region 1, wd_region 2, wd_region 3, wd_region 4, wd_region 5, wd_region 7, wd_region 8]
    first | refine WY_heap fun h3 q_h3 => ?_ | refine callG_heap fun h3 q_h3 => ?_ | refine callP_heap fun h3 q_h3 => ?_ | refine callS_heap fun h3 q_h3 => ?_ | refine RY_heap fun h3 q_h3 => ?_ | refine PY_heap fun h3 q_h3 => ?_ | refine SY_heap fun h3 q_h3 => ?_ | refine doneY_heap fun h3 q_h3 => ?_ | refine loopK_heap fun h3 q_h3 => ?_ | refine thenY_heap fun h3 q_h3 => ?_ | refine thenM_heap fun h3 q_h3 => ?_
    obtain ⟨B1, eB1⟩ : ∃ B1, B1 = B.set i (B[i] - L[i][j]) := ⟨_, rfl⟩
    have lB1 : B1.length = A.length := by rw [eB1]; simpa using hB
    have hu3 : IntsO (Btw h0.next h2.next) h3 u B1 := by rw [q_h3, eB1]; exact hu.write q_y (by omega) g_y _
    have bj1 : B1[j] ≤ 1200 ∧ -1200 ≤ B1[j] := by
      subst eB1
      rw [List.getElem_set]
      by_cases hij : i = j
      · rw [if_pos hij]; omega
      · rw [if_neg hij, hBj]; simp [Ne.symm hij]; omega
    have g3 : h3.get h.next = .cells [a, b] true true 1 := by rw [q_h3]; simp [g2, show ¬ h.next = o_y by have := S_y.1; omega]
    have n3 : h3.next = h2.next := by rw [q_h3]; simp [hn]
    have k3 : ∀ o, o < h2.next → ¬ Btw h0.next h2.next o → h3.get o = h2.get o := fun o ho hb => by rw [q_h3, get_put, if_neg (fun e => hb (by rw [e]; exact S_y))]; exact hk o ho hb
    have ha3 : Adds h h3 := by rw [q_h3]; have := S_y.1; exact (by first | exact aK | exact kK)
    obtain ⟨o_y, i_y, c_y, cs_y, ex_y, q_y, S_y, b_y, g_y, l_y, r_y⟩ := hu3.open ((by omega))
    have z_y : ∀ h2 : i_y < cs_y.length, cs_y[i_y] = _ := fun h2 => r_y 0 ((by omega)) h2
    try simp (disch := first | omega | (simp; done) | fail) [wrap64c, if_pos, if_neg, g_h0, g2, q_x, g_x, l_x, r_x, z_x, lr, e2, e7, e16, e17, e18, hlt, q_x', g_x', l_x', r_x', z_x', q_y, g_y, l_y, r_y, z_y, g3]
    refine loopK_next _ ?hm ?hf ⟨j + 1, B1.set j (B1[j] + L[i][j]), rfl, (by simp (disch := first | omega | (simp; done) | fail) [wrap64c, if_pos, if_neg, g_h0, g2, q_x, g_x, l_x, r_x, z_x, lr, e2, e7, e16, e17, e18, hlt, q_x', g_x', l_x', r_x', z_x', q_y, g_y, l_y, r_y, z_y, g3] <;> omega), (by first | omega | assumption | (simp (disch := first | omega | (simp; done) | fail) [wrap64c, if_pos, if_neg, g_h0, g2, q_x, g_x, l_x, r_x, z_x, lr, e2, e7, e16, e17, e18, hlt, q_x', g_x', l_x', r_x', z_x', q_y, g_y, l_y, r_y, z_y, g3] <;> omega)), (by have := S_y.1; exact (by first | exact aK | exact kK)), (fun o ho hb => by rw [get_put, if_neg (fun e => hb (by rw [e]; exact S_y))]; exact k3 o ho hb), (by simp [n3]), (hu3.write q_y (by omega) g_y _), (by simp [lB1]), ?c_hx⟩
    (case hm => first | omega | (simp; omega))
    (case hf => simp [FrameL, g_h0, g2, q_x, g_x, l_x, r_x, z_x, lr, e2, e7, e16, e17, e18, hlt, q_x', g_x', l_x', r_x', z_x', q_y, g_y, l_y, r_y, z_y, g3, f2_0, f7_0, f16_0, f17_0])
    case c_hx =>
      exact (fun k hk1 hk2 => by
        subst eB1
        simp only [List.getElem_set]
        have e1 := hx k (by simpa using hk1) hk2
        have e3 := sum_step hlt
        by_cases hjk : j = k
        · subst hjk
          by_cases hij : i = j
          · subst hij; simp [hBi, e3, hlt]; try omega
          · simp [hBj, hij, Ne.symm hij, hlt]; try omega
        · by_cases hik : i = k
          · subst hik
            have : i < j + 1 ↔ i < j := by omega
            simp [hjk, hBi, e3, this]; try omega
          · have : k < j + 1 ↔ k < j := by omega
            simp [hjk, hik, e1, this, Ne.symm hik])
  · try simp (disch := first | omega | (simp; done) | fail) [wrap64c, if_pos, if_neg, g_h0, g2, q_x, g_x, l_x, r_x, z_x, lr, e2, e7, e16, e17, e18, hlt]
    have hj' : j = L[i].length := by omega
    subst hj'
    have e : B = moveA L A i := List.ext_getElem (by simp [hB]) fun k h1' h2' => by
      have hk' : k < A.length := by omega
      rw [hx k h1' hk', moveA_get L A i k hk' h2' hi' (by omega)]
      simp [show k < L[i].length by omega, List.take_length, deg_eq hi']
    exact done_ret rfl ⟨ha, (e ▸ hu).sub fun o ho => by unfold Btw at ho ⊢; omega⟩
end Go.Proofs.Ytnnjehonbolliaa
