/- Whether they are chips: by the reference and by the program. -/
import Derived.Test.YtdadnaliiegceaaA4
namespace Go.Proofs.Ytdadnaliiegceaa
set_option linter.unusedSimpArgs false
set_option linter.unusedVariables false
open Go Go.Eng
attribute [local irreducible] WD RunD PreD Runs CallOK

def el (L : List (List Int)) (i j : Nat) : Int := (L.getD i []).getD j 0
theorem el_eq {L : List (List Int)} {i j : Nat} (hi : i < L.length) (hj : j < L[i].length) : el L i j = L[i][j] := by
  simp [el, hi, hj]

def Good (L : List (List Int)) (A : List Int) : Prop :=
  (1 ≤ A.length ∧ A.length ≤ 5) ∧ L.length = A.length ∧ (∀ x ∈ A, 0 ≤ x ∧ x ≤ 30) ∧ (∀ r ∈ L, r.length = A.length ∧ ∀ x ∈ r, 0 ≤ x ∧ x ≤ 3) ∧
  (∀ i, i < A.length → ∀ j, j < A.length → el L i j = el L j i) ∧ (∀ i, i < A.length → el L i i = 0) ∧ A.sum ≤ 30
noncomputable def goodB (L : List (List Int)) (A : List Int) : Bool := @decide (Good L A) (Classical.propDecidable _)
theorem goodB_true {L : List (List Int)} {A : List Int} (h : Good L A) : goodB L A = true := by simp [goodB, h]
theorem goodB_false {L : List (List Int)} {A : List Int} (h : ¬ Good L A) : goodB L A = false := by simp [goodB, h]

theorem sum_take {A : List Int} {b : Int} (hb : 0 ≤ b) (hA : ∀ x ∈ A, 0 ≤ x ∧ x ≤ b) : ∀ k, k ≤ A.length → 0 ≤ (A.take k).sum ∧ (A.take k).sum ≤ b * (k : Int)
  | 0, _ => by simp
  | k + 1, hk => by
    have := sum_take hb hA k (by omega)
    have h2 := hA _ (List.getElem_mem (show k < A.length by omega))
    rw [List.take_succ_eq_append_getElem (by omega), List.sum_append]
    have e : b * ((k + 1 : Nat) : Int) = b * (k : Int) + b := by rw [Int.natCast_succ, Int.mul_add, Int.mul_one]
    rw [e, show [A[k]].sum = A[k] by simp]
    omega
theorem sum_step {A : List Int} {k : Nat} (hk : k < A.length) : (A.take (k + 1)).sum = (A.take k).sum + A[k] := by
  rw [List.take_succ_eq_append_getElem hk, List.sum_append]; simp

theorem l1All_ok (h : Hp) (v : Value) (xs : List Int) (a b : Int) (hv : Ints h v xs) : CallOK Try.prog 71 #[v, .int .i64 a, .int .i64 b] h (.bool (decide (∀ x ∈ xs, a ≤ x ∧ x ≤ b))) h := by
  refine call_P 21 _ [.tmp 6] Try.func71 rfl rfl rfl (by first | rfl | simp) ?_
  have hs := hv.len
  have hL := hv.lenD
  repeat (first
    | (refine WD_block (fun K hK => ?_))
    | (refine WD_seq (fun K hK => ?_))
    | (refine WD_region (fun K hK => ?_))
    | ((first | refine RunD_o rfl rfl rfl rfl rfl (fun X hX => ?_) | refine RunD_s rfl rfl rfl rfl (fun X hX => ?_)); (try dsimp only); simp (disch := first | omega | (simp; done) | fail) [wrap64c, if_pos, if_neg, hL]; refine hX _ _ ?_; clear hX X)
    | (refine RunD_nil ?_; refine hK _ _ ?_; clear hK K)
    | (refine RunD_nil ?_)
    | (refine WD_skip ?_)
    | (refine WD_exit ?_)
    | (refine WD_ret ?_)
    | (refine WD_true rfl ?hb ?_; (case hb => simp (disch := first | omega | (simp; done) | fail) [wrap64c, if_pos, if_neg, hL] <;> omega))
    | (refine WD_false rfl ?hb ?_; (case hb => simp (disch := first | omega | (simp; done) | fail) [wrap64c, if_pos, if_neg, hL] <;> omega))
    | (refine hK.1 _ _ ?_; clear hK K)
    | (refine hK.2.1 _ _ ?_; clear hK K)
    | (refine hK.2 _ _ _ ?hne ?_; (case hne => simp; done); clear hK K)
    | (refine hK.2.2 _ _ _ ?hne ?_; (case hne => simp; done); clear hK K))
  refine WD_loopF [1, 2, 9, 10] (fun m tm h' => ∃ j, m = xs.length - j ∧ h = h' ∧ tm 11 = .int .i64 (j : Int) ∧ (j ≤ xs.length) ∧ (∀ i (hi : i < xs.length), i < j → a ≤ xs[i] ∧ xs[i] ≤ b)) _ ⟨0, rfl, rfl, (by simp (disch := first | omega | (simp; done) | fail) [wrap64c, if_pos, if_neg, hL]), (by first | omega | (simp (disch := first | omega | (simp; done) | fail) [wrap64c, if_pos, if_neg, hL]; done) | (simp (disch := first | omega | (simp; done) | fail) [wrap64c, if_pos, if_neg, hL] <;> omega) | assumption), (by intro i hi h0; omega)⟩ ?_
  rintro m tm h' hFr ⟨j, rfl, rfl, e11, hj, hx⟩ K hK
  simp only [FrameL] at hFr
  obtain ⟨f1_0, f2_0, f9_0, f10_0, -⟩ := hFr
  try simp (disch := first | omega | (simp; done) | fail) [wrap64c, if_pos, if_neg, hL] at f1_0
  try simp (disch := first | omega | (simp; done) | fail) [wrap64c, if_pos, if_neg, hL] at f2_0
  try simp (disch := first | omega | (simp; done) | fail) [wrap64c, if_pos, if_neg, hL] at f9_0
  try simp (disch := first | omega | (simp; done) | fail) [wrap64c, if_pos, if_neg, hL] at f10_0
  have e1 := f1_0
  have e2 := f2_0
  have e9 := f9_0
  have e10 := f10_0
  by_cases hlt : j < xs.length
  · obtain ⟨o_x, i_x, c_x, cs_x, own_x, ex_x, es_x, q_x, b_x, g_x, l_x, r_x⟩ := hv.open ((by omega))
    have z_x : ∀ h2 : i_x < cs_x.length, cs_x[i_x] = _ := fun h2 => r_x 0 ((by omega)) h2
    repeat (first
      | (refine WD_block (fun K hK => ?_))
      | (refine WD_seq (fun K hK => ?_))
      | (refine WD_region (fun K hK => ?_))
      | ((first | refine RunD_o rfl rfl rfl rfl rfl (fun X hX => ?_) | refine RunD_s rfl rfl rfl rfl (fun X hX => ?_)); (try dsimp only); simp (disch := first | omega | (simp; done) | fail) [wrap64c, if_pos, if_neg, hL, e1, e2, e9, e10, e11, hlt, q_x, g_x, l_x, r_x, z_x]; refine hX _ _ ?_; clear hX X)
      | (refine RunD_nil ?_; refine hK _ _ ?_; clear hK K)
      | (refine RunD_nil ?_)
      | (refine WD_skip ?_)
      | (refine WD_exit ?_)
      | (refine WD_ret ?_)
      | (refine WD_true rfl ?hb ?_; (case hb => simp (disch := first | omega | (simp; done) | fail) [wrap64c, if_pos, if_neg, hL, e1, e2, e9, e10, e11, hlt, q_x, g_x, l_x, r_x, z_x] <;> omega))
      | (refine WD_false rfl ?hb ?_; (case hb => simp (disch := first | omega | (simp; done) | fail) [wrap64c, if_pos, if_neg, hL, e1, e2, e9, e10, e11, hlt, q_x, g_x, l_x, r_x, z_x] <;> omega))
      | (refine hK.1 _ _ ?_; clear hK K)
      | (refine hK.2.1 _ _ ?_; clear hK K)
      | (refine hK.2 _ _ _ ?hne ?_; (case hne => simp; done); clear hK K)
      | (refine hK.2.2 _ _ _ ?hne ?_; (case hne => simp; done); clear hK K))
    have hc := l1In_ok h xs[j] a b
    by_cases hq : a ≤ xs[j] ∧ xs[j] ≤ b
    · rw [decide_eq_true hq] at hc
      refine RunD_c rfl rfl rfl rfl (by simp) (by simp) ?ha (hc) ?_
      (case ha => simp (disch := first | omega | (simp; done) | fail) [wrap64c, if_pos, if_neg, hL, e1, e2, e9, e10, e11, hlt, q_x, g_x, l_x, r_x, z_x])
      repeat (first
        | (refine WD_block (fun K hK => ?_))
        | (refine WD_seq (fun K hK => ?_))
        | (refine WD_region (fun K hK => ?_))
        | ((first | refine RunD_o rfl rfl rfl rfl rfl (fun X hX => ?_) | refine RunD_s rfl rfl rfl rfl (fun X hX => ?_)); (try dsimp only); simp (disch := first | omega | (simp; done) | fail) [wrap64c, if_pos, if_neg, hL, e1, e2, e9, e10, e11, hlt, q_x, g_x, l_x, r_x, z_x]; refine hX _ _ ?_; clear hX X)
        | (refine RunD_nil ?_; refine hK _ _ ?_; clear hK K)
        | (refine RunD_nil ?_)
        | (refine WD_skip ?_)
        | (refine WD_exit ?_)
        | (refine WD_ret ?_)
        | (refine WD_true rfl ?hb ?_; (case hb => simp (disch := first | omega | (simp; done) | fail) [wrap64c, if_pos, if_neg, hL, e1, e2, e9, e10, e11, hlt, q_x, g_x, l_x, r_x, z_x] <;> omega))
        | (refine WD_false rfl ?hb ?_; (case hb => simp (disch := first | omega | (simp; done) | fail) [wrap64c, if_pos, if_neg, hL, e1, e2, e9, e10, e11, hlt, q_x, g_x, l_x, r_x, z_x] <;> omega))
        | (refine hK.1 _ _ ?_; clear hK K)
        | (refine hK.2.1 _ _ ?_; clear hK K)
        | (refine hK.2 _ _ _ ?hne ?_; (case hne => simp; done); clear hK K)
        | (refine hK.2.2 _ _ _ ?hne ?_; (case hne => simp; done); clear hK K))
      refine hK.1 _ _ _ ?hm ?hf ⟨j + 1, rfl, rfl, (by first | (simp (disch := first | omega | (simp; done) | fail) [wrap64c, if_pos, if_neg, hL, e1, e2, e9, e10, e11, hlt, q_x, g_x, l_x, r_x, z_x]; done) | (simp (disch := first | omega | (simp; done) | fail) [wrap64c, if_pos, if_neg, hL, e1, e2, e9, e10, e11, hlt, q_x, g_x, l_x, r_x, z_x] <;> omega)), (by first | omega | (simp (disch := first | omega | (simp; done) | fail) [wrap64c, if_pos, if_neg, hL, e1, e2, e9, e10, e11, hlt, q_x, g_x, l_x, r_x, z_x]; done) | (simp (disch := first | omega | (simp; done) | fail) [wrap64c, if_pos, if_neg, hL, e1, e2, e9, e10, e11, hlt, q_x, g_x, l_x, r_x, z_x] <;> omega) | assumption), ?c_hx⟩
      (case hm => first | omega | (simp; omega))
      (case hf => simp [FrameL, hL, e1, e2, e9, e10, e11, hlt, q_x, g_x, l_x, r_x, z_x, f1_0, f2_0, f9_0, f10_0])
      case c_hx =>
        exact (fun i hi hij => by
          rcases Nat.lt_succ_iff_lt_or_eq.1 hij with h1 | h1
          · exact hx i hi h1
          · subst h1; exact hq)
    · rw [decide_eq_false hq] at hc
      refine RunD_c rfl rfl rfl rfl (by simp) (by simp) ?ha (hc) ?_
      (case ha => simp (disch := first | omega | (simp; done) | fail) [wrap64c, if_pos, if_neg, hL, e1, e2, e9, e10, e11, hlt, q_x, g_x, l_x, r_x, z_x])
      repeat (first
        | (refine WD_block (fun K hK => ?_))
        | (refine WD_seq (fun K hK => ?_))
        | (refine WD_region (fun K hK => ?_))
        | ((first | refine RunD_o rfl rfl rfl rfl rfl (fun X hX => ?_) | refine RunD_s rfl rfl rfl rfl (fun X hX => ?_)); (try dsimp only); simp (disch := first | omega | (simp; done) | fail) [wrap64c, if_pos, if_neg, hL, e1, e2, e9, e10, e11, hlt, q_x, g_x, l_x, r_x, z_x]; refine hX _ _ ?_; clear hX X)
        | (refine RunD_nil ?_; refine hK _ _ ?_; clear hK K)
        | (refine RunD_nil ?_)
        | (refine WD_skip ?_)
        | (refine WD_exit ?_)
        | (refine WD_ret ?_)
        | (refine WD_true rfl ?hb ?_; (case hb => simp (disch := first | omega | (simp; done) | fail) [wrap64c, if_pos, if_neg, hL, e1, e2, e9, e10, e11, hlt, q_x, g_x, l_x, r_x, z_x] <;> omega))
        | (refine WD_false rfl ?hb ?_; (case hb => simp (disch := first | omega | (simp; done) | fail) [wrap64c, if_pos, if_neg, hL, e1, e2, e9, e10, e11, hlt, q_x, g_x, l_x, r_x, z_x] <;> omega))
        | (refine hK.1 _ _ ?_; clear hK K)
        | (refine hK.2.1 _ _ ?_; clear hK K)
        | (refine hK.2 _ _ _ ?hne ?_; (case hne => simp; done); clear hK K)
        | (refine hK.2.2 _ _ _ ?hne ?_; (case hne => simp; done); clear hK K))
      have : ¬ ∀ x ∈ xs, a ≤ x ∧ x ≤ b := fun q => hq (q _ (List.getElem_mem hlt))
      exact done_ret rfl (by rw [decide_eq_false this]; simp)
  · repeat (first
      | (refine WD_block (fun K hK => ?_))
      | (refine WD_seq (fun K hK => ?_))
      | (refine WD_region (fun K hK => ?_))
      | ((first | refine RunD_o rfl rfl rfl rfl rfl (fun X hX => ?_) | refine RunD_s rfl rfl rfl rfl (fun X hX => ?_)); (try dsimp only); simp (disch := first | omega | (simp; done) | fail) [wrap64c, if_pos, if_neg, hL, e1, e2, e9, e10, e11, hlt]; refine hX _ _ ?_; clear hX X)
      | (refine RunD_nil ?_; refine hK _ _ ?_; clear hK K)
      | (refine RunD_nil ?_)
      | (refine WD_skip ?_)
      | (refine WD_exit ?_)
      | (refine WD_ret ?_)
      | (refine WD_true rfl ?hb ?_; (case hb => simp (disch := first | omega | (simp; done) | fail) [wrap64c, if_pos, if_neg, hL, e1, e2, e9, e10, e11, hlt] <;> omega))
      | (refine WD_false rfl ?hb ?_; (case hb => simp (disch := first | omega | (simp; done) | fail) [wrap64c, if_pos, if_neg, hL, e1, e2, e9, e10, e11, hlt] <;> omega))
      | (refine hK.1 _ _ ?_; clear hK K)
      | (refine hK.2.1 _ _ ?_; clear hK K)
      | (refine hK.2 _ _ _ ?hne ?_; (case hne => simp; done); clear hK K)
      | (refine hK.2.2 _ _ _ ?hne ?_; (case hne => simp; done); clear hK K))
    have : ∀ x ∈ xs, a ≤ x ∧ x ≤ b := fun x hx' => by
      obtain ⟨i, hi, rfl⟩ := List.getElem_of_mem hx'
      exact hx i hi (by omega)
    exact done_ret rfl (by rw [decide_eq_true this]; simp)

set_option maxHeartbeats 4000000 in
theorem waGood_ok (h : Hp) (v : Value) (L : List (List Int)) (A : List Int) (hv : Chips h v L A) : CallOK Try.prog 50 #[v] h (.bool (goodB L A)) h := by
  refine call_P 91 _ [.tmp 2] Try.func50 rfl rfl rfl (by first | rfl | simp) ?_
  obtain ⟨a, b, rfl, hL, hA⟩ := hv
  repeat (first
    | (refine WD_block (fun K hK => ?_))
    | (refine WD_seq (fun K hK => ?_)))
  refine WD_region (fun K hK => ?_)
  repeat (first
    | ((first | refine RunD_o rfl rfl rfl rfl rfl (fun X hX => ?_) | refine RunD_s rfl rfl rfl rfl (fun X hX => ?_) | (refine RunD_oT rfl rfl rfl rfl rfl rfl rfl ?hb (fun X hX => ?_); (case hb => simp (disch := first | omega | (simp; done) | fail) [wrap64c, if_pos, if_neg] <;> omega))); (try dsimp only); simp (disch := first | omega | (simp; done) | fail) [wrap64c, if_pos, if_neg]; refine hX _ _ ?_; clear hX X)
    | (refine RunD_oF rfl rfl rfl rfl rfl ?hb ?_; (case hb => simp (disch := first | omega | (simp; done) | fail) [wrap64c, if_pos, if_neg] <;> omega))
    | ((first | refine RunD_oU (c := #[]) rfl rfl rfl rfl rfl ?hb ?_); (case hb => simp (disch := first | omega | (simp; done) | fail) [wrap64c, if_pos, if_neg]; rfl)))
  refine RunD_heap fun h0 q_h0 => ?_
  have g_h0 : h0.get h.next = .cells [a, b] true true 1 := by simp [q_h0]
  have k_h0 : Adds h h0 := by rw [q_h0]; exact (by repeat (first | exact keep_self _ | exact adds_self _ | assumption | exact Adds.keeps (by assumption) | refine keeps_alloc ?_ _ | refine adds_alloc ?_ _ _ _ | (refine keeps_put ?_ ?hle _; (case hle => first | omega | (simp; done) | (simp; omega))) | (refine adds_put ?_ ?hle _ _ _; (case hle => first | omega | (simp; done) | (simp; omega)))))
  have n_h0 : h.next < h0.next := by simp [q_h0]; try omega
  have k0 := k_h0.1
  replace hL := hL.keep k0
  replace hA := hA.keep k0
  have lL := hL.lenD
  have lA := hA.lenD
  repeat (first
    | (refine WD_block (fun K hK => ?_))
    | (refine WD_seq (fun K hK => ?_))
    | (refine WD_region (fun K hK => ?_))
    | ((first | refine RunD_o rfl rfl rfl rfl rfl (fun X hX => ?_) | refine RunD_s rfl rfl rfl rfl (fun X hX => ?_) | (refine RunD_oT rfl rfl rfl rfl rfl rfl rfl ?hb (fun X hX => ?_); (case hb => simp (disch := first | omega | (simp; done) | fail) [wrap64c, if_pos, if_neg, g_h0, lL, lA] <;> omega))); (try dsimp only); simp (disch := first | omega | (simp; done) | fail) [wrap64c, if_pos, if_neg, g_h0, lL, lA]; refine hX _ _ ?_; clear hX X)
    | (refine RunD_oF rfl rfl rfl rfl rfl ?hb ?_; (case hb => simp (disch := first | omega | (simp; done) | fail) [wrap64c, if_pos, if_neg, g_h0, lL, lA] <;> omega))
    | ((first | refine RunD_oU (c := #[]) rfl rfl rfl rfl rfl ?hb ?_); (case hb => simp (disch := first | omega | (simp; done) | fail) [wrap64c, if_pos, if_neg, g_h0, lL, lA]; rfl))
    | (refine RunD_nil ?_; refine hK _ _ ?_; clear hK K)
    | (refine RunD_nil ?_)
    | (refine WD_skip ?_)
    | (refine WD_exit ?_)
    | (refine WD_ret ?_)
    | (refine WD_true rfl ?hb ?_; (case hb => simp (disch := first | omega | (simp; done) | fail) [wrap64c, if_pos, if_neg, g_h0, lL, lA] <;> omega))
    | (refine WD_false rfl ?hb ?_; (case hb => simp (disch := first | omega | (simp; done) | fail) [wrap64c, if_pos, if_neg, g_h0, lL, lA] <;> omega))
    | (refine hK.1 _ _ ?_; clear hK K)
    | (refine hK.2.1 _ _ ?_; clear hK K)
    | (refine hK.2 _ _ _ ?hne ?_; (case hne => simp; done); clear hK K)
    | (refine hK.2.2 _ _ _ ?hne ?_; (case hne => simp; done); clear hK K))
  by_cases c1 : 1 ≤ (A.length : Int) ∧ (A.length : Int) ≤ 5
  · have hc := l1In_ok h0 A.length 1 5
    rw [decide_eq_true c1] at hc
    refine RunD_c rfl rfl rfl rfl (by simp) (by simp) ?ha (hc) ?_
    (case ha => simp (disch := first | omega | (simp; done) | fail) [wrap64c, if_pos, if_neg, g_h0, lL, lA])
    by_cases c2 : L.length = A.length
    · have c2b : ((L.length : Int) != (A.length : Int)) = false := by simp [c2]
      repeat (first
        | (refine WD_block (fun K hK => ?_))
        | (refine WD_seq (fun K hK => ?_))
        | (refine WD_region (fun K hK => ?_))
        | ((first | refine RunD_o rfl rfl rfl rfl rfl (fun X hX => ?_) | refine RunD_s rfl rfl rfl rfl (fun X hX => ?_) | (refine RunD_oT rfl rfl rfl rfl rfl rfl rfl ?hb (fun X hX => ?_); (case hb => simp (disch := first | omega | (simp; done) | fail) [wrap64c, if_pos, if_neg, g_h0, lL, lA, c2b] <;> omega))); (try dsimp only); simp (disch := first | omega | (simp; done) | fail) [wrap64c, if_pos, if_neg, g_h0, lL, lA, c2b]; refine hX _ _ ?_; clear hX X)
        | (refine RunD_oF rfl rfl rfl rfl rfl ?hb ?_; (case hb => simp (disch := first | omega | (simp; done) | fail) [wrap64c, if_pos, if_neg, g_h0, lL, lA, c2b] <;> omega))
        | ((first | refine RunD_oU (c := #[]) rfl rfl rfl rfl rfl ?hb ?_); (case hb => simp (disch := first | omega | (simp; done) | fail) [wrap64c, if_pos, if_neg, g_h0, lL, lA, c2b]; rfl))
        | (refine RunD_nil ?_; refine hK _ _ ?_; clear hK K)
        | (refine RunD_nil ?_)
        | (refine WD_skip ?_)
        | (refine WD_exit ?_)
        | (refine WD_ret ?_)
        | (refine WD_true rfl ?hb ?_; (case hb => simp (disch := first | omega | (simp; done) | fail) [wrap64c, if_pos, if_neg, g_h0, lL, lA, c2b] <;> omega))
        | (refine WD_false rfl ?hb ?_; (case hb => simp (disch := first | omega | (simp; done) | fail) [wrap64c, if_pos, if_neg, g_h0, lL, lA, c2b] <;> omega))
        | (refine hK.1 _ _ ?_; clear hK K)
        | (refine hK.2.1 _ _ ?_; clear hK K)
        | (refine hK.2 _ _ _ ?hne ?_; (case hne => simp; done); clear hK K)
        | (refine hK.2.2 _ _ _ ?hne ?_; (case hne => simp; done); clear hK K))
      by_cases c3 : ∀ x ∈ A, 0 ≤ x ∧ x ≤ 30
      · have hc := l1All_ok h0 _ A 0 30 hA
        rw [decide_eq_true c3] at hc
        refine RunD_cT rfl rfl rfl rfl rfl rfl ?hb (by simp) (by simp) ?ha (hc) ?_
        (case hb => simp (disch := first | omega | (simp; done) | fail) [wrap64c, if_pos, if_neg, g_h0, lL, lA, c2b])
        (case ha => simp (disch := first | omega | (simp; done) | fail) [wrap64c, if_pos, if_neg, g_h0, lL, lA, c2b])
        obtain ⟨o_x, i_x, c_x, cs_x, own_x, ex_x, es_x, us_x, q_x, b_x, g_x, l_x, r_x, R_x⟩ := hL.open ((by omega))
        have z_x : ∀ h2 : i_x < cs_x.length, cs_x[i_x] = _ := fun h2 => r_x 0 ((by omega)) h2
        obtain ⟨o_y, i_y, c_y, cs_y, own_y, ex_y, es_y, q_y, b_y, g_y, l_y, r_y⟩ := hA.open ((by omega))
        have z_y : ∀ h2 : i_y < cs_y.length, cs_y[i_y] = _ := fun h2 => r_y 0 ((by omega)) h2
        repeat (first
          | (refine WD_block (fun K hK => ?_))
          | (refine WD_seq (fun K hK => ?_))
          | (refine WD_region (fun K hK => ?_))
          | ((first | refine RunD_o rfl rfl rfl rfl rfl (fun X hX => ?_) | refine RunD_s rfl rfl rfl rfl (fun X hX => ?_) | (refine RunD_oT rfl rfl rfl rfl rfl rfl rfl ?hb (fun X hX => ?_); (case hb => simp (disch := first | omega | (simp; done) | fail) [wrap64c, if_pos, if_neg, g_h0, lL, lA, c2b, q_x, g_x, l_x, r_x, z_x, q_y, g_y, l_y, r_y, z_y] <;> omega))); (try dsimp only); simp (disch := first | omega | (simp; done) | fail) [wrap64c, if_pos, if_neg, g_h0, lL, lA, c2b, q_x, g_x, l_x, r_x, z_x, q_y, g_y, l_y, r_y, z_y]; refine hX _ _ ?_; clear hX X)
          | (refine RunD_oF rfl rfl rfl rfl rfl ?hb ?_; (case hb => simp (disch := first | omega | (simp; done) | fail) [wrap64c, if_pos, if_neg, g_h0, lL, lA, c2b, q_x, g_x, l_x, r_x, z_x, q_y, g_y, l_y, r_y, z_y] <;> omega))
          | ((first | refine RunD_oU (c := #[]) rfl rfl rfl rfl rfl ?hb ?_); (case hb => simp (disch := first | omega | (simp; done) | fail) [wrap64c, if_pos, if_neg, g_h0, lL, lA, c2b, q_x, g_x, l_x, r_x, z_x, q_y, g_y, l_y, r_y, z_y]; rfl))
          | (refine RunD_nil ?_; refine hK _ _ ?_; clear hK K)
          | (refine RunD_nil ?_)
          | (refine WD_skip ?_)
          | (refine WD_exit ?_)
          | (refine WD_ret ?_)
          | (refine WD_true rfl ?hb ?_; (case hb => simp (disch := first | omega | (simp; done) | fail) [wrap64c, if_pos, if_neg, g_h0, lL, lA, c2b, q_x, g_x, l_x, r_x, z_x, q_y, g_y, l_y, r_y, z_y] <;> omega))
          | (refine WD_false rfl ?hb ?_; (case hb => simp (disch := first | omega | (simp; done) | fail) [wrap64c, if_pos, if_neg, g_h0, lL, lA, c2b, q_x, g_x, l_x, r_x, z_x, q_y, g_y, l_y, r_y, z_y] <;> omega))
          | (refine hK.1 _ _ ?_; clear hK K)
          | (refine hK.2.1 _ _ ?_; clear hK K)
          | (refine hK.2 _ _ _ ?hne ?_; (case hne => simp; done); clear hK K)
          | (refine hK.2.2 _ _ _ ?hne ?_; (case hne => simp; done); clear hK K))
        refine WD_loopF [1, 3, 31, 32] (fun m tm h' => ∃ j, m = A.length - j ∧ h0 = h' ∧ tm 4 = .int .i64 (A.take j).sum ∧ tm 33 = .int .i64 (j : Int) ∧ (j ≤ A.length) ∧ (∀ i (hi : i < L.length), i < j → L[i].length = A.length ∧ (∀ x ∈ L[i], 0 ≤ x ∧ x ≤ 3) ∧ el L i i = 0)) _ ⟨0, rfl, rfl, (by simp (disch := first | omega | (simp; done) | fail) [wrap64c, if_pos, if_neg, g_h0, lL, lA, c2b, q_x, g_x, l_x, r_x, z_x, q_y, g_y, l_y, r_y, z_y]), (by simp (disch := first | omega | (simp; done) | fail) [wrap64c, if_pos, if_neg, g_h0, lL, lA, c2b, q_x, g_x, l_x, r_x, z_x, q_y, g_y, l_y, r_y, z_y]), (by first | omega | (simp (disch := first | omega | (simp; done) | fail) [wrap64c, if_pos, if_neg, g_h0, lL, lA, c2b, q_x, g_x, l_x, r_x, z_x, q_y, g_y, l_y, r_y, z_y]; done) | (simp (disch := first | omega | (simp; done) | fail) [wrap64c, if_pos, if_neg, g_h0, lL, lA, c2b, q_x, g_x, l_x, r_x, z_x, q_y, g_y, l_y, r_y, z_y] <;> omega) | assumption), (by intro i hi h0; omega)⟩ ?_
        rintro m tm h' hFr ⟨j, rfl, rfl, e4, e33, hj, hx⟩ K hK
        simp only [FrameL] at hFr
        obtain ⟨f1_0, f3_0, f31_0, f32_0, -⟩ := hFr
        try simp (disch := first | omega | (simp; done) | fail) [wrap64c, if_pos, if_neg, g_h0, lL, lA, c2b, q_x, g_x, l_x, r_x, z_x, q_y, g_y, l_y, r_y, z_y] at f1_0
        try simp (disch := first | omega | (simp; done) | fail) [wrap64c, if_pos, if_neg, g_h0, lL, lA, c2b, q_x, g_x, l_x, r_x, z_x, q_y, g_y, l_y, r_y, z_y] at f3_0
        try simp (disch := first | omega | (simp; done) | fail) [wrap64c, if_pos, if_neg, g_h0, lL, lA, c2b, q_x, g_x, l_x, r_x, z_x, q_y, g_y, l_y, r_y, z_y] at f31_0
        try simp (disch := first | omega | (simp; done) | fail) [wrap64c, if_pos, if_neg, g_h0, lL, lA, c2b, q_x, g_x, l_x, r_x, z_x, q_y, g_y, l_y, r_y, z_y] at f32_0
        have e1 := f1_0
        have e3 := f3_0
        have e31 := f31_0
        have e32 := f32_0
        by_cases hlt : j < A.length
        · have hlt2 : j < L.length := by omega
          have b1 := sum_take (by omega) c3 j (by omega)
          have b2 := c3 _ (List.getElem_mem hlt)
          have hu := R_x j hlt2
          have lu := hu.lenD
          by_cases d1 : L[j].length = A.length
          · have d1b : ((L[j].length : Int) != (A.length : Int)) = false := by simp [d1]
            repeat (first
              | (refine WD_block (fun K hK => ?_))
              | (refine WD_seq (fun K hK => ?_))
              | (refine WD_region (fun K hK => ?_))
              | ((first | refine RunD_o rfl rfl rfl rfl rfl (fun X hX => ?_) | refine RunD_s rfl rfl rfl rfl (fun X hX => ?_) | (refine RunD_oT rfl rfl rfl rfl rfl rfl rfl ?hb (fun X hX => ?_); (case hb => simp (disch := first | omega | (simp; done) | fail) [wrap64c, if_pos, if_neg, g_h0, lL, lA, c2b, q_x, g_x, l_x, r_x, z_x, q_y, g_y, l_y, r_y, z_y, e1, e3, e4, e31, e32, e33, hlt, hlt2, lu, d1b] <;> omega))); (try dsimp only); simp (disch := first | omega | (simp; done) | fail) [wrap64c, if_pos, if_neg, g_h0, lL, lA, c2b, q_x, g_x, l_x, r_x, z_x, q_y, g_y, l_y, r_y, z_y, e1, e3, e4, e31, e32, e33, hlt, hlt2, lu, d1b]; refine hX _ _ ?_; clear hX X)
              | (refine RunD_oF rfl rfl rfl rfl rfl ?hb ?_; (case hb => simp (disch := first | omega | (simp; done) | fail) [wrap64c, if_pos, if_neg, g_h0, lL, lA, c2b, q_x, g_x, l_x, r_x, z_x, q_y, g_y, l_y, r_y, z_y, e1, e3, e4, e31, e32, e33, hlt, hlt2, lu, d1b] <;> omega))
              | ((first | refine RunD_oU (c := #[]) rfl rfl rfl rfl rfl ?hb ?_); (case hb => simp (disch := first | omega | (simp; done) | fail) [wrap64c, if_pos, if_neg, g_h0, lL, lA, c2b, q_x, g_x, l_x, r_x, z_x, q_y, g_y, l_y, r_y, z_y, e1, e3, e4, e31, e32, e33, hlt, hlt2, lu, d1b]; rfl))
              | (refine RunD_nil ?_; refine hK _ _ ?_; clear hK K)
              | (refine RunD_nil ?_)
              | (refine WD_skip ?_)
              | (refine WD_exit ?_)
              | (refine WD_ret ?_)
              | (refine WD_true rfl ?hb ?_; (case hb => simp (disch := first | omega | (simp; done) | fail) [wrap64c, if_pos, if_neg, g_h0, lL, lA, c2b, q_x, g_x, l_x, r_x, z_x, q_y, g_y, l_y, r_y, z_y, e1, e3, e4, e31, e32, e33, hlt, hlt2, lu, d1b] <;> omega))
              | (refine WD_false rfl ?hb ?_; (case hb => simp (disch := first | omega | (simp; done) | fail) [wrap64c, if_pos, if_neg, g_h0, lL, lA, c2b, q_x, g_x, l_x, r_x, z_x, q_y, g_y, l_y, r_y, z_y, e1, e3, e4, e31, e32, e33, hlt, hlt2, lu, d1b] <;> omega))
              | (refine hK.1 _ _ ?_; clear hK K)
              | (refine hK.2.1 _ _ ?_; clear hK K)
              | (refine hK.2 _ _ _ ?hne ?_; (case hne => simp; done); clear hK K)
              | (refine hK.2.2 _ _ _ ?hne ?_; (case hne => simp; done); clear hK K))
            have hc := l1All_ok h0 _ L[j] 0 3 hu
            have ed := el_eq hlt2 (show j < L[j].length by omega)
            by_cases d2 : ∀ x ∈ L[j], 0 ≤ x ∧ x ≤ 3
            · rw [decide_eq_true d2] at hc
              refine RunD_cT rfl rfl rfl rfl rfl rfl ?hb (by simp) (by simp) ?ha (hc) ?_
              (case hb => simp (disch := first | omega | (simp; done) | fail) [wrap64c, if_pos, if_neg, g_h0, lL, lA, c2b, q_x, g_x, l_x, r_x, z_x, q_y, g_y, l_y, r_y, z_y, e1, e3, e4, e31, e32, e33, hlt, hlt2, lu, d1b])
              (case ha => simp (disch := first | omega | (simp; done) | fail) [wrap64c, if_pos, if_neg, g_h0, lL, lA, c2b, q_x, g_x, l_x, r_x, z_x, q_y, g_y, l_y, r_y, z_y, e1, e3, e4, e31, e32, e33, hlt, hlt2, lu, d1b])
              obtain ⟨o_u, i_u, c_u, cs_u, own_u, ex_u, es_u, q_u, b_u, g_u, l_u, r_u⟩ := hu.open ((by omega))
              have z_u : ∀ h2 : i_u < cs_u.length, cs_u[i_u] = _ := fun h2 => r_u 0 ((by omega)) h2
              by_cases d3 : L[j][j] = 0
              · repeat (first
                  | (refine WD_block (fun K hK => ?_))
                  | (refine WD_seq (fun K hK => ?_))
                  | (refine WD_region (fun K hK => ?_))
                  | ((first | refine RunD_o rfl rfl rfl rfl rfl (fun X hX => ?_) | refine RunD_s rfl rfl rfl rfl (fun X hX => ?_) | (refine RunD_oT rfl rfl rfl rfl rfl rfl rfl ?hb (fun X hX => ?_); (case hb => simp (disch := first | omega | (simp; done) | fail) [wrap64c, if_pos, if_neg, g_h0, lL, lA, c2b, q_x, g_x, l_x, r_x, z_x, q_y, g_y, l_y, r_y, z_y, e1, e3, e4, e31, e32, e33, hlt, hlt2, lu, d1b, q_u, g_u, l_u, r_u, z_u, d3] <;> omega))); (try dsimp only); simp (disch := first | omega | (simp; done) | fail) [wrap64c, if_pos, if_neg, g_h0, lL, lA, c2b, q_x, g_x, l_x, r_x, z_x, q_y, g_y, l_y, r_y, z_y, e1, e3, e4, e31, e32, e33, hlt, hlt2, lu, d1b, q_u, g_u, l_u, r_u, z_u, d3]; refine hX _ _ ?_; clear hX X)
                  | (refine RunD_oF rfl rfl rfl rfl rfl ?hb ?_; (case hb => simp (disch := first | omega | (simp; done) | fail) [wrap64c, if_pos, if_neg, g_h0, lL, lA, c2b, q_x, g_x, l_x, r_x, z_x, q_y, g_y, l_y, r_y, z_y, e1, e3, e4, e31, e32, e33, hlt, hlt2, lu, d1b, q_u, g_u, l_u, r_u, z_u, d3] <;> omega))
                  | ((first | refine RunD_oU (c := #[]) rfl rfl rfl rfl rfl ?hb ?_); (case hb => simp (disch := first | omega | (simp; done) | fail) [wrap64c, if_pos, if_neg, g_h0, lL, lA, c2b, q_x, g_x, l_x, r_x, z_x, q_y, g_y, l_y, r_y, z_y, e1, e3, e4, e31, e32, e33, hlt, hlt2, lu, d1b, q_u, g_u, l_u, r_u, z_u, d3]; rfl))
                  | (refine RunD_nil ?_; refine hK _ _ ?_; clear hK K)
                  | (refine RunD_nil ?_)
                  | (refine WD_skip ?_)
                  | (refine WD_exit ?_)
                  | (refine WD_ret ?_)
                  | (refine WD_true rfl ?hb ?_; (case hb => simp (disch := first | omega | (simp; done) | fail) [wrap64c, if_pos, if_neg, g_h0, lL, lA, c2b, q_x, g_x, l_x, r_x, z_x, q_y, g_y, l_y, r_y, z_y, e1, e3, e4, e31, e32, e33, hlt, hlt2, lu, d1b, q_u, g_u, l_u, r_u, z_u, d3] <;> omega))
                  | (refine WD_false rfl ?hb ?_; (case hb => simp (disch := first | omega | (simp; done) | fail) [wrap64c, if_pos, if_neg, g_h0, lL, lA, c2b, q_x, g_x, l_x, r_x, z_x, q_y, g_y, l_y, r_y, z_y, e1, e3, e4, e31, e32, e33, hlt, hlt2, lu, d1b, q_u, g_u, l_u, r_u, z_u, d3] <;> omega))
                  | (refine hK.1 _ _ ?_; clear hK K)
                  | (refine hK.2.1 _ _ ?_; clear hK K)
                  | (refine hK.2 _ _ _ ?hne ?_; (case hne => simp; done); clear hK K)
                  | (refine hK.2.2 _ _ _ ?hne ?_; (case hne => simp; done); clear hK K))
                refine hK.1 _ _ _ ?hm ?hf ⟨j + 1, rfl, rfl, (by simp [sum_step hlt]), (by first | (simp (disch := first | omega | (simp; done) | fail) [wrap64c, if_pos, if_neg, g_h0, lL, lA, c2b, q_x, g_x, l_x, r_x, z_x, q_y, g_y, l_y, r_y, z_y, e1, e3, e4, e31, e32, e33, hlt, hlt2, lu, d1b, q_u, g_u, l_u, r_u, z_u, d3]; done) | (simp (disch := first | omega | (simp; done) | fail) [wrap64c, if_pos, if_neg, g_h0, lL, lA, c2b, q_x, g_x, l_x, r_x, z_x, q_y, g_y, l_y, r_y, z_y, e1, e3, e4, e31, e32, e33, hlt, hlt2, lu, d1b, q_u, g_u, l_u, r_u, z_u, d3] <;> omega)), (by first | omega | (simp (disch := first | omega | (simp; done) | fail) [wrap64c, if_pos, if_neg, g_h0, lL, lA, c2b, q_x, g_x, l_x, r_x, z_x, q_y, g_y, l_y, r_y, z_y, e1, e3, e4, e31, e32, e33, hlt, hlt2, lu, d1b, q_u, g_u, l_u, r_u, z_u, d3]; done) | (simp (disch := first | omega | (simp; done) | fail) [wrap64c, if_pos, if_neg, g_h0, lL, lA, c2b, q_x, g_x, l_x, r_x, z_x, q_y, g_y, l_y, r_y, z_y, e1, e3, e4, e31, e32, e33, hlt, hlt2, lu, d1b, q_u, g_u, l_u, r_u, z_u, d3] <;> omega) | assumption), ?c_hx⟩
                (case hm => first | omega | (simp; omega))
                (case hf => simp [FrameL, g_h0, lL, lA, c2b, q_x, g_x, l_x, r_x, z_x, q_y, g_y, l_y, r_y, z_y, e1, e3, e4, e31, e32, e33, hlt, hlt2, lu, d1b, q_u, g_u, l_u, r_u, z_u, d3, f1_0, f3_0, f31_0, f32_0])
                case c_hx =>
                  exact (fun i hi hij => by
                    rcases Nat.lt_succ_iff_lt_or_eq.1 hij with q | q
                    · exact hx i hi q
                    · subst q; exact ⟨d1, d2, by rw [ed, d3]⟩)
              · repeat (first
                  | (refine WD_block (fun K hK => ?_))
                  | (refine WD_seq (fun K hK => ?_))
                  | (refine WD_region (fun K hK => ?_))
                  | ((first | refine RunD_o rfl rfl rfl rfl rfl (fun X hX => ?_) | refine RunD_s rfl rfl rfl rfl (fun X hX => ?_) | (refine RunD_oT rfl rfl rfl rfl rfl rfl rfl ?hb (fun X hX => ?_); (case hb => simp (disch := first | omega | (simp; done) | fail) [wrap64c, if_pos, if_neg, g_h0, lL, lA, c2b, q_x, g_x, l_x, r_x, z_x, q_y, g_y, l_y, r_y, z_y, e1, e3, e4, e31, e32, e33, hlt, hlt2, lu, d1b, q_u, g_u, l_u, r_u, z_u, d3] <;> omega))); (try dsimp only); simp (disch := first | omega | (simp; done) | fail) [wrap64c, if_pos, if_neg, g_h0, lL, lA, c2b, q_x, g_x, l_x, r_x, z_x, q_y, g_y, l_y, r_y, z_y, e1, e3, e4, e31, e32, e33, hlt, hlt2, lu, d1b, q_u, g_u, l_u, r_u, z_u, d3]; refine hX _ _ ?_; clear hX X)
                  | (refine RunD_oF rfl rfl rfl rfl rfl ?hb ?_; (case hb => simp (disch := first | omega | (simp; done) | fail) [wrap64c, if_pos, if_neg, g_h0, lL, lA, c2b, q_x, g_x, l_x, r_x, z_x, q_y, g_y, l_y, r_y, z_y, e1, e3, e4, e31, e32, e33, hlt, hlt2, lu, d1b, q_u, g_u, l_u, r_u, z_u, d3] <;> omega))
                  | ((first | refine RunD_oU (c := #[]) rfl rfl rfl rfl rfl ?hb ?_); (case hb => simp (disch := first | omega | (simp; done) | fail) [wrap64c, if_pos, if_neg, g_h0, lL, lA, c2b, q_x, g_x, l_x, r_x, z_x, q_y, g_y, l_y, r_y, z_y, e1, e3, e4, e31, e32, e33, hlt, hlt2, lu, d1b, q_u, g_u, l_u, r_u, z_u, d3]; rfl))
                  | (refine RunD_nil ?_; refine hK _ _ ?_; clear hK K)
                  | (refine RunD_nil ?_)
                  | (refine WD_skip ?_)
                  | (refine WD_exit ?_)
                  | (refine WD_ret ?_)
                  | (refine WD_true rfl ?hb ?_; (case hb => simp (disch := first | omega | (simp; done) | fail) [wrap64c, if_pos, if_neg, g_h0, lL, lA, c2b, q_x, g_x, l_x, r_x, z_x, q_y, g_y, l_y, r_y, z_y, e1, e3, e4, e31, e32, e33, hlt, hlt2, lu, d1b, q_u, g_u, l_u, r_u, z_u, d3] <;> omega))
                  | (refine WD_false rfl ?hb ?_; (case hb => simp (disch := first | omega | (simp; done) | fail) [wrap64c, if_pos, if_neg, g_h0, lL, lA, c2b, q_x, g_x, l_x, r_x, z_x, q_y, g_y, l_y, r_y, z_y, e1, e3, e4, e31, e32, e33, hlt, hlt2, lu, d1b, q_u, g_u, l_u, r_u, z_u, d3] <;> omega))
                  | (refine hK.1 _ _ ?_; clear hK K)
                  | (refine hK.2.1 _ _ ?_; clear hK K)
                  | (refine hK.2 _ _ _ ?hne ?_; (case hne => simp; done); clear hK K)
                  | (refine hK.2.2 _ _ _ ?hne ?_; (case hne => simp; done); clear hK K))
                exact done_ret rfl (by rw [goodB_false fun q => d3 (by rw [← ed]; exact q.2.2.2.2.2.1 j hlt)]; simp [k0])
            · rw [decide_eq_false d2] at hc
              refine RunD_cT rfl rfl rfl rfl rfl rfl ?hb (by simp) (by simp) ?ha (hc) ?_
              (case hb => simp (disch := first | omega | (simp; done) | fail) [wrap64c, if_pos, if_neg, g_h0, lL, lA, c2b, q_x, g_x, l_x, r_x, z_x, q_y, g_y, l_y, r_y, z_y, e1, e3, e4, e31, e32, e33, hlt, hlt2, lu, d1b])
              (case ha => simp (disch := first | omega | (simp; done) | fail) [wrap64c, if_pos, if_neg, g_h0, lL, lA, c2b, q_x, g_x, l_x, r_x, z_x, q_y, g_y, l_y, r_y, z_y, e1, e3, e4, e31, e32, e33, hlt, hlt2, lu, d1b])
              repeat (first
                | (refine WD_block (fun K hK => ?_))
                | (refine WD_seq (fun K hK => ?_))
                | (refine WD_region (fun K hK => ?_))
                | ((first | refine RunD_o rfl rfl rfl rfl rfl (fun X hX => ?_) | refine RunD_s rfl rfl rfl rfl (fun X hX => ?_) | (refine RunD_oT rfl rfl rfl rfl rfl rfl rfl ?hb (fun X hX => ?_); (case hb => simp (disch := first | omega | (simp; done) | fail) [wrap64c, if_pos, if_neg, g_h0, lL, lA, c2b, q_x, g_x, l_x, r_x, z_x, q_y, g_y, l_y, r_y, z_y, e1, e3, e4, e31, e32, e33, hlt, hlt2, lu, d1b] <;> omega))); (try dsimp only); simp (disch := first | omega | (simp; done) | fail) [wrap64c, if_pos, if_neg, g_h0, lL, lA, c2b, q_x, g_x, l_x, r_x, z_x, q_y, g_y, l_y, r_y, z_y, e1, e3, e4, e31, e32, e33, hlt, hlt2, lu, d1b]; refine hX _ _ ?_; clear hX X)
                | (refine RunD_oF rfl rfl rfl rfl rfl ?hb ?_; (case hb => simp (disch := first | omega | (simp; done) | fail) [wrap64c, if_pos, if_neg, g_h0, lL, lA, c2b, q_x, g_x, l_x, r_x, z_x, q_y, g_y, l_y, r_y, z_y, e1, e3, e4, e31, e32, e33, hlt, hlt2, lu, d1b] <;> omega))
                | ((first | refine RunD_oU (c := #[]) rfl rfl rfl rfl rfl ?hb ?_); (case hb => simp (disch := first | omega | (simp; done) | fail) [wrap64c, if_pos, if_neg, g_h0, lL, lA, c2b, q_x, g_x, l_x, r_x, z_x, q_y, g_y, l_y, r_y, z_y, e1, e3, e4, e31, e32, e33, hlt, hlt2, lu, d1b]; rfl))
                | (refine RunD_nil ?_; refine hK _ _ ?_; clear hK K)
                | (refine RunD_nil ?_)
                | (refine WD_skip ?_)
                | (refine WD_exit ?_)
                | (refine WD_ret ?_)
                | (refine WD_true rfl ?hb ?_; (case hb => simp (disch := first | omega | (simp; done) | fail) [wrap64c, if_pos, if_neg, g_h0, lL, lA, c2b, q_x, g_x, l_x, r_x, z_x, q_y, g_y, l_y, r_y, z_y, e1, e3, e4, e31, e32, e33, hlt, hlt2, lu, d1b] <;> omega))
                | (refine WD_false rfl ?hb ?_; (case hb => simp (disch := first | omega | (simp; done) | fail) [wrap64c, if_pos, if_neg, g_h0, lL, lA, c2b, q_x, g_x, l_x, r_x, z_x, q_y, g_y, l_y, r_y, z_y, e1, e3, e4, e31, e32, e33, hlt, hlt2, lu, d1b] <;> omega))
                | (refine hK.1 _ _ ?_; clear hK K)
                | (refine hK.2.1 _ _ ?_; clear hK K)
                | (refine hK.2 _ _ _ ?hne ?_; (case hne => simp; done); clear hK K)
                | (refine hK.2.2 _ _ _ ?hne ?_; (case hne => simp; done); clear hK K))
              exact done_ret rfl (by rw [goodB_false fun q => d2 (q.2.2.2.1 _ (List.getElem_mem hlt2)).2]; simp [k0])
          · have d1b : ((L[j].length : Int) != (A.length : Int)) = true := by simp [d1]
            repeat (first
              | (refine WD_block (fun K hK => ?_))
              | (refine WD_seq (fun K hK => ?_))
              | (refine WD_region (fun K hK => ?_))
              | ((first | refine RunD_o rfl rfl rfl rfl rfl (fun X hX => ?_) | refine RunD_s rfl rfl rfl rfl (fun X hX => ?_) | (refine RunD_oT rfl rfl rfl rfl rfl rfl rfl ?hb (fun X hX => ?_); (case hb => simp (disch := first | omega | (simp; done) | fail) [wrap64c, if_pos, if_neg, g_h0, lL, lA, c2b, q_x, g_x, l_x, r_x, z_x, q_y, g_y, l_y, r_y, z_y, e1, e3, e4, e31, e32, e33, hlt, hlt2, lu, d1b] <;> omega))); (try dsimp only); simp (disch := first | omega | (simp; done) | fail) [wrap64c, if_pos, if_neg, g_h0, lL, lA, c2b, q_x, g_x, l_x, r_x, z_x, q_y, g_y, l_y, r_y, z_y, e1, e3, e4, e31, e32, e33, hlt, hlt2, lu, d1b]; refine hX _ _ ?_; clear hX X)
              | (refine RunD_oF rfl rfl rfl rfl rfl ?hb ?_; (case hb => simp (disch := first | omega | (simp; done) | fail) [wrap64c, if_pos, if_neg, g_h0, lL, lA, c2b, q_x, g_x, l_x, r_x, z_x, q_y, g_y, l_y, r_y, z_y, e1, e3, e4, e31, e32, e33, hlt, hlt2, lu, d1b] <;> omega))
              | ((first | refine RunD_oU (c := #[]) rfl rfl rfl rfl rfl ?hb ?_); (case hb => simp (disch := first | omega | (simp; done) | fail) [wrap64c, if_pos, if_neg, g_h0, lL, lA, c2b, q_x, g_x, l_x, r_x, z_x, q_y, g_y, l_y, r_y, z_y, e1, e3, e4, e31, e32, e33, hlt, hlt2, lu, d1b]; rfl))
              | (refine RunD_nil ?_; refine hK _ _ ?_; clear hK K)
              | (refine RunD_nil ?_)
              | (refine WD_skip ?_)
              | (refine WD_exit ?_)
              | (refine WD_ret ?_)
              | (refine WD_true rfl ?hb ?_; (case hb => simp (disch := first | omega | (simp; done) | fail) [wrap64c, if_pos, if_neg, g_h0, lL, lA, c2b, q_x, g_x, l_x, r_x, z_x, q_y, g_y, l_y, r_y, z_y, e1, e3, e4, e31, e32, e33, hlt, hlt2, lu, d1b] <;> omega))
              | (refine WD_false rfl ?hb ?_; (case hb => simp (disch := first | omega | (simp; done) | fail) [wrap64c, if_pos, if_neg, g_h0, lL, lA, c2b, q_x, g_x, l_x, r_x, z_x, q_y, g_y, l_y, r_y, z_y, e1, e3, e4, e31, e32, e33, hlt, hlt2, lu, d1b] <;> omega))
              | (refine hK.1 _ _ ?_; clear hK K)
              | (refine hK.2.1 _ _ ?_; clear hK K)
              | (refine hK.2 _ _ _ ?hne ?_; (case hne => simp; done); clear hK K)
              | (refine hK.2.2 _ _ _ ?hne ?_; (case hne => simp; done); clear hK K))
            exact done_ret rfl (by rw [goodB_false fun q => d1 (q.2.2.2.1 _ (List.getElem_mem hlt2)).1]; simp [k0])
        · have hlt2 : ¬ j < L.length := by omega
          repeat (first
            | (refine WD_block (fun K hK => ?_))
            | (refine WD_seq (fun K hK => ?_))
            | (refine WD_region (fun K hK => ?_))
            | ((first | refine RunD_o rfl rfl rfl rfl rfl (fun X hX => ?_) | refine RunD_s rfl rfl rfl rfl (fun X hX => ?_) | (refine RunD_oT rfl rfl rfl rfl rfl rfl rfl ?hb (fun X hX => ?_); (case hb => simp (disch := first | omega | (simp; done) | fail) [wrap64c, if_pos, if_neg, g_h0, lL, lA, c2b, q_x, g_x, l_x, r_x, z_x, q_y, g_y, l_y, r_y, z_y, e1, e3, e4, e31, e32, e33, hlt, hlt2] <;> omega))); (try dsimp only); simp (disch := first | omega | (simp; done) | fail) [wrap64c, if_pos, if_neg, g_h0, lL, lA, c2b, q_x, g_x, l_x, r_x, z_x, q_y, g_y, l_y, r_y, z_y, e1, e3, e4, e31, e32, e33, hlt, hlt2]; refine hX _ _ ?_; clear hX X)
            | (refine RunD_oF rfl rfl rfl rfl rfl ?hb ?_; (case hb => simp (disch := first | omega | (simp; done) | fail) [wrap64c, if_pos, if_neg, g_h0, lL, lA, c2b, q_x, g_x, l_x, r_x, z_x, q_y, g_y, l_y, r_y, z_y, e1, e3, e4, e31, e32, e33, hlt, hlt2] <;> omega))
            | ((first | refine RunD_oU (c := #[]) rfl rfl rfl rfl rfl ?hb ?_); (case hb => simp (disch := first | omega | (simp; done) | fail) [wrap64c, if_pos, if_neg, g_h0, lL, lA, c2b, q_x, g_x, l_x, r_x, z_x, q_y, g_y, l_y, r_y, z_y, e1, e3, e4, e31, e32, e33, hlt, hlt2]; rfl))
            | (refine RunD_nil ?_; refine hK _ _ ?_; clear hK K)
            | (refine RunD_nil ?_)
            | (refine WD_skip ?_)
            | (refine WD_exit ?_)
            | (refine WD_ret ?_)
            | (refine WD_true rfl ?hb ?_; (case hb => simp (disch := first | omega | (simp; done) | fail) [wrap64c, if_pos, if_neg, g_h0, lL, lA, c2b, q_x, g_x, l_x, r_x, z_x, q_y, g_y, l_y, r_y, z_y, e1, e3, e4, e31, e32, e33, hlt, hlt2] <;> omega))
            | (refine WD_false rfl ?hb ?_; (case hb => simp (disch := first | omega | (simp; done) | fail) [wrap64c, if_pos, if_neg, g_h0, lL, lA, c2b, q_x, g_x, l_x, r_x, z_x, q_y, g_y, l_y, r_y, z_y, e1, e3, e4, e31, e32, e33, hlt, hlt2] <;> omega))
            | (refine hK.1 _ _ ?_; clear hK K)
            | (refine hK.2.1 _ _ ?_; clear hK K)
            | (refine hK.2 _ _ _ ?hne ?_; (case hne => simp; done); clear hK K)
            | (refine hK.2.2 _ _ _ ?hne ?_; (case hne => simp; done); clear hK K))
          have hj' : j = A.length := by omega
          subst hj'
          rw [List.take_length] at e4
          have hrow : ∀ i (hi : i < L.length), L[i].length = A.length := fun i hi => (hx i hi (by omega)).1
          refine WD_loopF [1, 4, 63, 64] (fun m tm h' => ∃ j, m = L.length - j ∧ h0 = h' ∧ tm 65 = .int .i64 (j : Int) ∧ (j ≤ L.length) ∧ (∀ i, i < j → ∀ k, k < A.length → el L i k = el L k i)) _ ⟨0, rfl, rfl, (by simp (disch := first | omega | (simp; done) | fail) [wrap64c, if_pos, if_neg, g_h0, lL, lA, c2b, q_x, g_x, l_x, r_x, z_x, q_y, g_y, l_y, r_y, z_y, e1, e3, e4, e31, e32, e33, hlt, hlt2]), (by first | omega | (simp (disch := first | omega | (simp; done) | fail) [wrap64c, if_pos, if_neg, g_h0, lL, lA, c2b, q_x, g_x, l_x, r_x, z_x, q_y, g_y, l_y, r_y, z_y, e1, e3, e4, e31, e32, e33, hlt, hlt2]; done) | (simp (disch := first | omega | (simp; done) | fail) [wrap64c, if_pos, if_neg, g_h0, lL, lA, c2b, q_x, g_x, l_x, r_x, z_x, q_y, g_y, l_y, r_y, z_y, e1, e3, e4, e31, e32, e33, hlt, hlt2] <;> omega) | assumption), (by intro i h0; omega)⟩ ?_
          rintro m tm h' hFr ⟨j, rfl, rfl, e65, hj, hy⟩ K hK
          simp only [FrameL] at hFr
          obtain ⟨f1_1, f4_1, f63_1, f64_1, -⟩ := hFr
          try simp (disch := first | omega | (simp; done) | fail) [wrap64c, if_pos, if_neg, g_h0, lL, lA, c2b, q_x, g_x, l_x, r_x, z_x, q_y, g_y, l_y, r_y, z_y, e1, e3, e4, e31, e32, e33, hlt, hlt2] at f1_1
          try simp (disch := first | omega | (simp; done) | fail) [wrap64c, if_pos, if_neg, g_h0, lL, lA, c2b, q_x, g_x, l_x, r_x, z_x, q_y, g_y, l_y, r_y, z_y, e1, e3, e4, e31, e32, e33, hlt, hlt2] at f4_1
          try simp (disch := first | omega | (simp; done) | fail) [wrap64c, if_pos, if_neg, g_h0, lL, lA, c2b, q_x, g_x, l_x, r_x, z_x, q_y, g_y, l_y, r_y, z_y, e1, e3, e4, e31, e32, e33, hlt, hlt2] at f63_1
          try simp (disch := first | omega | (simp; done) | fail) [wrap64c, if_pos, if_neg, g_h0, lL, lA, c2b, q_x, g_x, l_x, r_x, z_x, q_y, g_y, l_y, r_y, z_y, e1, e3, e4, e31, e32, e33, hlt, hlt2] at f64_1
          have e1 := f1_1
          have e4 := f4_1
          have e63 := f63_1
          have e64 := f64_1
          by_cases hlt : j < L.length
          · have hrj := hrow j hlt
            have hu := R_x j hlt
            have lu := hu.lenD
            obtain ⟨o_u, i_u, c_u, cs_u, own_u, ex_u, es_u, q_u, b_u, g_u, l_u, r_u⟩ := hu.open ((by omega))
            have z_u : ∀ h2 : i_u < cs_u.length, cs_u[i_u] = _ := fun h2 => r_u 0 ((by omega)) h2
            repeat (first
              | (refine WD_block (fun K hK => ?_))
              | (refine WD_seq (fun K hK => ?_))
              | (refine WD_region (fun K hK => ?_))
              | ((first | refine RunD_o rfl rfl rfl rfl rfl (fun X hX => ?_) | refine RunD_s rfl rfl rfl rfl (fun X hX => ?_) | (refine RunD_oT rfl rfl rfl rfl rfl rfl rfl ?hb (fun X hX => ?_); (case hb => simp (disch := first | omega | (simp; done) | fail) [wrap64c, if_pos, if_neg, g_h0, lL, lA, c2b, q_x, g_x, l_x, r_x, z_x, q_y, g_y, l_y, r_y, z_y, e1, e3, e4, e31, e32, e33, hlt, hlt2, e63, e64, e65, lu, q_u, g_u, l_u, r_u, z_u] <;> omega))); (try dsimp only); simp (disch := first | omega | (simp; done) | fail) [wrap64c, if_pos, if_neg, g_h0, lL, lA, c2b, q_x, g_x, l_x, r_x, z_x, q_y, g_y, l_y, r_y, z_y, e1, e3, e4, e31, e32, e33, hlt, hlt2, e63, e64, e65, lu, q_u, g_u, l_u, r_u, z_u]; refine hX _ _ ?_; clear hX X)
              | (refine RunD_oF rfl rfl rfl rfl rfl ?hb ?_; (case hb => simp (disch := first | omega | (simp; done) | fail) [wrap64c, if_pos, if_neg, g_h0, lL, lA, c2b, q_x, g_x, l_x, r_x, z_x, q_y, g_y, l_y, r_y, z_y, e1, e3, e4, e31, e32, e33, hlt, hlt2, e63, e64, e65, lu, q_u, g_u, l_u, r_u, z_u] <;> omega))
              | ((first | refine RunD_oU (c := #[]) rfl rfl rfl rfl rfl ?hb ?_); (case hb => simp (disch := first | omega | (simp; done) | fail) [wrap64c, if_pos, if_neg, g_h0, lL, lA, c2b, q_x, g_x, l_x, r_x, z_x, q_y, g_y, l_y, r_y, z_y, e1, e3, e4, e31, e32, e33, hlt, hlt2, e63, e64, e65, lu, q_u, g_u, l_u, r_u, z_u]; rfl))
              | (refine RunD_nil ?_; refine hK _ _ ?_; clear hK K)
              | (refine RunD_nil ?_)
              | (refine WD_skip ?_)
              | (refine WD_exit ?_)
              | (refine WD_ret ?_)
              | (refine WD_true rfl ?hb ?_; (case hb => simp (disch := first | omega | (simp; done) | fail) [wrap64c, if_pos, if_neg, g_h0, lL, lA, c2b, q_x, g_x, l_x, r_x, z_x, q_y, g_y, l_y, r_y, z_y, e1, e3, e4, e31, e32, e33, hlt, hlt2, e63, e64, e65, lu, q_u, g_u, l_u, r_u, z_u] <;> omega))
              | (refine WD_false rfl ?hb ?_; (case hb => simp (disch := first | omega | (simp; done) | fail) [wrap64c, if_pos, if_neg, g_h0, lL, lA, c2b, q_x, g_x, l_x, r_x, z_x, q_y, g_y, l_y, r_y, z_y, e1, e3, e4, e31, e32, e33, hlt, hlt2, e63, e64, e65, lu, q_u, g_u, l_u, r_u, z_u] <;> omega))
              | (refine hK.1 _ _ ?_; clear hK K)
              | (refine hK.2.1 _ _ ?_; clear hK K)
              | (refine hK.2 _ _ _ ?hne ?_; (case hne => simp; done); clear hK K)
              | (refine hK.2.2 _ _ _ ?hne ?_; (case hne => simp; done); clear hK K))
            refine WD_loopF [1, 4, 7, 63, 64, 65, 70, 71] (fun m tm h' => ∃ k, m = L[j].length - k ∧ h0 = h' ∧ tm 72 = .int .i64 (k : Int) ∧ (k ≤ L[j].length) ∧ (∀ i, i < k → el L j i = el L i j)) _ ⟨0, rfl, rfl, (by simp (disch := first | omega | (simp; done) | fail) [wrap64c, if_pos, if_neg, g_h0, lL, lA, c2b, q_x, g_x, l_x, r_x, z_x, q_y, g_y, l_y, r_y, z_y, e1, e3, e4, e31, e32, e33, hlt, hlt2, e63, e64, e65, lu, q_u, g_u, l_u, r_u, z_u]), (by first | omega | (simp (disch := first | omega | (simp; done) | fail) [wrap64c, if_pos, if_neg, g_h0, lL, lA, c2b, q_x, g_x, l_x, r_x, z_x, q_y, g_y, l_y, r_y, z_y, e1, e3, e4, e31, e32, e33, hlt, hlt2, e63, e64, e65, lu, q_u, g_u, l_u, r_u, z_u]; done) | (simp (disch := first | omega | (simp; done) | fail) [wrap64c, if_pos, if_neg, g_h0, lL, lA, c2b, q_x, g_x, l_x, r_x, z_x, q_y, g_y, l_y, r_y, z_y, e1, e3, e4, e31, e32, e33, hlt, hlt2, e63, e64, e65, lu, q_u, g_u, l_u, r_u, z_u] <;> omega) | assumption), (by intro i h0; omega)⟩ ?_
            rintro m tm h' hFr ⟨k, rfl, rfl, e72, hk, hz⟩ K hK
            simp only [FrameL] at hFr
            obtain ⟨f1_2, f4_2, f7_2, f63_2, f64_2, f65_2, f70_2, f71_2, -⟩ := hFr
            try simp (disch := first | omega | (simp; done) | fail) [wrap64c, if_pos, if_neg, g_h0, lL, lA, c2b, q_x, g_x, l_x, r_x, z_x, q_y, g_y, l_y, r_y, z_y, e1, e3, e4, e31, e32, e33, hlt, hlt2, e63, e64, e65, lu, q_u, g_u, l_u, r_u, z_u] at f1_2
            try simp (disch := first | omega | (simp; done) | fail) [wrap64c, if_pos, if_neg, g_h0, lL, lA, c2b, q_x, g_x, l_x, r_x, z_x, q_y, g_y, l_y, r_y, z_y, e1, e3, e4, e31, e32, e33, hlt, hlt2, e63, e64, e65, lu, q_u, g_u, l_u, r_u, z_u] at f4_2
            try simp (disch := first | omega | (simp; done) | fail) [wrap64c, if_pos, if_neg, g_h0, lL, lA, c2b, q_x, g_x, l_x, r_x, z_x, q_y, g_y, l_y, r_y, z_y, e1, e3, e4, e31, e32, e33, hlt, hlt2, e63, e64, e65, lu, q_u, g_u, l_u, r_u, z_u] at f7_2
            try simp (disch := first | omega | (simp; done) | fail) [wrap64c, if_pos, if_neg, g_h0, lL, lA, c2b, q_x, g_x, l_x, r_x, z_x, q_y, g_y, l_y, r_y, z_y, e1, e3, e4, e31, e32, e33, hlt, hlt2, e63, e64, e65, lu, q_u, g_u, l_u, r_u, z_u] at f63_2
            try simp (disch := first | omega | (simp; done) | fail) [wrap64c, if_pos, if_neg, g_h0, lL, lA, c2b, q_x, g_x, l_x, r_x, z_x, q_y, g_y, l_y, r_y, z_y, e1, e3, e4, e31, e32, e33, hlt, hlt2, e63, e64, e65, lu, q_u, g_u, l_u, r_u, z_u] at f64_2
            try simp (disch := first | omega | (simp; done) | fail) [wrap64c, if_pos, if_neg, g_h0, lL, lA, c2b, q_x, g_x, l_x, r_x, z_x, q_y, g_y, l_y, r_y, z_y, e1, e3, e4, e31, e32, e33, hlt, hlt2, e63, e64, e65, lu, q_u, g_u, l_u, r_u, z_u] at f65_2
            try simp (disch := first | omega | (simp; done) | fail) [wrap64c, if_pos, if_neg, g_h0, lL, lA, c2b, q_x, g_x, l_x, r_x, z_x, q_y, g_y, l_y, r_y, z_y, e1, e3, e4, e31, e32, e33, hlt, hlt2, e63, e64, e65, lu, q_u, g_u, l_u, r_u, z_u] at f70_2
            try simp (disch := first | omega | (simp; done) | fail) [wrap64c, if_pos, if_neg, g_h0, lL, lA, c2b, q_x, g_x, l_x, r_x, z_x, q_y, g_y, l_y, r_y, z_y, e1, e3, e4, e31, e32, e33, hlt, hlt2, e63, e64, e65, lu, q_u, g_u, l_u, r_u, z_u] at f71_2
            have e1 := f1_2
            have e4 := f4_2
            have e7 := f7_2
            have e63 := f63_2
            have e64 := f64_2
            have e65 := f65_2
            have e70 := f70_2
            have e71 := f71_2
            by_cases hlt3 : k < L[j].length
            · have hkL : k < L.length := by omega
              have hrk := hrow k hkL
              have hjk : j < L[k].length := by omega
              obtain ⟨o_w, i_w, c_w, cs_w, own_w, ex_w, es_w, q_w, b_w, g_w, l_w, r_w⟩ := (R_x k hkL).open ((by omega))
              have z_w : ∀ h2 : i_w < cs_w.length, cs_w[i_w] = _ := fun h2 => r_w 0 ((by omega)) h2
              have ed1 := el_eq hlt hlt3
              have ed2 := el_eq hkL hjk
              by_cases hq : L[k][j] = L[j][k]
              · have hqb : (L[k][j] != L[j][k]) = false := by simp [hq]
                repeat (first
                  | (refine WD_block (fun K hK => ?_))
                  | (refine WD_seq (fun K hK => ?_))
                  | (refine WD_region (fun K hK => ?_))
                  | ((first | refine RunD_o rfl rfl rfl rfl rfl (fun X hX => ?_) | refine RunD_s rfl rfl rfl rfl (fun X hX => ?_) | (refine RunD_oT rfl rfl rfl rfl rfl rfl rfl ?hb (fun X hX => ?_); (case hb => simp (disch := first | omega | (simp; done) | fail) [wrap64c, if_pos, if_neg, g_h0, lL, lA, c2b, q_x, g_x, l_x, r_x, z_x, q_y, g_y, l_y, r_y, z_y, e1, e3, e4, e31, e32, e33, hlt, hlt2, e63, e64, e65, lu, q_u, g_u, l_u, r_u, z_u, e7, e70, e71, e72, hlt3, hkL, hjk, q_w, g_w, l_w, r_w, z_w, hqb] <;> omega))); (try dsimp only); simp (disch := first | omega | (simp; done) | fail) [wrap64c, if_pos, if_neg, g_h0, lL, lA, c2b, q_x, g_x, l_x, r_x, z_x, q_y, g_y, l_y, r_y, z_y, e1, e3, e4, e31, e32, e33, hlt, hlt2, e63, e64, e65, lu, q_u, g_u, l_u, r_u, z_u, e7, e70, e71, e72, hlt3, hkL, hjk, q_w, g_w, l_w, r_w, z_w, hqb]; refine hX _ _ ?_; clear hX X)
                  | (refine RunD_oF rfl rfl rfl rfl rfl ?hb ?_; (case hb => simp (disch := first | omega | (simp; done) | fail) [wrap64c, if_pos, if_neg, g_h0, lL, lA, c2b, q_x, g_x, l_x, r_x, z_x, q_y, g_y, l_y, r_y, z_y, e1, e3, e4, e31, e32, e33, hlt, hlt2, e63, e64, e65, lu, q_u, g_u, l_u, r_u, z_u, e7, e70, e71, e72, hlt3, hkL, hjk, q_w, g_w, l_w, r_w, z_w, hqb] <;> omega))
                  | ((first | refine RunD_oU (c := #[]) rfl rfl rfl rfl rfl ?hb ?_); (case hb => simp (disch := first | omega | (simp; done) | fail) [wrap64c, if_pos, if_neg, g_h0, lL, lA, c2b, q_x, g_x, l_x, r_x, z_x, q_y, g_y, l_y, r_y, z_y, e1, e3, e4, e31, e32, e33, hlt, hlt2, e63, e64, e65, lu, q_u, g_u, l_u, r_u, z_u, e7, e70, e71, e72, hlt3, hkL, hjk, q_w, g_w, l_w, r_w, z_w, hqb]; rfl))
                  | (refine RunD_nil ?_; refine hK _ _ ?_; clear hK K)
                  | (refine RunD_nil ?_)
                  | (refine WD_skip ?_)
                  | (refine WD_exit ?_)
                  | (refine WD_ret ?_)
                  | (refine WD_true rfl ?hb ?_; (case hb => simp (disch := first | omega | (simp; done) | fail) [wrap64c, if_pos, if_neg, g_h0, lL, lA, c2b, q_x, g_x, l_x, r_x, z_x, q_y, g_y, l_y, r_y, z_y, e1, e3, e4, e31, e32, e33, hlt, hlt2, e63, e64, e65, lu, q_u, g_u, l_u, r_u, z_u, e7, e70, e71, e72, hlt3, hkL, hjk, q_w, g_w, l_w, r_w, z_w, hqb] <;> omega))
                  | (refine WD_false rfl ?hb ?_; (case hb => simp (disch := first | omega | (simp; done) | fail) [wrap64c, if_pos, if_neg, g_h0, lL, lA, c2b, q_x, g_x, l_x, r_x, z_x, q_y, g_y, l_y, r_y, z_y, e1, e3, e4, e31, e32, e33, hlt, hlt2, e63, e64, e65, lu, q_u, g_u, l_u, r_u, z_u, e7, e70, e71, e72, hlt3, hkL, hjk, q_w, g_w, l_w, r_w, z_w, hqb] <;> omega))
                  | (refine hK.1 _ _ ?_; clear hK K)
                  | (refine hK.2.1 _ _ ?_; clear hK K)
                  | (refine hK.2 _ _ _ ?hne ?_; (case hne => simp; done); clear hK K)
                  | (refine hK.2.2 _ _ _ ?hne ?_; (case hne => simp; done); clear hK K))
                refine hK.1 _ _ _ ?hm ?hf ⟨k + 1, rfl, rfl, (by first | (simp (disch := first | omega | (simp; done) | fail) [wrap64c, if_pos, if_neg, g_h0, lL, lA, c2b, q_x, g_x, l_x, r_x, z_x, q_y, g_y, l_y, r_y, z_y, e1, e3, e4, e31, e32, e33, hlt, hlt2, e63, e64, e65, lu, q_u, g_u, l_u, r_u, z_u, e7, e70, e71, e72, hlt3, hkL, hjk, q_w, g_w, l_w, r_w, z_w, hqb]; done) | (simp (disch := first | omega | (simp; done) | fail) [wrap64c, if_pos, if_neg, g_h0, lL, lA, c2b, q_x, g_x, l_x, r_x, z_x, q_y, g_y, l_y, r_y, z_y, e1, e3, e4, e31, e32, e33, hlt, hlt2, e63, e64, e65, lu, q_u, g_u, l_u, r_u, z_u, e7, e70, e71, e72, hlt3, hkL, hjk, q_w, g_w, l_w, r_w, z_w, hqb] <;> omega)), (by first | omega | (simp (disch := first | omega | (simp; done) | fail) [wrap64c, if_pos, if_neg, g_h0, lL, lA, c2b, q_x, g_x, l_x, r_x, z_x, q_y, g_y, l_y, r_y, z_y, e1, e3, e4, e31, e32, e33, hlt, hlt2, e63, e64, e65, lu, q_u, g_u, l_u, r_u, z_u, e7, e70, e71, e72, hlt3, hkL, hjk, q_w, g_w, l_w, r_w, z_w, hqb]; done) | (simp (disch := first | omega | (simp; done) | fail) [wrap64c, if_pos, if_neg, g_h0, lL, lA, c2b, q_x, g_x, l_x, r_x, z_x, q_y, g_y, l_y, r_y, z_y, e1, e3, e4, e31, e32, e33, hlt, hlt2, e63, e64, e65, lu, q_u, g_u, l_u, r_u, z_u, e7, e70, e71, e72, hlt3, hkL, hjk, q_w, g_w, l_w, r_w, z_w, hqb] <;> omega) | assumption), ?c_hz⟩
                (case hm => first | omega | (simp; omega))
                (case hf => simp [FrameL, g_h0, lL, lA, c2b, q_x, g_x, l_x, r_x, z_x, q_y, g_y, l_y, r_y, z_y, e1, e3, e4, e31, e32, e33, hlt, hlt2, e63, e64, e65, lu, q_u, g_u, l_u, r_u, z_u, e7, e70, e71, e72, hlt3, hkL, hjk, q_w, g_w, l_w, r_w, z_w, hqb, f1_2, f4_2, f7_2, f63_2, f64_2, f65_2, f70_2, f71_2])
                case c_hz =>
                  exact (fun i hi => by
                    rcases Nat.lt_succ_iff_lt_or_eq.1 hi with q | q
                    · exact hz i q
                    · subst q; rw [ed1, ed2, hq])
              · have hqb : (L[k][j] != L[j][k]) = true := by simp [hq]
                repeat (first
                  | (refine WD_block (fun K hK => ?_))
                  | (refine WD_seq (fun K hK => ?_))
                  | (refine WD_region (fun K hK => ?_))
                  | ((first | refine RunD_o rfl rfl rfl rfl rfl (fun X hX => ?_) | refine RunD_s rfl rfl rfl rfl (fun X hX => ?_) | (refine RunD_oT rfl rfl rfl rfl rfl rfl rfl ?hb (fun X hX => ?_); (case hb => simp (disch := first | omega | (simp; done) | fail) [wrap64c, if_pos, if_neg, g_h0, lL, lA, c2b, q_x, g_x, l_x, r_x, z_x, q_y, g_y, l_y, r_y, z_y, e1, e3, e4, e31, e32, e33, hlt, hlt2, e63, e64, e65, lu, q_u, g_u, l_u, r_u, z_u, e7, e70, e71, e72, hlt3, hkL, hjk, q_w, g_w, l_w, r_w, z_w, hqb] <;> omega))); (try dsimp only); simp (disch := first | omega | (simp; done) | fail) [wrap64c, if_pos, if_neg, g_h0, lL, lA, c2b, q_x, g_x, l_x, r_x, z_x, q_y, g_y, l_y, r_y, z_y, e1, e3, e4, e31, e32, e33, hlt, hlt2, e63, e64, e65, lu, q_u, g_u, l_u, r_u, z_u, e7, e70, e71, e72, hlt3, hkL, hjk, q_w, g_w, l_w, r_w, z_w, hqb]; refine hX _ _ ?_; clear hX X)
                  | (refine RunD_oF rfl rfl rfl rfl rfl ?hb ?_; (case hb => simp (disch := first | omega | (simp; done) | fail) [wrap64c, if_pos, if_neg, g_h0, lL, lA, c2b, q_x, g_x, l_x, r_x, z_x, q_y, g_y, l_y, r_y, z_y, e1, e3, e4, e31, e32, e33, hlt, hlt2, e63, e64, e65, lu, q_u, g_u, l_u, r_u, z_u, e7, e70, e71, e72, hlt3, hkL, hjk, q_w, g_w, l_w, r_w, z_w, hqb] <;> omega))
                  | ((first | refine RunD_oU (c := #[]) rfl rfl rfl rfl rfl ?hb ?_); (case hb => simp (disch := first | omega | (simp; done) | fail) [wrap64c, if_pos, if_neg, g_h0, lL, lA, c2b, q_x, g_x, l_x, r_x, z_x, q_y, g_y, l_y, r_y, z_y, e1, e3, e4, e31, e32, e33, hlt, hlt2, e63, e64, e65, lu, q_u, g_u, l_u, r_u, z_u, e7, e70, e71, e72, hlt3, hkL, hjk, q_w, g_w, l_w, r_w, z_w, hqb]; rfl))
                  | (refine RunD_nil ?_; refine hK _ _ ?_; clear hK K)
                  | (refine RunD_nil ?_)
                  | (refine WD_skip ?_)
                  | (refine WD_exit ?_)
                  | (refine WD_ret ?_)
                  | (refine WD_true rfl ?hb ?_; (case hb => simp (disch := first | omega | (simp; done) | fail) [wrap64c, if_pos, if_neg, g_h0, lL, lA, c2b, q_x, g_x, l_x, r_x, z_x, q_y, g_y, l_y, r_y, z_y, e1, e3, e4, e31, e32, e33, hlt, hlt2, e63, e64, e65, lu, q_u, g_u, l_u, r_u, z_u, e7, e70, e71, e72, hlt3, hkL, hjk, q_w, g_w, l_w, r_w, z_w, hqb] <;> omega))
                  | (refine WD_false rfl ?hb ?_; (case hb => simp (disch := first | omega | (simp; done) | fail) [wrap64c, if_pos, if_neg, g_h0, lL, lA, c2b, q_x, g_x, l_x, r_x, z_x, q_y, g_y, l_y, r_y, z_y, e1, e3, e4, e31, e32, e33, hlt, hlt2, e63, e64, e65, lu, q_u, g_u, l_u, r_u, z_u, e7, e70, e71, e72, hlt3, hkL, hjk, q_w, g_w, l_w, r_w, z_w, hqb] <;> omega))
                  | (refine hK.1 _ _ ?_; clear hK K)
                  | (refine hK.2.1 _ _ ?_; clear hK K)
                  | (refine hK.2 _ _ _ ?hne ?_; (case hne => simp; done); clear hK K)
                  | (refine hK.2.2 _ _ _ ?hne ?_; (case hne => simp; done); clear hK K))
                exact done_ret rfl (by rw [goodB_false fun q => hq (by rw [← ed1, ← ed2]; exact q.2.2.2.2.1 k (by omega) j (by omega))]; simp [k0])
            · repeat (first
                | (refine WD_block (fun K hK => ?_))
                | (refine WD_seq (fun K hK => ?_))
                | (refine WD_region (fun K hK => ?_))
                | ((first | refine RunD_o rfl rfl rfl rfl rfl (fun X hX => ?_) | refine RunD_s rfl rfl rfl rfl (fun X hX => ?_) | (refine RunD_oT rfl rfl rfl rfl rfl rfl rfl ?hb (fun X hX => ?_); (case hb => simp (disch := first | omega | (simp; done) | fail) [wrap64c, if_pos, if_neg, g_h0, lL, lA, c2b, q_x, g_x, l_x, r_x, z_x, q_y, g_y, l_y, r_y, z_y, e1, e3, e4, e31, e32, e33, hlt, hlt2, e63, e64, e65, lu, q_u, g_u, l_u, r_u, z_u, e7, e70, e71, e72, hlt3] <;> omega))); (try dsimp only); simp (disch := first | omega | (simp; done) | fail) [wrap64c, if_pos, if_neg, g_h0, lL, lA, c2b, q_x, g_x, l_x, r_x, z_x, q_y, g_y, l_y, r_y, z_y, e1, e3, e4, e31, e32, e33, hlt, hlt2, e63, e64, e65, lu, q_u, g_u, l_u, r_u, z_u, e7, e70, e71, e72, hlt3]; refine hX _ _ ?_; clear hX X)
                | (refine RunD_oF rfl rfl rfl rfl rfl ?hb ?_; (case hb => simp (disch := first | omega | (simp; done) | fail) [wrap64c, if_pos, if_neg, g_h0, lL, lA, c2b, q_x, g_x, l_x, r_x, z_x, q_y, g_y, l_y, r_y, z_y, e1, e3, e4, e31, e32, e33, hlt, hlt2, e63, e64, e65, lu, q_u, g_u, l_u, r_u, z_u, e7, e70, e71, e72, hlt3] <;> omega))
                | ((first | refine RunD_oU (c := #[]) rfl rfl rfl rfl rfl ?hb ?_); (case hb => simp (disch := first | omega | (simp; done) | fail) [wrap64c, if_pos, if_neg, g_h0, lL, lA, c2b, q_x, g_x, l_x, r_x, z_x, q_y, g_y, l_y, r_y, z_y, e1, e3, e4, e31, e32, e33, hlt, hlt2, e63, e64, e65, lu, q_u, g_u, l_u, r_u, z_u, e7, e70, e71, e72, hlt3]; rfl))
                | (refine RunD_nil ?_; refine hK _ _ ?_; clear hK K)
                | (refine RunD_nil ?_)
                | (refine WD_skip ?_)
                | (refine WD_exit ?_)
                | (refine WD_ret ?_)
                | (refine WD_true rfl ?hb ?_; (case hb => simp (disch := first | omega | (simp; done) | fail) [wrap64c, if_pos, if_neg, g_h0, lL, lA, c2b, q_x, g_x, l_x, r_x, z_x, q_y, g_y, l_y, r_y, z_y, e1, e3, e4, e31, e32, e33, hlt, hlt2, e63, e64, e65, lu, q_u, g_u, l_u, r_u, z_u, e7, e70, e71, e72, hlt3] <;> omega))
                | (refine WD_false rfl ?hb ?_; (case hb => simp (disch := first | omega | (simp; done) | fail) [wrap64c, if_pos, if_neg, g_h0, lL, lA, c2b, q_x, g_x, l_x, r_x, z_x, q_y, g_y, l_y, r_y, z_y, e1, e3, e4, e31, e32, e33, hlt, hlt2, e63, e64, e65, lu, q_u, g_u, l_u, r_u, z_u, e7, e70, e71, e72, hlt3] <;> omega))
                | (refine hK.1 _ _ ?_; clear hK K)
                | (refine hK.2.1 _ _ ?_; clear hK K)
                | (refine hK.2 _ _ _ ?hne ?_; (case hne => simp; done); clear hK K)
                | (refine hK.2.2 _ _ _ ?hne ?_; (case hne => simp; done); clear hK K))
              refine hK.1 _ _ _ ?hm ?hf ⟨j + 1, rfl, rfl, (by first | (simp (disch := first | omega | (simp; done) | fail) [wrap64c, if_pos, if_neg, g_h0, lL, lA, c2b, q_x, g_x, l_x, r_x, z_x, q_y, g_y, l_y, r_y, z_y, e1, e3, e4, e31, e32, e33, hlt, hlt2, e63, e64, e65, lu, q_u, g_u, l_u, r_u, z_u, e7, e70, e71, e72, hlt3]; done) | (simp (disch := first | omega | (simp; done) | fail) [wrap64c, if_pos, if_neg, g_h0, lL, lA, c2b, q_x, g_x, l_x, r_x, z_x, q_y, g_y, l_y, r_y, z_y, e1, e3, e4, e31, e32, e33, hlt, hlt2, e63, e64, e65, lu, q_u, g_u, l_u, r_u, z_u, e7, e70, e71, e72, hlt3] <;> omega)), (by first | omega | (simp (disch := first | omega | (simp; done) | fail) [wrap64c, if_pos, if_neg, g_h0, lL, lA, c2b, q_x, g_x, l_x, r_x, z_x, q_y, g_y, l_y, r_y, z_y, e1, e3, e4, e31, e32, e33, hlt, hlt2, e63, e64, e65, lu, q_u, g_u, l_u, r_u, z_u, e7, e70, e71, e72, hlt3]; done) | (simp (disch := first | omega | (simp; done) | fail) [wrap64c, if_pos, if_neg, g_h0, lL, lA, c2b, q_x, g_x, l_x, r_x, z_x, q_y, g_y, l_y, r_y, z_y, e1, e3, e4, e31, e32, e33, hlt, hlt2, e63, e64, e65, lu, q_u, g_u, l_u, r_u, z_u, e7, e70, e71, e72, hlt3] <;> omega) | assumption), ?c_hy⟩
              (case hm => first | omega | (simp; omega))
              (case hf => simp [FrameL, g_h0, lL, lA, c2b, q_x, g_x, l_x, r_x, z_x, q_y, g_y, l_y, r_y, z_y, e1, e3, e4, e31, e32, e33, hlt, hlt2, e63, e64, e65, lu, q_u, g_u, l_u, r_u, z_u, e7, e70, e71, e72, hlt3, f1_1, f4_1, f63_1, f64_1])
              case c_hy =>
                exact (fun i hi k' hk' => by
                  rcases Nat.lt_succ_iff_lt_or_eq.1 hi with q | q
                  · exact hy i q k' hk'
                  · subst q; exact hz k' (by omega))
          · repeat (first
              | (refine WD_block (fun K hK => ?_))
              | (refine WD_seq (fun K hK => ?_))
              | (refine WD_region (fun K hK => ?_))
              | ((first | refine RunD_o rfl rfl rfl rfl rfl (fun X hX => ?_) | refine RunD_s rfl rfl rfl rfl (fun X hX => ?_) | (refine RunD_oT rfl rfl rfl rfl rfl rfl rfl ?hb (fun X hX => ?_); (case hb => simp (disch := first | omega | (simp; done) | fail) [wrap64c, if_pos, if_neg, g_h0, lL, lA, c2b, q_x, g_x, l_x, r_x, z_x, q_y, g_y, l_y, r_y, z_y, e1, e3, e4, e31, e32, e33, hlt, hlt2, e63, e64, e65] <;> omega))); (try dsimp only); simp (disch := first | omega | (simp; done) | fail) [wrap64c, if_pos, if_neg, g_h0, lL, lA, c2b, q_x, g_x, l_x, r_x, z_x, q_y, g_y, l_y, r_y, z_y, e1, e3, e4, e31, e32, e33, hlt, hlt2, e63, e64, e65]; refine hX _ _ ?_; clear hX X)
              | (refine RunD_oF rfl rfl rfl rfl rfl ?hb ?_; (case hb => simp (disch := first | omega | (simp; done) | fail) [wrap64c, if_pos, if_neg, g_h0, lL, lA, c2b, q_x, g_x, l_x, r_x, z_x, q_y, g_y, l_y, r_y, z_y, e1, e3, e4, e31, e32, e33, hlt, hlt2, e63, e64, e65] <;> omega))
              | ((first | refine RunD_oU (c := #[]) rfl rfl rfl rfl rfl ?hb ?_); (case hb => simp (disch := first | omega | (simp; done) | fail) [wrap64c, if_pos, if_neg, g_h0, lL, lA, c2b, q_x, g_x, l_x, r_x, z_x, q_y, g_y, l_y, r_y, z_y, e1, e3, e4, e31, e32, e33, hlt, hlt2, e63, e64, e65]; rfl))
              | (refine RunD_nil ?_; refine hK _ _ ?_; clear hK K)
              | (refine RunD_nil ?_)
              | (refine WD_skip ?_)
              | (refine WD_exit ?_)
              | (refine WD_ret ?_)
              | (refine WD_true rfl ?hb ?_; (case hb => simp (disch := first | omega | (simp; done) | fail) [wrap64c, if_pos, if_neg, g_h0, lL, lA, c2b, q_x, g_x, l_x, r_x, z_x, q_y, g_y, l_y, r_y, z_y, e1, e3, e4, e31, e32, e33, hlt, hlt2, e63, e64, e65] <;> omega))
              | (refine WD_false rfl ?hb ?_; (case hb => simp (disch := first | omega | (simp; done) | fail) [wrap64c, if_pos, if_neg, g_h0, lL, lA, c2b, q_x, g_x, l_x, r_x, z_x, q_y, g_y, l_y, r_y, z_y, e1, e3, e4, e31, e32, e33, hlt, hlt2, e63, e64, e65] <;> omega))
              | (refine hK.1 _ _ ?_; clear hK K)
              | (refine hK.2.1 _ _ ?_; clear hK K)
              | (refine hK.2 _ _ _ ?hne ?_; (case hne => simp; done); clear hK K)
              | (refine hK.2.2 _ _ _ ?hne ?_; (case hne => simp; done); clear hK K))
            have hgood : goodB L A = decide (A.sum ≤ 30) := by
              by_cases hs : A.sum ≤ 30
              · rw [goodB_true ⟨by omega, c2, c3, fun r hr => ?_, fun i hi k hk => hy i (by omega) k hk, fun i hi => (hx i (by omega) hi).2.2, hs⟩, decide_eq_true hs]
                obtain ⟨i, hi, rfl⟩ := List.getElem_of_mem hr
                exact ⟨(hx i hi (by omega)).1, (hx i hi (by omega)).2.1⟩
              · rw [goodB_false fun q => hs q.2.2.2.2.2.2, decide_eq_false hs]
            exact done_ret rfl (by rw [hgood]; simp [k0])
      · have hc := l1All_ok h0 _ A 0 30 hA
        rw [decide_eq_false c3] at hc
        refine RunD_cT rfl rfl rfl rfl rfl rfl ?hb (by simp) (by simp) ?ha (hc) ?_
        (case hb => simp (disch := first | omega | (simp; done) | fail) [wrap64c, if_pos, if_neg, g_h0, lL, lA, c2b])
        (case ha => simp (disch := first | omega | (simp; done) | fail) [wrap64c, if_pos, if_neg, g_h0, lL, lA, c2b])
        repeat (first
          | (refine WD_block (fun K hK => ?_))
          | (refine WD_seq (fun K hK => ?_))
          | (refine WD_region (fun K hK => ?_))
          | ((first | refine RunD_o rfl rfl rfl rfl rfl (fun X hX => ?_) | refine RunD_s rfl rfl rfl rfl (fun X hX => ?_) | (refine RunD_oT rfl rfl rfl rfl rfl rfl rfl ?hb (fun X hX => ?_); (case hb => simp (disch := first | omega | (simp; done) | fail) [wrap64c, if_pos, if_neg, g_h0, lL, lA, c2b] <;> omega))); (try dsimp only); simp (disch := first | omega | (simp; done) | fail) [wrap64c, if_pos, if_neg, g_h0, lL, lA, c2b]; refine hX _ _ ?_; clear hX X)
          | (refine RunD_oF rfl rfl rfl rfl rfl ?hb ?_; (case hb => simp (disch := first | omega | (simp; done) | fail) [wrap64c, if_pos, if_neg, g_h0, lL, lA, c2b] <;> omega))
          | ((first | refine RunD_oU (c := #[]) rfl rfl rfl rfl rfl ?hb ?_); (case hb => simp (disch := first | omega | (simp; done) | fail) [wrap64c, if_pos, if_neg, g_h0, lL, lA, c2b]; rfl))
          | (refine RunD_nil ?_; refine hK _ _ ?_; clear hK K)
          | (refine RunD_nil ?_)
          | (refine WD_skip ?_)
          | (refine WD_exit ?_)
          | (refine WD_ret ?_)
          | (refine WD_true rfl ?hb ?_; (case hb => simp (disch := first | omega | (simp; done) | fail) [wrap64c, if_pos, if_neg, g_h0, lL, lA, c2b] <;> omega))
          | (refine WD_false rfl ?hb ?_; (case hb => simp (disch := first | omega | (simp; done) | fail) [wrap64c, if_pos, if_neg, g_h0, lL, lA, c2b] <;> omega))
          | (refine hK.1 _ _ ?_; clear hK K)
          | (refine hK.2.1 _ _ ?_; clear hK K)
          | (refine hK.2 _ _ _ ?hne ?_; (case hne => simp; done); clear hK K)
          | (refine hK.2.2 _ _ _ ?hne ?_; (case hne => simp; done); clear hK K))
        exact done_ret rfl (by rw [goodB_false fun q => c3 q.2.2.1]; simp [k0])
    · have c2b : ((L.length : Int) != (A.length : Int)) = true := by simp [c2]
      repeat (first
        | (refine WD_block (fun K hK => ?_))
        | (refine WD_seq (fun K hK => ?_))
        | (refine WD_region (fun K hK => ?_))
        | ((first | refine RunD_o rfl rfl rfl rfl rfl (fun X hX => ?_) | refine RunD_s rfl rfl rfl rfl (fun X hX => ?_) | (refine RunD_oT rfl rfl rfl rfl rfl rfl rfl ?hb (fun X hX => ?_); (case hb => simp (disch := first | omega | (simp; done) | fail) [wrap64c, if_pos, if_neg, g_h0, lL, lA, c2b] <;> omega))); (try dsimp only); simp (disch := first | omega | (simp; done) | fail) [wrap64c, if_pos, if_neg, g_h0, lL, lA, c2b]; refine hX _ _ ?_; clear hX X)
        | (refine RunD_oF rfl rfl rfl rfl rfl ?hb ?_; (case hb => simp (disch := first | omega | (simp; done) | fail) [wrap64c, if_pos, if_neg, g_h0, lL, lA, c2b] <;> omega))
        | ((first | refine RunD_oU (c := #[]) rfl rfl rfl rfl rfl ?hb ?_); (case hb => simp (disch := first | omega | (simp; done) | fail) [wrap64c, if_pos, if_neg, g_h0, lL, lA, c2b]; rfl))
        | (refine RunD_nil ?_; refine hK _ _ ?_; clear hK K)
        | (refine RunD_nil ?_)
        | (refine WD_skip ?_)
        | (refine WD_exit ?_)
        | (refine WD_ret ?_)
        | (refine WD_true rfl ?hb ?_; (case hb => simp (disch := first | omega | (simp; done) | fail) [wrap64c, if_pos, if_neg, g_h0, lL, lA, c2b] <;> omega))
        | (refine WD_false rfl ?hb ?_; (case hb => simp (disch := first | omega | (simp; done) | fail) [wrap64c, if_pos, if_neg, g_h0, lL, lA, c2b] <;> omega))
        | (refine hK.1 _ _ ?_; clear hK K)
        | (refine hK.2.1 _ _ ?_; clear hK K)
        | (refine hK.2 _ _ _ ?hne ?_; (case hne => simp; done); clear hK K)
        | (refine hK.2.2 _ _ _ ?hne ?_; (case hne => simp; done); clear hK K))
      exact done_ret rfl (by rw [goodB_false fun q => c2 q.2.1]; simp [k0])
  · have hc := l1In_ok h0 A.length 1 5
    rw [decide_eq_false c1] at hc
    refine RunD_c rfl rfl rfl rfl (by simp) (by simp) ?ha (hc) ?_
    (case ha => simp (disch := first | omega | (simp; done) | fail) [wrap64c, if_pos, if_neg, g_h0, lL, lA])
    repeat (first
      | (refine WD_block (fun K hK => ?_))
      | (refine WD_seq (fun K hK => ?_))
      | (refine WD_region (fun K hK => ?_))
      | ((first | refine RunD_o rfl rfl rfl rfl rfl (fun X hX => ?_) | refine RunD_s rfl rfl rfl rfl (fun X hX => ?_) | (refine RunD_oT rfl rfl rfl rfl rfl rfl rfl ?hb (fun X hX => ?_); (case hb => simp (disch := first | omega | (simp; done) | fail) [wrap64c, if_pos, if_neg, g_h0, lL, lA] <;> omega))); (try dsimp only); simp (disch := first | omega | (simp; done) | fail) [wrap64c, if_pos, if_neg, g_h0, lL, lA]; refine hX _ _ ?_; clear hX X)
      | (refine RunD_oF rfl rfl rfl rfl rfl ?hb ?_; (case hb => simp (disch := first | omega | (simp; done) | fail) [wrap64c, if_pos, if_neg, g_h0, lL, lA] <;> omega))
      | ((first | refine RunD_oU (c := #[]) rfl rfl rfl rfl rfl ?hb ?_); (case hb => simp (disch := first | omega | (simp; done) | fail) [wrap64c, if_pos, if_neg, g_h0, lL, lA]; rfl))
      | (refine RunD_nil ?_; refine hK _ _ ?_; clear hK K)
      | (refine RunD_nil ?_)
      | (refine WD_skip ?_)
      | (refine WD_exit ?_)
      | (refine WD_ret ?_)
      | (refine WD_true rfl ?hb ?_; (case hb => simp (disch := first | omega | (simp; done) | fail) [wrap64c, if_pos, if_neg, g_h0, lL, lA] <;> omega))
      | (refine WD_false rfl ?hb ?_; (case hb => simp (disch := first | omega | (simp; done) | fail) [wrap64c, if_pos, if_neg, g_h0, lL, lA] <;> omega))
      | (refine hK.1 _ _ ?_; clear hK K)
      | (refine hK.2.1 _ _ ?_; clear hK K)
      | (refine hK.2 _ _ _ ?hne ?_; (case hne => simp; done); clear hK K)
      | (refine hK.2.2 _ _ _ ?hne ?_; (case hne => simp; done); clear hK K))
    exact done_ret rfl (by rw [goodB_false fun q => c1 (by have := q.1; omega)]; simp [k0])

theorem within_ok (h : Hp) (a b c : Int) : CallOK Try.prog 52 #[.int .i64 a, .int .i64 b, .int .i64 c] h (.bool (decide (b ≤ a ∧ a ≤ c))) h := by
  refine call_P 15 _ [.tmp 6] Try.func52 rfl rfl rfl (by first | rfl | simp) ?_
  by_cases hc : b ≤ a
  · repeat (first
      | (refine WD_block (fun K hK => ?_))
      | (refine WD_seq (fun K hK => ?_))
      | (refine WD_region (fun K hK => ?_))
      | ((first | refine RunD_o rfl rfl rfl rfl rfl (fun X hX => ?_) | refine RunD_s rfl rfl rfl rfl (fun X hX => ?_) | (refine RunD_oT rfl rfl rfl rfl rfl rfl rfl ?hb (fun X hX => ?_); (case hb => simp (disch := first | omega | (simp; done) | fail) [wrap64c, if_pos, if_neg, hc] <;> omega))); (try dsimp only); simp (disch := first | omega | (simp; done) | fail) [wrap64c, if_pos, if_neg, hc]; refine hX _ _ ?_; clear hX X)
      | (refine RunD_oF rfl rfl rfl rfl rfl ?hb ?_; (case hb => simp (disch := first | omega | (simp; done) | fail) [wrap64c, if_pos, if_neg, hc] <;> omega))
      | ((first | refine RunD_oU (c := #[]) rfl rfl rfl rfl rfl ?hb ?_); (case hb => simp (disch := first | omega | (simp; done) | fail) [wrap64c, if_pos, if_neg, hc]; rfl))
      | (refine RunD_nil ?_; refine hK _ _ ?_; clear hK K)
      | (refine RunD_nil ?_)
      | (refine WD_skip ?_)
      | (refine WD_exit ?_)
      | (refine WD_ret ?_)
      | (refine WD_true rfl ?hb ?_; (case hb => simp (disch := first | omega | (simp; done) | fail) [wrap64c, if_pos, if_neg, hc] <;> omega))
      | (refine WD_false rfl ?hb ?_; (case hb => simp (disch := first | omega | (simp; done) | fail) [wrap64c, if_pos, if_neg, hc] <;> omega))
      | (refine hK.1 _ _ ?_; clear hK K)
      | (refine hK.2.1 _ _ ?_; clear hK K)
      | (refine hK.2 _ _ _ ?hne ?_; (case hne => simp; done); clear hK K)
      | (refine hK.2.2 _ _ _ ?hne ?_; (case hne => simp; done); clear hK K))
    exact done_ret rfl (by simp [hc])
  · repeat (first
      | (refine WD_block (fun K hK => ?_))
      | (refine WD_seq (fun K hK => ?_))
      | (refine WD_region (fun K hK => ?_))
      | ((first | refine RunD_o rfl rfl rfl rfl rfl (fun X hX => ?_) | refine RunD_s rfl rfl rfl rfl (fun X hX => ?_) | (refine RunD_oT rfl rfl rfl rfl rfl rfl rfl ?hb (fun X hX => ?_); (case hb => simp (disch := first | omega | (simp; done) | fail) [wrap64c, if_pos, if_neg, hc] <;> omega))); (try dsimp only); simp (disch := first | omega | (simp; done) | fail) [wrap64c, if_pos, if_neg, hc]; refine hX _ _ ?_; clear hX X)
      | (refine RunD_oF rfl rfl rfl rfl rfl ?hb ?_; (case hb => simp (disch := first | omega | (simp; done) | fail) [wrap64c, if_pos, if_neg, hc] <;> omega))
      | ((first | refine RunD_oU (c := #[]) rfl rfl rfl rfl rfl ?hb ?_); (case hb => simp (disch := first | omega | (simp; done) | fail) [wrap64c, if_pos, if_neg, hc]; rfl))
      | (refine RunD_nil ?_; refine hK _ _ ?_; clear hK K)
      | (refine RunD_nil ?_)
      | (refine WD_skip ?_)
      | (refine WD_exit ?_)
      | (refine WD_ret ?_)
      | (refine WD_true rfl ?hb ?_; (case hb => simp (disch := first | omega | (simp; done) | fail) [wrap64c, if_pos, if_neg, hc] <;> omega))
      | (refine WD_false rfl ?hb ?_; (case hb => simp (disch := first | omega | (simp; done) | fail) [wrap64c, if_pos, if_neg, hc] <;> omega))
      | (refine hK.1 _ _ ?_; clear hK K)
      | (refine hK.2.1 _ _ ?_; clear hK K)
      | (refine hK.2 _ _ _ ?hne ?_; (case hne => simp; done); clear hK K)
      | (refine hK.2.2 _ _ _ ?hne ?_; (case hne => simp; done); clear hK K))
    exact done_ret rfl (by simp [hc])

set_option maxHeartbeats 4000000 in
theorem imAreChips_ok (h : Hp) (v : Value) (L : List (List Int)) (A : List Int) (hv : Chips h v L A) : CallOK Try.prog 18 #[v] h (.bool (goodB L A)) h := by
  refine call_P 96 _ [.tmp 2] Try.func18 rfl rfl rfl (by first | rfl | simp) ?_
  obtain ⟨a, b, rfl, hL, hA⟩ := hv
  repeat (first
    | (refine WD_block (fun K hK => ?_))
    | (refine WD_seq (fun K hK => ?_)))
  refine WD_region (fun K hK => ?_)
  repeat (first
    | ((first | refine RunD_o rfl rfl rfl rfl rfl (fun X hX => ?_) | refine RunD_s rfl rfl rfl rfl (fun X hX => ?_) | (refine RunD_oT rfl rfl rfl rfl rfl rfl rfl ?hb (fun X hX => ?_); (case hb => simp (disch := first | omega | (simp; done) | fail) [wrap64c, if_pos, if_neg] <;> omega))); (try dsimp only); simp (disch := first | omega | (simp; done) | fail) [wrap64c, if_pos, if_neg]; refine hX _ _ ?_; clear hX X)
    | (refine RunD_oF rfl rfl rfl rfl rfl ?hb ?_; (case hb => simp (disch := first | omega | (simp; done) | fail) [wrap64c, if_pos, if_neg] <;> omega))
    | ((first | refine RunD_oU (c := #[]) rfl rfl rfl rfl rfl ?hb ?_); (case hb => simp (disch := first | omega | (simp; done) | fail) [wrap64c, if_pos, if_neg]; rfl)))
  refine RunD_heap fun h0 q_h0 => ?_
  have g_h0 : h0.get h.next = .cells [a, b] true true 1 := by simp [q_h0]
  have k_h0 : Adds h h0 := by rw [q_h0]; exact (by repeat (first | exact keep_self _ | exact adds_self _ | assumption | exact Adds.keeps (by assumption) | refine keeps_alloc ?_ _ | refine adds_alloc ?_ _ _ _ | (refine keeps_put ?_ ?hle _; (case hle => first | omega | (simp; done) | (simp; omega))) | (refine adds_put ?_ ?hle _ _ _; (case hle => first | omega | (simp; done) | (simp; omega)))))
  have n_h0 : h.next < h0.next := by simp [q_h0]; try omega
  have k0 := k_h0.1
  replace hL := hL.keep k0
  replace hA := hA.keep k0
  have lL := hL.lenD
  have lA := hA.lenD
  repeat (first
    | (refine WD_block (fun K hK => ?_))
    | (refine WD_seq (fun K hK => ?_))
    | (refine WD_region (fun K hK => ?_))
    | ((first | refine RunD_o rfl rfl rfl rfl rfl (fun X hX => ?_) | refine RunD_s rfl rfl rfl rfl (fun X hX => ?_) | (refine RunD_oT rfl rfl rfl rfl rfl rfl rfl ?hb (fun X hX => ?_); (case hb => simp (disch := first | omega | (simp; done) | fail) [wrap64c, if_pos, if_neg, g_h0, lL, lA] <;> omega))); (try dsimp only); simp (disch := first | omega | (simp; done) | fail) [wrap64c, if_pos, if_neg, g_h0, lL, lA]; refine hX _ _ ?_; clear hX X)
    | (refine RunD_oF rfl rfl rfl rfl rfl ?hb ?_; (case hb => simp (disch := first | omega | (simp; done) | fail) [wrap64c, if_pos, if_neg, g_h0, lL, lA] <;> omega))
    | ((first | refine RunD_oU (c := #[]) rfl rfl rfl rfl rfl ?hb ?_); (case hb => simp (disch := first | omega | (simp; done) | fail) [wrap64c, if_pos, if_neg, g_h0, lL, lA]; rfl))
    | (refine RunD_nil ?_; refine hK _ _ ?_; clear hK K)
    | (refine RunD_nil ?_)
    | (refine WD_skip ?_)
    | (refine WD_exit ?_)
    | (refine WD_ret ?_)
    | (refine WD_true rfl ?hb ?_; (case hb => simp (disch := first | omega | (simp; done) | fail) [wrap64c, if_pos, if_neg, g_h0, lL, lA] <;> omega))
    | (refine WD_false rfl ?hb ?_; (case hb => simp (disch := first | omega | (simp; done) | fail) [wrap64c, if_pos, if_neg, g_h0, lL, lA] <;> omega))
    | (refine hK.1 _ _ ?_; clear hK K)
    | (refine hK.2.1 _ _ ?_; clear hK K)
    | (refine hK.2 _ _ _ ?hne ?_; (case hne => simp; done); clear hK K)
    | (refine hK.2.2 _ _ _ ?hne ?_; (case hne => simp; done); clear hK K))
  by_cases c1 : 1 ≤ (A.length : Int) ∧ (A.length : Int) ≤ 5
  · have hc := within_ok h0 A.length 1 5
    rw [decide_eq_true c1] at hc
    refine RunD_c rfl rfl rfl rfl (by simp) (by simp) ?ha (hc) ?_
    (case ha => simp (disch := first | omega | (simp; done) | fail) [wrap64c, if_pos, if_neg, g_h0, lL, lA])
    by_cases c2 : L.length = A.length
    · have c2b : ((L.length : Int) != (A.length : Int)) = false := by simp [c2]
      obtain ⟨o_x, i_x, c_x, cs_x, own_x, ex_x, es_x, us_x, q_x, b_x, g_x, l_x, r_x, R_x⟩ := hL.open ((by omega))
      have z_x : ∀ h2 : i_x < cs_x.length, cs_x[i_x] = _ := fun h2 => r_x 0 ((by omega)) h2
      obtain ⟨o_y, i_y, c_y, cs_y, own_y, ex_y, es_y, q_y, b_y, g_y, l_y, r_y⟩ := hA.open ((by omega))
      have z_y : ∀ h2 : i_y < cs_y.length, cs_y[i_y] = _ := fun h2 => r_y 0 ((by omega)) h2
      repeat (first
        | (refine WD_block (fun K hK => ?_))
        | (refine WD_seq (fun K hK => ?_))
        | (refine WD_region (fun K hK => ?_))
        | ((first | refine RunD_o rfl rfl rfl rfl rfl (fun X hX => ?_) | refine RunD_s rfl rfl rfl rfl (fun X hX => ?_) | (refine RunD_oT rfl rfl rfl rfl rfl rfl rfl ?hb (fun X hX => ?_); (case hb => simp (disch := first | omega | (simp; done) | fail) [wrap64c, if_pos, if_neg, g_h0, lL, lA, c2b, q_x, g_x, l_x, r_x, z_x, q_y, g_y, l_y, r_y, z_y] <;> omega))); (try dsimp only); simp (disch := first | omega | (simp; done) | fail) [wrap64c, if_pos, if_neg, g_h0, lL, lA, c2b, q_x, g_x, l_x, r_x, z_x, q_y, g_y, l_y, r_y, z_y]; refine hX _ _ ?_; clear hX X)
        | (refine RunD_oF rfl rfl rfl rfl rfl ?hb ?_; (case hb => simp (disch := first | omega | (simp; done) | fail) [wrap64c, if_pos, if_neg, g_h0, lL, lA, c2b, q_x, g_x, l_x, r_x, z_x, q_y, g_y, l_y, r_y, z_y] <;> omega))
        | ((first | refine RunD_oU (c := #[]) rfl rfl rfl rfl rfl ?hb ?_); (case hb => simp (disch := first | omega | (simp; done) | fail) [wrap64c, if_pos, if_neg, g_h0, lL, lA, c2b, q_x, g_x, l_x, r_x, z_x, q_y, g_y, l_y, r_y, z_y]; rfl))
        | (refine RunD_nil ?_; refine hK _ _ ?_; clear hK K)
        | (refine RunD_nil ?_)
        | (refine WD_skip ?_)
        | (refine WD_exit ?_)
        | (refine WD_ret ?_)
        | (refine WD_true rfl ?hb ?_; (case hb => simp (disch := first | omega | (simp; done) | fail) [wrap64c, if_pos, if_neg, g_h0, lL, lA, c2b, q_x, g_x, l_x, r_x, z_x, q_y, g_y, l_y, r_y, z_y] <;> omega))
        | (refine WD_false rfl ?hb ?_; (case hb => simp (disch := first | omega | (simp; done) | fail) [wrap64c, if_pos, if_neg, g_h0, lL, lA, c2b, q_x, g_x, l_x, r_x, z_x, q_y, g_y, l_y, r_y, z_y] <;> omega))
        | (refine hK.1 _ _ ?_; clear hK K)
        | (refine hK.2.1 _ _ ?_; clear hK K)
        | (refine hK.2 _ _ _ ?hne ?_; (case hne => simp; done); clear hK K)
        | (refine hK.2.2 _ _ _ ?hne ?_; (case hne => simp; done); clear hK K))
      refine WD_loopF [1, 3, 25, 26] (fun m tm h' => ∃ j, m = A.length - j ∧ h0 = h' ∧ tm 4 = .int .i64 (A.take j).sum ∧ tm 27 = .int .i64 (j : Int) ∧ (j ≤ A.length) ∧ (∀ i (hi : i < L.length), i < j → L[i].length = A.length) ∧ (∀ i (hi : i < A.length), i < j → 0 ≤ A[i] ∧ A[i] ≤ 30) ∧ (0 ≤ (A.take j).sum ∧ (A.take j).sum ≤ 30 * (j : Int))) _ ⟨0, rfl, rfl, (by simp (disch := first | omega | (simp; done) | fail) [wrap64c, if_pos, if_neg, g_h0, lL, lA, c2b, q_x, g_x, l_x, r_x, z_x, q_y, g_y, l_y, r_y, z_y]), (by simp (disch := first | omega | (simp; done) | fail) [wrap64c, if_pos, if_neg, g_h0, lL, lA, c2b, q_x, g_x, l_x, r_x, z_x, q_y, g_y, l_y, r_y, z_y]), (by first | omega | (simp (disch := first | omega | (simp; done) | fail) [wrap64c, if_pos, if_neg, g_h0, lL, lA, c2b, q_x, g_x, l_x, r_x, z_x, q_y, g_y, l_y, r_y, z_y]; done) | (simp (disch := first | omega | (simp; done) | fail) [wrap64c, if_pos, if_neg, g_h0, lL, lA, c2b, q_x, g_x, l_x, r_x, z_x, q_y, g_y, l_y, r_y, z_y] <;> omega) | assumption), (by intro i hi h0; omega), (by intro i hi h0; omega), (by simp)⟩ ?_
      rintro m tm h' hFr ⟨j, rfl, rfl, e4, e27, hj, hx, hx2, hs⟩ K hK
      simp only [FrameL] at hFr
      obtain ⟨f1_0, f3_0, f25_0, f26_0, -⟩ := hFr
      try simp (disch := first | omega | (simp; done) | fail) [wrap64c, if_pos, if_neg, g_h0, lL, lA, c2b, q_x, g_x, l_x, r_x, z_x, q_y, g_y, l_y, r_y, z_y] at f1_0
      try simp (disch := first | omega | (simp; done) | fail) [wrap64c, if_pos, if_neg, g_h0, lL, lA, c2b, q_x, g_x, l_x, r_x, z_x, q_y, g_y, l_y, r_y, z_y] at f3_0
      try simp (disch := first | omega | (simp; done) | fail) [wrap64c, if_pos, if_neg, g_h0, lL, lA, c2b, q_x, g_x, l_x, r_x, z_x, q_y, g_y, l_y, r_y, z_y] at f25_0
      try simp (disch := first | omega | (simp; done) | fail) [wrap64c, if_pos, if_neg, g_h0, lL, lA, c2b, q_x, g_x, l_x, r_x, z_x, q_y, g_y, l_y, r_y, z_y] at f26_0
      have e1 := f1_0
      have e3 := f3_0
      have e25 := f25_0
      have e26 := f26_0
      by_cases hlt : j < A.length
      · have hlt2 : j < L.length := by omega
        have hu := R_x j hlt2
        have lu := hu.lenD
        by_cases d1 : L[j].length = A.length
        · have d1b : ((L[j].length : Int) != (A.length : Int)) = false := by simp [d1]
          repeat (first
            | (refine WD_block (fun K hK => ?_))
            | (refine WD_seq (fun K hK => ?_))
            | (refine WD_region (fun K hK => ?_))
            | ((first | refine RunD_o rfl rfl rfl rfl rfl (fun X hX => ?_) | refine RunD_s rfl rfl rfl rfl (fun X hX => ?_) | (refine RunD_oT rfl rfl rfl rfl rfl rfl rfl ?hb (fun X hX => ?_); (case hb => simp (disch := first | omega | (simp; done) | fail) [wrap64c, if_pos, if_neg, g_h0, lL, lA, c2b, q_x, g_x, l_x, r_x, z_x, q_y, g_y, l_y, r_y, z_y, e1, e3, e4, e25, e26, e27, hlt, hlt2, lu, d1b] <;> omega))); (try dsimp only); simp (disch := first | omega | (simp; done) | fail) [wrap64c, if_pos, if_neg, g_h0, lL, lA, c2b, q_x, g_x, l_x, r_x, z_x, q_y, g_y, l_y, r_y, z_y, e1, e3, e4, e25, e26, e27, hlt, hlt2, lu, d1b]; refine hX _ _ ?_; clear hX X)
            | (refine RunD_oF rfl rfl rfl rfl rfl ?hb ?_; (case hb => simp (disch := first | omega | (simp; done) | fail) [wrap64c, if_pos, if_neg, g_h0, lL, lA, c2b, q_x, g_x, l_x, r_x, z_x, q_y, g_y, l_y, r_y, z_y, e1, e3, e4, e25, e26, e27, hlt, hlt2, lu, d1b] <;> omega))
            | ((first | refine RunD_oU (c := #[]) rfl rfl rfl rfl rfl ?hb ?_); (case hb => simp (disch := first | omega | (simp; done) | fail) [wrap64c, if_pos, if_neg, g_h0, lL, lA, c2b, q_x, g_x, l_x, r_x, z_x, q_y, g_y, l_y, r_y, z_y, e1, e3, e4, e25, e26, e27, hlt, hlt2, lu, d1b]; rfl))
            | (refine RunD_nil ?_; refine hK _ _ ?_; clear hK K)
            | (refine RunD_nil ?_)
            | (refine WD_skip ?_)
            | (refine WD_exit ?_)
            | (refine WD_ret ?_)
            | (refine WD_true rfl ?hb ?_; (case hb => simp (disch := first | omega | (simp; done) | fail) [wrap64c, if_pos, if_neg, g_h0, lL, lA, c2b, q_x, g_x, l_x, r_x, z_x, q_y, g_y, l_y, r_y, z_y, e1, e3, e4, e25, e26, e27, hlt, hlt2, lu, d1b] <;> omega))
            | (refine WD_false rfl ?hb ?_; (case hb => simp (disch := first | omega | (simp; done) | fail) [wrap64c, if_pos, if_neg, g_h0, lL, lA, c2b, q_x, g_x, l_x, r_x, z_x, q_y, g_y, l_y, r_y, z_y, e1, e3, e4, e25, e26, e27, hlt, hlt2, lu, d1b] <;> omega))
            | (refine hK.1 _ _ ?_; clear hK K)
            | (refine hK.2.1 _ _ ?_; clear hK K)
            | (refine hK.2 _ _ _ ?hne ?_; (case hne => simp; done); clear hK K)
            | (refine hK.2.2 _ _ _ ?hne ?_; (case hne => simp; done); clear hK K))
          have hc := within_ok h0 A[j] 0 30
          by_cases b2 : 0 ≤ A[j] ∧ A[j] ≤ 30
          · rw [decide_eq_true b2] at hc
            refine RunD_cT rfl rfl rfl rfl rfl rfl ?hb (by simp) (by simp) ?ha (hc) ?_
            (case hb => simp (disch := first | omega | (simp; done) | fail) [wrap64c, if_pos, if_neg, g_h0, lL, lA, c2b, q_x, g_x, l_x, r_x, z_x, q_y, g_y, l_y, r_y, z_y, e1, e3, e4, e25, e26, e27, hlt, hlt2, lu, d1b])
            (case ha => simp (disch := first | omega | (simp; done) | fail) [wrap64c, if_pos, if_neg, g_h0, lL, lA, c2b, q_x, g_x, l_x, r_x, z_x, q_y, g_y, l_y, r_y, z_y, e1, e3, e4, e25, e26, e27, hlt, hlt2, lu, d1b])
            repeat (first
              | (refine WD_block (fun K hK => ?_))
              | (refine WD_seq (fun K hK => ?_))
              | (refine WD_region (fun K hK => ?_))
              | ((first | refine RunD_o rfl rfl rfl rfl rfl (fun X hX => ?_) | refine RunD_s rfl rfl rfl rfl (fun X hX => ?_) | (refine RunD_oT rfl rfl rfl rfl rfl rfl rfl ?hb (fun X hX => ?_); (case hb => simp (disch := first | omega | (simp; done) | fail) [wrap64c, if_pos, if_neg, g_h0, lL, lA, c2b, q_x, g_x, l_x, r_x, z_x, q_y, g_y, l_y, r_y, z_y, e1, e3, e4, e25, e26, e27, hlt, hlt2, lu, d1b] <;> omega))); (try dsimp only); simp (disch := first | omega | (simp; done) | fail) [wrap64c, if_pos, if_neg, g_h0, lL, lA, c2b, q_x, g_x, l_x, r_x, z_x, q_y, g_y, l_y, r_y, z_y, e1, e3, e4, e25, e26, e27, hlt, hlt2, lu, d1b]; refine hX _ _ ?_; clear hX X)
              | (refine RunD_oF rfl rfl rfl rfl rfl ?hb ?_; (case hb => simp (disch := first | omega | (simp; done) | fail) [wrap64c, if_pos, if_neg, g_h0, lL, lA, c2b, q_x, g_x, l_x, r_x, z_x, q_y, g_y, l_y, r_y, z_y, e1, e3, e4, e25, e26, e27, hlt, hlt2, lu, d1b] <;> omega))
              | ((first | refine RunD_oU (c := #[]) rfl rfl rfl rfl rfl ?hb ?_); (case hb => simp (disch := first | omega | (simp; done) | fail) [wrap64c, if_pos, if_neg, g_h0, lL, lA, c2b, q_x, g_x, l_x, r_x, z_x, q_y, g_y, l_y, r_y, z_y, e1, e3, e4, e25, e26, e27, hlt, hlt2, lu, d1b]; rfl))
              | (refine RunD_nil ?_; refine hK _ _ ?_; clear hK K)
              | (refine RunD_nil ?_)
              | (refine WD_skip ?_)
              | (refine WD_exit ?_)
              | (refine WD_ret ?_)
              | (refine WD_true rfl ?hb ?_; (case hb => simp (disch := first | omega | (simp; done) | fail) [wrap64c, if_pos, if_neg, g_h0, lL, lA, c2b, q_x, g_x, l_x, r_x, z_x, q_y, g_y, l_y, r_y, z_y, e1, e3, e4, e25, e26, e27, hlt, hlt2, lu, d1b] <;> omega))
              | (refine WD_false rfl ?hb ?_; (case hb => simp (disch := first | omega | (simp; done) | fail) [wrap64c, if_pos, if_neg, g_h0, lL, lA, c2b, q_x, g_x, l_x, r_x, z_x, q_y, g_y, l_y, r_y, z_y, e1, e3, e4, e25, e26, e27, hlt, hlt2, lu, d1b] <;> omega))
              | (refine hK.1 _ _ ?_; clear hK K)
              | (refine hK.2.1 _ _ ?_; clear hK K)
              | (refine hK.2 _ _ _ ?hne ?_; (case hne => simp; done); clear hK K)
              | (refine hK.2.2 _ _ _ ?hne ?_; (case hne => simp; done); clear hK K))
            refine hK.1 _ _ _ ?hm ?hf ⟨j + 1, rfl, rfl, (by simp [sum_step hlt]), (by first | (simp (disch := first | omega | (simp; done) | fail) [wrap64c, if_pos, if_neg, g_h0, lL, lA, c2b, q_x, g_x, l_x, r_x, z_x, q_y, g_y, l_y, r_y, z_y, e1, e3, e4, e25, e26, e27, hlt, hlt2, lu, d1b]; done) | (simp (disch := first | omega | (simp; done) | fail) [wrap64c, if_pos, if_neg, g_h0, lL, lA, c2b, q_x, g_x, l_x, r_x, z_x, q_y, g_y, l_y, r_y, z_y, e1, e3, e4, e25, e26, e27, hlt, hlt2, lu, d1b] <;> omega)), (by first | omega | (simp (disch := first | omega | (simp; done) | fail) [wrap64c, if_pos, if_neg, g_h0, lL, lA, c2b, q_x, g_x, l_x, r_x, z_x, q_y, g_y, l_y, r_y, z_y, e1, e3, e4, e25, e26, e27, hlt, hlt2, lu, d1b]; done) | (simp (disch := first | omega | (simp; done) | fail) [wrap64c, if_pos, if_neg, g_h0, lL, lA, c2b, q_x, g_x, l_x, r_x, z_x, q_y, g_y, l_y, r_y, z_y, e1, e3, e4, e25, e26, e27, hlt, hlt2, lu, d1b] <;> omega) | assumption), ?c_hx, ?c_hx2, (by rw [sum_step hlt]; omega)⟩
            (case hm => first | omega | (simp; omega))
            (case hf => simp [FrameL, g_h0, lL, lA, c2b, q_x, g_x, l_x, r_x, z_x, q_y, g_y, l_y, r_y, z_y, e1, e3, e4, e25, e26, e27, hlt, hlt2, lu, d1b, f1_0, f3_0, f25_0, f26_0])
            case c_hx =>
              exact (fun i hi hij => by
                rcases Nat.lt_succ_iff_lt_or_eq.1 hij with q | q
                · exact hx i hi q
                · subst q; exact d1)
            case c_hx2 =>
              exact (fun i hi hij => by
                rcases Nat.lt_succ_iff_lt_or_eq.1 hij with q | q
                · exact hx2 i hi q
                · subst q; exact b2)
          · rw [decide_eq_false b2] at hc
            refine RunD_cT rfl rfl rfl rfl rfl rfl ?hb (by simp) (by simp) ?ha (hc) ?_
            (case hb => simp (disch := first | omega | (simp; done) | fail) [wrap64c, if_pos, if_neg, g_h0, lL, lA, c2b, q_x, g_x, l_x, r_x, z_x, q_y, g_y, l_y, r_y, z_y, e1, e3, e4, e25, e26, e27, hlt, hlt2, lu, d1b])
            (case ha => simp (disch := first | omega | (simp; done) | fail) [wrap64c, if_pos, if_neg, g_h0, lL, lA, c2b, q_x, g_x, l_x, r_x, z_x, q_y, g_y, l_y, r_y, z_y, e1, e3, e4, e25, e26, e27, hlt, hlt2, lu, d1b])
            repeat (first
              | (refine WD_block (fun K hK => ?_))
              | (refine WD_seq (fun K hK => ?_))
              | (refine WD_region (fun K hK => ?_))
              | ((first | refine RunD_o rfl rfl rfl rfl rfl (fun X hX => ?_) | refine RunD_s rfl rfl rfl rfl (fun X hX => ?_) | (refine RunD_oT rfl rfl rfl rfl rfl rfl rfl ?hb (fun X hX => ?_); (case hb => simp (disch := first | omega | (simp; done) | fail) [wrap64c, if_pos, if_neg, g_h0, lL, lA, c2b, q_x, g_x, l_x, r_x, z_x, q_y, g_y, l_y, r_y, z_y, e1, e3, e4, e25, e26, e27, hlt, hlt2, lu, d1b] <;> omega))); (try dsimp only); simp (disch := first | omega | (simp; done) | fail) [wrap64c, if_pos, if_neg, g_h0, lL, lA, c2b, q_x, g_x, l_x, r_x, z_x, q_y, g_y, l_y, r_y, z_y, e1, e3, e4, e25, e26, e27, hlt, hlt2, lu, d1b]; refine hX _ _ ?_; clear hX X)
              | (refine RunD_oF rfl rfl rfl rfl rfl ?hb ?_; (case hb => simp (disch := first | omega | (simp; done) | fail) [wrap64c, if_pos, if_neg, g_h0, lL, lA, c2b, q_x, g_x, l_x, r_x, z_x, q_y, g_y, l_y, r_y, z_y, e1, e3, e4, e25, e26, e27, hlt, hlt2, lu, d1b] <;> omega))
              | ((first | refine RunD_oU (c := #[]) rfl rfl rfl rfl rfl ?hb ?_); (case hb => simp (disch := first | omega | (simp; done) | fail) [wrap64c, if_pos, if_neg, g_h0, lL, lA, c2b, q_x, g_x, l_x, r_x, z_x, q_y, g_y, l_y, r_y, z_y, e1, e3, e4, e25, e26, e27, hlt, hlt2, lu, d1b]; rfl))
              | (refine RunD_nil ?_; refine hK _ _ ?_; clear hK K)
              | (refine RunD_nil ?_)
              | (refine WD_skip ?_)
              | (refine WD_exit ?_)
              | (refine WD_ret ?_)
              | (refine WD_true rfl ?hb ?_; (case hb => simp (disch := first | omega | (simp; done) | fail) [wrap64c, if_pos, if_neg, g_h0, lL, lA, c2b, q_x, g_x, l_x, r_x, z_x, q_y, g_y, l_y, r_y, z_y, e1, e3, e4, e25, e26, e27, hlt, hlt2, lu, d1b] <;> omega))
              | (refine WD_false rfl ?hb ?_; (case hb => simp (disch := first | omega | (simp; done) | fail) [wrap64c, if_pos, if_neg, g_h0, lL, lA, c2b, q_x, g_x, l_x, r_x, z_x, q_y, g_y, l_y, r_y, z_y, e1, e3, e4, e25, e26, e27, hlt, hlt2, lu, d1b] <;> omega))
              | (refine hK.1 _ _ ?_; clear hK K)
              | (refine hK.2.1 _ _ ?_; clear hK K)
              | (refine hK.2 _ _ _ ?hne ?_; (case hne => simp; done); clear hK K)
              | (refine hK.2.2 _ _ _ ?hne ?_; (case hne => simp; done); clear hK K))
            exact done_ret rfl (by rw [goodB_false fun q => b2 (q.2.2.1 _ (List.getElem_mem hlt))]; simp [k0])
        · have d1b : ((L[j].length : Int) != (A.length : Int)) = true := by simp [d1]
          repeat (first
            | (refine WD_block (fun K hK => ?_))
            | (refine WD_seq (fun K hK => ?_))
            | (refine WD_region (fun K hK => ?_))
            | ((first | refine RunD_o rfl rfl rfl rfl rfl (fun X hX => ?_) | refine RunD_s rfl rfl rfl rfl (fun X hX => ?_) | (refine RunD_oT rfl rfl rfl rfl rfl rfl rfl ?hb (fun X hX => ?_); (case hb => simp (disch := first | omega | (simp; done) | fail) [wrap64c, if_pos, if_neg, g_h0, lL, lA, c2b, q_x, g_x, l_x, r_x, z_x, q_y, g_y, l_y, r_y, z_y, e1, e3, e4, e25, e26, e27, hlt, hlt2, lu, d1b] <;> omega))); (try dsimp only); simp (disch := first | omega | (simp; done) | fail) [wrap64c, if_pos, if_neg, g_h0, lL, lA, c2b, q_x, g_x, l_x, r_x, z_x, q_y, g_y, l_y, r_y, z_y, e1, e3, e4, e25, e26, e27, hlt, hlt2, lu, d1b]; refine hX _ _ ?_; clear hX X)
            | (refine RunD_oF rfl rfl rfl rfl rfl ?hb ?_; (case hb => simp (disch := first | omega | (simp; done) | fail) [wrap64c, if_pos, if_neg, g_h0, lL, lA, c2b, q_x, g_x, l_x, r_x, z_x, q_y, g_y, l_y, r_y, z_y, e1, e3, e4, e25, e26, e27, hlt, hlt2, lu, d1b] <;> omega))
            | ((first | refine RunD_oU (c := #[]) rfl rfl rfl rfl rfl ?hb ?_); (case hb => simp (disch := first | omega | (simp; done) | fail) [wrap64c, if_pos, if_neg, g_h0, lL, lA, c2b, q_x, g_x, l_x, r_x, z_x, q_y, g_y, l_y, r_y, z_y, e1, e3, e4, e25, e26, e27, hlt, hlt2, lu, d1b]; rfl))
            | (refine RunD_nil ?_; refine hK _ _ ?_; clear hK K)
            | (refine RunD_nil ?_)
            | (refine WD_skip ?_)
            | (refine WD_exit ?_)
            | (refine WD_ret ?_)
            | (refine WD_true rfl ?hb ?_; (case hb => simp (disch := first | omega | (simp; done) | fail) [wrap64c, if_pos, if_neg, g_h0, lL, lA, c2b, q_x, g_x, l_x, r_x, z_x, q_y, g_y, l_y, r_y, z_y, e1, e3, e4, e25, e26, e27, hlt, hlt2, lu, d1b] <;> omega))
            | (refine WD_false rfl ?hb ?_; (case hb => simp (disch := first | omega | (simp; done) | fail) [wrap64c, if_pos, if_neg, g_h0, lL, lA, c2b, q_x, g_x, l_x, r_x, z_x, q_y, g_y, l_y, r_y, z_y, e1, e3, e4, e25, e26, e27, hlt, hlt2, lu, d1b] <;> omega))
            | (refine hK.1 _ _ ?_; clear hK K)
            | (refine hK.2.1 _ _ ?_; clear hK K)
            | (refine hK.2 _ _ _ ?hne ?_; (case hne => simp; done); clear hK K)
            | (refine hK.2.2 _ _ _ ?hne ?_; (case hne => simp; done); clear hK K))
          exact done_ret rfl (by rw [goodB_false fun q => d1 (q.2.2.2.1 _ (List.getElem_mem hlt2)).1]; simp [k0])
      · have hlt2 : ¬ j < L.length := by omega
        repeat (first
          | (refine WD_block (fun K hK => ?_))
          | (refine WD_seq (fun K hK => ?_))
          | (refine WD_region (fun K hK => ?_))
          | ((first | refine RunD_o rfl rfl rfl rfl rfl (fun X hX => ?_) | refine RunD_s rfl rfl rfl rfl (fun X hX => ?_) | (refine RunD_oT rfl rfl rfl rfl rfl rfl rfl ?hb (fun X hX => ?_); (case hb => simp (disch := first | omega | (simp; done) | fail) [wrap64c, if_pos, if_neg, g_h0, lL, lA, c2b, q_x, g_x, l_x, r_x, z_x, q_y, g_y, l_y, r_y, z_y, e1, e3, e4, e25, e26, e27, hlt, hlt2] <;> omega))); (try dsimp only); simp (disch := first | omega | (simp; done) | fail) [wrap64c, if_pos, if_neg, g_h0, lL, lA, c2b, q_x, g_x, l_x, r_x, z_x, q_y, g_y, l_y, r_y, z_y, e1, e3, e4, e25, e26, e27, hlt, hlt2]; refine hX _ _ ?_; clear hX X)
          | (refine RunD_oF rfl rfl rfl rfl rfl ?hb ?_; (case hb => simp (disch := first | omega | (simp; done) | fail) [wrap64c, if_pos, if_neg, g_h0, lL, lA, c2b, q_x, g_x, l_x, r_x, z_x, q_y, g_y, l_y, r_y, z_y, e1, e3, e4, e25, e26, e27, hlt, hlt2] <;> omega))
          | ((first | refine RunD_oU (c := #[]) rfl rfl rfl rfl rfl ?hb ?_); (case hb => simp (disch := first | omega | (simp; done) | fail) [wrap64c, if_pos, if_neg, g_h0, lL, lA, c2b, q_x, g_x, l_x, r_x, z_x, q_y, g_y, l_y, r_y, z_y, e1, e3, e4, e25, e26, e27, hlt, hlt2]; rfl))
          | (refine RunD_nil ?_; refine hK _ _ ?_; clear hK K)
          | (refine RunD_nil ?_)
          | (refine WD_skip ?_)
          | (refine WD_exit ?_)
          | (refine WD_ret ?_)
          | (refine WD_true rfl ?hb ?_; (case hb => simp (disch := first | omega | (simp; done) | fail) [wrap64c, if_pos, if_neg, g_h0, lL, lA, c2b, q_x, g_x, l_x, r_x, z_x, q_y, g_y, l_y, r_y, z_y, e1, e3, e4, e25, e26, e27, hlt, hlt2] <;> omega))
          | (refine WD_false rfl ?hb ?_; (case hb => simp (disch := first | omega | (simp; done) | fail) [wrap64c, if_pos, if_neg, g_h0, lL, lA, c2b, q_x, g_x, l_x, r_x, z_x, q_y, g_y, l_y, r_y, z_y, e1, e3, e4, e25, e26, e27, hlt, hlt2] <;> omega))
          | (refine hK.1 _ _ ?_; clear hK K)
          | (refine hK.2.1 _ _ ?_; clear hK K)
          | (refine hK.2 _ _ _ ?hne ?_; (case hne => simp; done); clear hK K)
          | (refine hK.2.2 _ _ _ ?hne ?_; (case hne => simp; done); clear hK K))
        have hj' : j = A.length := by omega
        subst hj'
        rw [List.take_length] at e4 hs
        have c3 : ∀ x ∈ A, 0 ≤ x ∧ x ≤ 30 := fun x hx' => by
          obtain ⟨i, hi, rfl⟩ := List.getElem_of_mem hx'
          exact hx2 i hi hi
        have hrow : ∀ i (hi : i < L.length), L[i].length = A.length := fun i hi => hx i hi (by omega)
        refine WD_loopF [1, 4, 54, 55] (fun m tm h' => ∃ j, m = L.length - j ∧ h0 = h' ∧ tm 56 = .int .i64 (j : Int) ∧ (j ≤ L.length) ∧ (∀ i (hi : i < L.length), i < j → ∀ k, (hk : k < L[i].length) → (0 ≤ L[i][k] ∧ L[i][k] ≤ 3) ∧ el L i k = el L k i ∧ (i = k → el L i k = 0))) _ ⟨0, rfl, rfl, (by simp (disch := first | omega | (simp; done) | fail) [wrap64c, if_pos, if_neg, g_h0, lL, lA, c2b, q_x, g_x, l_x, r_x, z_x, q_y, g_y, l_y, r_y, z_y, e1, e3, e4, e25, e26, e27, hlt, hlt2]), (by first | omega | (simp (disch := first | omega | (simp; done) | fail) [wrap64c, if_pos, if_neg, g_h0, lL, lA, c2b, q_x, g_x, l_x, r_x, z_x, q_y, g_y, l_y, r_y, z_y, e1, e3, e4, e25, e26, e27, hlt, hlt2]; done) | (simp (disch := first | omega | (simp; done) | fail) [wrap64c, if_pos, if_neg, g_h0, lL, lA, c2b, q_x, g_x, l_x, r_x, z_x, q_y, g_y, l_y, r_y, z_y, e1, e3, e4, e25, e26, e27, hlt, hlt2] <;> omega) | assumption), (by intro i hi h0; omega)⟩ ?_
        rintro m tm h' hFr ⟨j, rfl, rfl, e56, hj, hy⟩ K hK
        simp only [FrameL] at hFr
        obtain ⟨f1_1, f4_1, f54_1, f55_1, -⟩ := hFr
        try simp (disch := first | omega | (simp; done) | fail) [wrap64c, if_pos, if_neg, g_h0, lL, lA, c2b, q_x, g_x, l_x, r_x, z_x, q_y, g_y, l_y, r_y, z_y, e1, e3, e4, e25, e26, e27, hlt, hlt2] at f1_1
        try simp (disch := first | omega | (simp; done) | fail) [wrap64c, if_pos, if_neg, g_h0, lL, lA, c2b, q_x, g_x, l_x, r_x, z_x, q_y, g_y, l_y, r_y, z_y, e1, e3, e4, e25, e26, e27, hlt, hlt2] at f4_1
        try simp (disch := first | omega | (simp; done) | fail) [wrap64c, if_pos, if_neg, g_h0, lL, lA, c2b, q_x, g_x, l_x, r_x, z_x, q_y, g_y, l_y, r_y, z_y, e1, e3, e4, e25, e26, e27, hlt, hlt2] at f54_1
        try simp (disch := first | omega | (simp; done) | fail) [wrap64c, if_pos, if_neg, g_h0, lL, lA, c2b, q_x, g_x, l_x, r_x, z_x, q_y, g_y, l_y, r_y, z_y, e1, e3, e4, e25, e26, e27, hlt, hlt2] at f55_1
        have e1 := f1_1
        have e4 := f4_1
        have e54 := f54_1
        have e55 := f55_1
        by_cases hlt : j < L.length
        · have hrj := hrow j hlt
          have hu := R_x j hlt
          have lu := hu.lenD
          obtain ⟨o_u, i_u, c_u, cs_u, own_u, ex_u, es_u, q_u, b_u, g_u, l_u, r_u⟩ := hu.open ((by omega))
          have z_u : ∀ h2 : i_u < cs_u.length, cs_u[i_u] = _ := fun h2 => r_u 0 ((by omega)) h2
          repeat (first
            | (refine WD_block (fun K hK => ?_))
            | (refine WD_seq (fun K hK => ?_))
            | (refine WD_region (fun K hK => ?_))
            | ((first | refine RunD_o rfl rfl rfl rfl rfl (fun X hX => ?_) | refine RunD_s rfl rfl rfl rfl (fun X hX => ?_) | (refine RunD_oT rfl rfl rfl rfl rfl rfl rfl ?hb (fun X hX => ?_); (case hb => simp (disch := first | omega | (simp; done) | fail) [wrap64c, if_pos, if_neg, g_h0, lL, lA, c2b, q_x, g_x, l_x, r_x, z_x, q_y, g_y, l_y, r_y, z_y, e1, e3, e4, e25, e26, e27, hlt, hlt2, e54, e55, e56, lu, q_u, g_u, l_u, r_u, z_u] <;> omega))); (try dsimp only); simp (disch := first | omega | (simp; done) | fail) [wrap64c, if_pos, if_neg, g_h0, lL, lA, c2b, q_x, g_x, l_x, r_x, z_x, q_y, g_y, l_y, r_y, z_y, e1, e3, e4, e25, e26, e27, hlt, hlt2, e54, e55, e56, lu, q_u, g_u, l_u, r_u, z_u]; refine hX _ _ ?_; clear hX X)
            | (refine RunD_oF rfl rfl rfl rfl rfl ?hb ?_; (case hb => simp (disch := first | omega | (simp; done) | fail) [wrap64c, if_pos, if_neg, g_h0, lL, lA, c2b, q_x, g_x, l_x, r_x, z_x, q_y, g_y, l_y, r_y, z_y, e1, e3, e4, e25, e26, e27, hlt, hlt2, e54, e55, e56, lu, q_u, g_u, l_u, r_u, z_u] <;> omega))
            | ((first | refine RunD_oU (c := #[]) rfl rfl rfl rfl rfl ?hb ?_); (case hb => simp (disch := first | omega | (simp; done) | fail) [wrap64c, if_pos, if_neg, g_h0, lL, lA, c2b, q_x, g_x, l_x, r_x, z_x, q_y, g_y, l_y, r_y, z_y, e1, e3, e4, e25, e26, e27, hlt, hlt2, e54, e55, e56, lu, q_u, g_u, l_u, r_u, z_u]; rfl))
            | (refine RunD_nil ?_; refine hK _ _ ?_; clear hK K)
            | (refine RunD_nil ?_)
            | (refine WD_skip ?_)
            | (refine WD_exit ?_)
            | (refine WD_ret ?_)
            | (refine WD_true rfl ?hb ?_; (case hb => simp (disch := first | omega | (simp; done) | fail) [wrap64c, if_pos, if_neg, g_h0, lL, lA, c2b, q_x, g_x, l_x, r_x, z_x, q_y, g_y, l_y, r_y, z_y, e1, e3, e4, e25, e26, e27, hlt, hlt2, e54, e55, e56, lu, q_u, g_u, l_u, r_u, z_u] <;> omega))
            | (refine WD_false rfl ?hb ?_; (case hb => simp (disch := first | omega | (simp; done) | fail) [wrap64c, if_pos, if_neg, g_h0, lL, lA, c2b, q_x, g_x, l_x, r_x, z_x, q_y, g_y, l_y, r_y, z_y, e1, e3, e4, e25, e26, e27, hlt, hlt2, e54, e55, e56, lu, q_u, g_u, l_u, r_u, z_u] <;> omega))
            | (refine hK.1 _ _ ?_; clear hK K)
            | (refine hK.2.1 _ _ ?_; clear hK K)
            | (refine hK.2 _ _ _ ?hne ?_; (case hne => simp; done); clear hK K)
            | (refine hK.2.2 _ _ _ ?hne ?_; (case hne => simp; done); clear hK K))
          refine WD_loopF [1, 4, 7, 54, 55, 56, 61, 62] (fun m tm h' => ∃ k, m = L[j].length - k ∧ h0 = h' ∧ tm 63 = .int .i64 (k : Int) ∧ (k ≤ L[j].length) ∧ (∀ i (hi : i < L[j].length), i < k → (0 ≤ L[j][i] ∧ L[j][i] ≤ 3) ∧ el L j i = el L i j ∧ (j = i → el L j i = 0))) _ ⟨0, rfl, rfl, (by simp (disch := first | omega | (simp; done) | fail) [wrap64c, if_pos, if_neg, g_h0, lL, lA, c2b, q_x, g_x, l_x, r_x, z_x, q_y, g_y, l_y, r_y, z_y, e1, e3, e4, e25, e26, e27, hlt, hlt2, e54, e55, e56, lu, q_u, g_u, l_u, r_u, z_u]), (by first | omega | (simp (disch := first | omega | (simp; done) | fail) [wrap64c, if_pos, if_neg, g_h0, lL, lA, c2b, q_x, g_x, l_x, r_x, z_x, q_y, g_y, l_y, r_y, z_y, e1, e3, e4, e25, e26, e27, hlt, hlt2, e54, e55, e56, lu, q_u, g_u, l_u, r_u, z_u]; done) | (simp (disch := first | omega | (simp; done) | fail) [wrap64c, if_pos, if_neg, g_h0, lL, lA, c2b, q_x, g_x, l_x, r_x, z_x, q_y, g_y, l_y, r_y, z_y, e1, e3, e4, e25, e26, e27, hlt, hlt2, e54, e55, e56, lu, q_u, g_u, l_u, r_u, z_u] <;> omega) | assumption), (by intro i hi h0; omega)⟩ ?_
          rintro m tm h' hFr ⟨k, rfl, rfl, e63, hk, hz⟩ K hK
          simp only [FrameL] at hFr
          obtain ⟨f1_2, f4_2, f7_2, f54_2, f55_2, f56_2, f61_2, f62_2, -⟩ := hFr
          try simp (disch := first | omega | (simp; done) | fail) [wrap64c, if_pos, if_neg, g_h0, lL, lA, c2b, q_x, g_x, l_x, r_x, z_x, q_y, g_y, l_y, r_y, z_y, e1, e3, e4, e25, e26, e27, hlt, hlt2, e54, e55, e56, lu, q_u, g_u, l_u, r_u, z_u] at f1_2
          try simp (disch := first | omega | (simp; done) | fail) [wrap64c, if_pos, if_neg, g_h0, lL, lA, c2b, q_x, g_x, l_x, r_x, z_x, q_y, g_y, l_y, r_y, z_y, e1, e3, e4, e25, e26, e27, hlt, hlt2, e54, e55, e56, lu, q_u, g_u, l_u, r_u, z_u] at f4_2
          try simp (disch := first | omega | (simp; done) | fail) [wrap64c, if_pos, if_neg, g_h0, lL, lA, c2b, q_x, g_x, l_x, r_x, z_x, q_y, g_y, l_y, r_y, z_y, e1, e3, e4, e25, e26, e27, hlt, hlt2, e54, e55, e56, lu, q_u, g_u, l_u, r_u, z_u] at f7_2
          try simp (disch := first | omega | (simp; done) | fail) [wrap64c, if_pos, if_neg, g_h0, lL, lA, c2b, q_x, g_x, l_x, r_x, z_x, q_y, g_y, l_y, r_y, z_y, e1, e3, e4, e25, e26, e27, hlt, hlt2, e54, e55, e56, lu, q_u, g_u, l_u, r_u, z_u] at f54_2
          try simp (disch := first | omega | (simp; done) | fail) [wrap64c, if_pos, if_neg, g_h0, lL, lA, c2b, q_x, g_x, l_x, r_x, z_x, q_y, g_y, l_y, r_y, z_y, e1, e3, e4, e25, e26, e27, hlt, hlt2, e54, e55, e56, lu, q_u, g_u, l_u, r_u, z_u] at f55_2
          try simp (disch := first | omega | (simp; done) | fail) [wrap64c, if_pos, if_neg, g_h0, lL, lA, c2b, q_x, g_x, l_x, r_x, z_x, q_y, g_y, l_y, r_y, z_y, e1, e3, e4, e25, e26, e27, hlt, hlt2, e54, e55, e56, lu, q_u, g_u, l_u, r_u, z_u] at f56_2
          try simp (disch := first | omega | (simp; done) | fail) [wrap64c, if_pos, if_neg, g_h0, lL, lA, c2b, q_x, g_x, l_x, r_x, z_x, q_y, g_y, l_y, r_y, z_y, e1, e3, e4, e25, e26, e27, hlt, hlt2, e54, e55, e56, lu, q_u, g_u, l_u, r_u, z_u] at f61_2
          try simp (disch := first | omega | (simp; done) | fail) [wrap64c, if_pos, if_neg, g_h0, lL, lA, c2b, q_x, g_x, l_x, r_x, z_x, q_y, g_y, l_y, r_y, z_y, e1, e3, e4, e25, e26, e27, hlt, hlt2, e54, e55, e56, lu, q_u, g_u, l_u, r_u, z_u] at f62_2
          have e1 := f1_2
          have e4 := f4_2
          have e7 := f7_2
          have e54 := f54_2
          have e55 := f55_2
          have e56 := f56_2
          have e61 := f61_2
          have e62 := f62_2
          by_cases hlt3 : k < L[j].length
          · have hkL : k < L.length := by omega
            have hrk := hrow k hkL
            have hjk : j < L[k].length := by omega
            obtain ⟨o_w, i_w, c_w, cs_w, own_w, ex_w, es_w, q_w, b_w, g_w, l_w, r_w⟩ := (R_x k hkL).open ((by omega))
            have z_w : ∀ h2 : i_w < cs_w.length, cs_w[i_w] = _ := fun h2 => r_w 0 ((by omega)) h2
            have ed1 := el_eq hlt hlt3
            have ed2 := el_eq hkL hjk
            repeat (first
              | (refine WD_block (fun K hK => ?_))
              | (refine WD_seq (fun K hK => ?_))
              | (refine WD_region (fun K hK => ?_))
              | ((first | refine RunD_o rfl rfl rfl rfl rfl (fun X hX => ?_) | refine RunD_s rfl rfl rfl rfl (fun X hX => ?_) | (refine RunD_oT rfl rfl rfl rfl rfl rfl rfl ?hb (fun X hX => ?_); (case hb => simp (disch := first | omega | (simp; done) | fail) [wrap64c, if_pos, if_neg, g_h0, lL, lA, c2b, q_x, g_x, l_x, r_x, z_x, q_y, g_y, l_y, r_y, z_y, e1, e3, e4, e25, e26, e27, hlt, hlt2, e54, e55, e56, lu, q_u, g_u, l_u, r_u, z_u, e7, e61, e62, e63, hlt3, hkL, hjk, q_w, g_w, l_w, r_w, z_w] <;> omega))); (try dsimp only); simp (disch := first | omega | (simp; done) | fail) [wrap64c, if_pos, if_neg, g_h0, lL, lA, c2b, q_x, g_x, l_x, r_x, z_x, q_y, g_y, l_y, r_y, z_y, e1, e3, e4, e25, e26, e27, hlt, hlt2, e54, e55, e56, lu, q_u, g_u, l_u, r_u, z_u, e7, e61, e62, e63, hlt3, hkL, hjk, q_w, g_w, l_w, r_w, z_w]; refine hX _ _ ?_; clear hX X)
              | (refine RunD_oF rfl rfl rfl rfl rfl ?hb ?_; (case hb => simp (disch := first | omega | (simp; done) | fail) [wrap64c, if_pos, if_neg, g_h0, lL, lA, c2b, q_x, g_x, l_x, r_x, z_x, q_y, g_y, l_y, r_y, z_y, e1, e3, e4, e25, e26, e27, hlt, hlt2, e54, e55, e56, lu, q_u, g_u, l_u, r_u, z_u, e7, e61, e62, e63, hlt3, hkL, hjk, q_w, g_w, l_w, r_w, z_w] <;> omega))
              | ((first | refine RunD_oU (c := #[]) rfl rfl rfl rfl rfl ?hb ?_); (case hb => simp (disch := first | omega | (simp; done) | fail) [wrap64c, if_pos, if_neg, g_h0, lL, lA, c2b, q_x, g_x, l_x, r_x, z_x, q_y, g_y, l_y, r_y, z_y, e1, e3, e4, e25, e26, e27, hlt, hlt2, e54, e55, e56, lu, q_u, g_u, l_u, r_u, z_u, e7, e61, e62, e63, hlt3, hkL, hjk, q_w, g_w, l_w, r_w, z_w]; rfl))
              | (refine RunD_nil ?_; refine hK _ _ ?_; clear hK K)
              | (refine RunD_nil ?_)
              | (refine WD_skip ?_)
              | (refine WD_exit ?_)
              | (refine WD_ret ?_)
              | (refine WD_true rfl ?hb ?_; (case hb => simp (disch := first | omega | (simp; done) | fail) [wrap64c, if_pos, if_neg, g_h0, lL, lA, c2b, q_x, g_x, l_x, r_x, z_x, q_y, g_y, l_y, r_y, z_y, e1, e3, e4, e25, e26, e27, hlt, hlt2, e54, e55, e56, lu, q_u, g_u, l_u, r_u, z_u, e7, e61, e62, e63, hlt3, hkL, hjk, q_w, g_w, l_w, r_w, z_w] <;> omega))
              | (refine WD_false rfl ?hb ?_; (case hb => simp (disch := first | omega | (simp; done) | fail) [wrap64c, if_pos, if_neg, g_h0, lL, lA, c2b, q_x, g_x, l_x, r_x, z_x, q_y, g_y, l_y, r_y, z_y, e1, e3, e4, e25, e26, e27, hlt, hlt2, e54, e55, e56, lu, q_u, g_u, l_u, r_u, z_u, e7, e61, e62, e63, hlt3, hkL, hjk, q_w, g_w, l_w, r_w, z_w] <;> omega))
              | (refine hK.1 _ _ ?_; clear hK K)
              | (refine hK.2.1 _ _ ?_; clear hK K)
              | (refine hK.2 _ _ _ ?hne ?_; (case hne => simp; done); clear hK K)
              | (refine hK.2.2 _ _ _ ?hne ?_; (case hne => simp; done); clear hK K))
            have hc := within_ok h0 L[j][k] 0 3
            by_cases b2 : 0 ≤ L[j][k] ∧ L[j][k] ≤ 3
            · rw [decide_eq_true b2] at hc
              refine RunD_c rfl rfl rfl rfl (by simp) (by simp) ?ha (hc) ?_
              (case ha => simp (disch := first | omega | (simp; done) | fail) [wrap64c, if_pos, if_neg, g_h0, lL, lA, c2b, q_x, g_x, l_x, r_x, z_x, q_y, g_y, l_y, r_y, z_y, e1, e3, e4, e25, e26, e27, hlt, hlt2, e54, e55, e56, lu, q_u, g_u, l_u, r_u, z_u, e7, e61, e62, e63, hlt3, hkL, hjk, q_w, g_w, l_w, r_w, z_w])
              by_cases hq : L[j][k] = L[k][j]
              · have hqb : (L[j][k] != L[k][j]) = false := by simp [hq]
                by_cases hjk2 : j = k
                · have hjb : ((j : Int) == (k : Int)) = true := by simp [hjk2]
                  by_cases hz0 : L[j][k] = 0
                  · have hzb : (L[j][k] != 0) = false := by simp [hz0]
                    repeat (first
                      | (refine WD_block (fun K hK => ?_))
                      | (refine WD_seq (fun K hK => ?_))
                      | (refine WD_region (fun K hK => ?_))
                      | ((first | refine RunD_o rfl rfl rfl rfl rfl (fun X hX => ?_) | refine RunD_s rfl rfl rfl rfl (fun X hX => ?_) | (refine RunD_oT rfl rfl rfl rfl rfl rfl rfl ?hb (fun X hX => ?_); (case hb => simp (disch := first | omega | (simp; done) | fail) [wrap64c, if_pos, if_neg, g_h0, lL, lA, c2b, q_x, g_x, l_x, r_x, z_x, q_y, g_y, l_y, r_y, z_y, e1, e3, e4, e25, e26, e27, hlt, hlt2, e54, e55, e56, lu, q_u, g_u, l_u, r_u, z_u, e7, e61, e62, e63, hlt3, hkL, hjk, q_w, g_w, l_w, r_w, z_w, hqb, hjb, hzb] <;> omega))); (try dsimp only); simp (disch := first | omega | (simp; done) | fail) [wrap64c, if_pos, if_neg, g_h0, lL, lA, c2b, q_x, g_x, l_x, r_x, z_x, q_y, g_y, l_y, r_y, z_y, e1, e3, e4, e25, e26, e27, hlt, hlt2, e54, e55, e56, lu, q_u, g_u, l_u, r_u, z_u, e7, e61, e62, e63, hlt3, hkL, hjk, q_w, g_w, l_w, r_w, z_w, hqb, hjb, hzb]; refine hX _ _ ?_; clear hX X)
                      | (refine RunD_oF rfl rfl rfl rfl rfl ?hb ?_; (case hb => simp (disch := first | omega | (simp; done) | fail) [wrap64c, if_pos, if_neg, g_h0, lL, lA, c2b, q_x, g_x, l_x, r_x, z_x, q_y, g_y, l_y, r_y, z_y, e1, e3, e4, e25, e26, e27, hlt, hlt2, e54, e55, e56, lu, q_u, g_u, l_u, r_u, z_u, e7, e61, e62, e63, hlt3, hkL, hjk, q_w, g_w, l_w, r_w, z_w, hqb, hjb, hzb] <;> omega))
                      | ((first | refine RunD_oU (c := #[]) rfl rfl rfl rfl rfl ?hb ?_); (case hb => simp (disch := first | omega | (simp; done) | fail) [wrap64c, if_pos, if_neg, g_h0, lL, lA, c2b, q_x, g_x, l_x, r_x, z_x, q_y, g_y, l_y, r_y, z_y, e1, e3, e4, e25, e26, e27, hlt, hlt2, e54, e55, e56, lu, q_u, g_u, l_u, r_u, z_u, e7, e61, e62, e63, hlt3, hkL, hjk, q_w, g_w, l_w, r_w, z_w, hqb, hjb, hzb]; rfl))
                      | (refine RunD_nil ?_; refine hK _ _ ?_; clear hK K)
                      | (refine RunD_nil ?_)
                      | (refine WD_skip ?_)
                      | (refine WD_exit ?_)
                      | (refine WD_ret ?_)
                      | (refine WD_true rfl ?hb ?_; (case hb => simp (disch := first | omega | (simp; done) | fail) [wrap64c, if_pos, if_neg, g_h0, lL, lA, c2b, q_x, g_x, l_x, r_x, z_x, q_y, g_y, l_y, r_y, z_y, e1, e3, e4, e25, e26, e27, hlt, hlt2, e54, e55, e56, lu, q_u, g_u, l_u, r_u, z_u, e7, e61, e62, e63, hlt3, hkL, hjk, q_w, g_w, l_w, r_w, z_w, hqb, hjb, hzb] <;> omega))
                      | (refine WD_false rfl ?hb ?_; (case hb => simp (disch := first | omega | (simp; done) | fail) [wrap64c, if_pos, if_neg, g_h0, lL, lA, c2b, q_x, g_x, l_x, r_x, z_x, q_y, g_y, l_y, r_y, z_y, e1, e3, e4, e25, e26, e27, hlt, hlt2, e54, e55, e56, lu, q_u, g_u, l_u, r_u, z_u, e7, e61, e62, e63, hlt3, hkL, hjk, q_w, g_w, l_w, r_w, z_w, hqb, hjb, hzb] <;> omega))
                      | (refine hK.1 _ _ ?_; clear hK K)
                      | (refine hK.2.1 _ _ ?_; clear hK K)
                      | (refine hK.2 _ _ _ ?hne ?_; (case hne => simp; done); clear hK K)
                      | (refine hK.2.2 _ _ _ ?hne ?_; (case hne => simp; done); clear hK K))
                    refine hK.1 _ _ _ ?hm ?hf ⟨k + 1, rfl, rfl, (by first | (simp (disch := first | omega | (simp; done) | fail) [wrap64c, if_pos, if_neg, g_h0, lL, lA, c2b, q_x, g_x, l_x, r_x, z_x, q_y, g_y, l_y, r_y, z_y, e1, e3, e4, e25, e26, e27, hlt, hlt2, e54, e55, e56, lu, q_u, g_u, l_u, r_u, z_u, e7, e61, e62, e63, hlt3, hkL, hjk, q_w, g_w, l_w, r_w, z_w, hqb, hjb, hzb]; done) | (simp (disch := first | omega | (simp; done) | fail) [wrap64c, if_pos, if_neg, g_h0, lL, lA, c2b, q_x, g_x, l_x, r_x, z_x, q_y, g_y, l_y, r_y, z_y, e1, e3, e4, e25, e26, e27, hlt, hlt2, e54, e55, e56, lu, q_u, g_u, l_u, r_u, z_u, e7, e61, e62, e63, hlt3, hkL, hjk, q_w, g_w, l_w, r_w, z_w, hqb, hjb, hzb] <;> omega)), (by first | omega | (simp (disch := first | omega | (simp; done) | fail) [wrap64c, if_pos, if_neg, g_h0, lL, lA, c2b, q_x, g_x, l_x, r_x, z_x, q_y, g_y, l_y, r_y, z_y, e1, e3, e4, e25, e26, e27, hlt, hlt2, e54, e55, e56, lu, q_u, g_u, l_u, r_u, z_u, e7, e61, e62, e63, hlt3, hkL, hjk, q_w, g_w, l_w, r_w, z_w, hqb, hjb, hzb]; done) | (simp (disch := first | omega | (simp; done) | fail) [wrap64c, if_pos, if_neg, g_h0, lL, lA, c2b, q_x, g_x, l_x, r_x, z_x, q_y, g_y, l_y, r_y, z_y, e1, e3, e4, e25, e26, e27, hlt, hlt2, e54, e55, e56, lu, q_u, g_u, l_u, r_u, z_u, e7, e61, e62, e63, hlt3, hkL, hjk, q_w, g_w, l_w, r_w, z_w, hqb, hjb, hzb] <;> omega) | assumption), ?c_hz⟩
                    (case hm => first | omega | (simp; omega))
                    (case hf => simp [FrameL, g_h0, lL, lA, c2b, q_x, g_x, l_x, r_x, z_x, q_y, g_y, l_y, r_y, z_y, e1, e3, e4, e25, e26, e27, hlt, hlt2, e54, e55, e56, lu, q_u, g_u, l_u, r_u, z_u, e7, e61, e62, e63, hlt3, hkL, hjk, q_w, g_w, l_w, r_w, z_w, hqb, hjb, hzb, f1_2, f4_2, f7_2, f54_2, f55_2, f56_2, f61_2, f62_2])
                    case c_hz =>
                      exact (fun i hi hik => by
                        rcases Nat.lt_succ_iff_lt_or_eq.1 hik with q | q
                        · exact hz i hi q
                        · subst q; exact ⟨b2, by rw [ed1, ed2, hq], fun _ => by rw [ed1, hz0]⟩)
                  · have hzb : (L[j][k] != 0) = true := by simp [hz0]
                    repeat (first
                      | (refine WD_block (fun K hK => ?_))
                      | (refine WD_seq (fun K hK => ?_))
                      | (refine WD_region (fun K hK => ?_))
                      | ((first | refine RunD_o rfl rfl rfl rfl rfl (fun X hX => ?_) | refine RunD_s rfl rfl rfl rfl (fun X hX => ?_) | (refine RunD_oT rfl rfl rfl rfl rfl rfl rfl ?hb (fun X hX => ?_); (case hb => simp (disch := first | omega | (simp; done) | fail) [wrap64c, if_pos, if_neg, g_h0, lL, lA, c2b, q_x, g_x, l_x, r_x, z_x, q_y, g_y, l_y, r_y, z_y, e1, e3, e4, e25, e26, e27, hlt, hlt2, e54, e55, e56, lu, q_u, g_u, l_u, r_u, z_u, e7, e61, e62, e63, hlt3, hkL, hjk, q_w, g_w, l_w, r_w, z_w, hqb, hjb, hzb] <;> omega))); (try dsimp only); simp (disch := first | omega | (simp; done) | fail) [wrap64c, if_pos, if_neg, g_h0, lL, lA, c2b, q_x, g_x, l_x, r_x, z_x, q_y, g_y, l_y, r_y, z_y, e1, e3, e4, e25, e26, e27, hlt, hlt2, e54, e55, e56, lu, q_u, g_u, l_u, r_u, z_u, e7, e61, e62, e63, hlt3, hkL, hjk, q_w, g_w, l_w, r_w, z_w, hqb, hjb, hzb]; refine hX _ _ ?_; clear hX X)
                      | (refine RunD_oF rfl rfl rfl rfl rfl ?hb ?_; (case hb => simp (disch := first | omega | (simp; done) | fail) [wrap64c, if_pos, if_neg, g_h0, lL, lA, c2b, q_x, g_x, l_x, r_x, z_x, q_y, g_y, l_y, r_y, z_y, e1, e3, e4, e25, e26, e27, hlt, hlt2, e54, e55, e56, lu, q_u, g_u, l_u, r_u, z_u, e7, e61, e62, e63, hlt3, hkL, hjk, q_w, g_w, l_w, r_w, z_w, hqb, hjb, hzb] <;> omega))
                      | ((first | refine RunD_oU (c := #[]) rfl rfl rfl rfl rfl ?hb ?_); (case hb => simp (disch := first | omega | (simp; done) | fail) [wrap64c, if_pos, if_neg, g_h0, lL, lA, c2b, q_x, g_x, l_x, r_x, z_x, q_y, g_y, l_y, r_y, z_y, e1, e3, e4, e25, e26, e27, hlt, hlt2, e54, e55, e56, lu, q_u, g_u, l_u, r_u, z_u, e7, e61, e62, e63, hlt3, hkL, hjk, q_w, g_w, l_w, r_w, z_w, hqb, hjb, hzb]; rfl))
                      | (refine RunD_nil ?_; refine hK _ _ ?_; clear hK K)
                      | (refine RunD_nil ?_)
                      | (refine WD_skip ?_)
                      | (refine WD_exit ?_)
                      | (refine WD_ret ?_)
                      | (refine WD_true rfl ?hb ?_; (case hb => simp (disch := first | omega | (simp; done) | fail) [wrap64c, if_pos, if_neg, g_h0, lL, lA, c2b, q_x, g_x, l_x, r_x, z_x, q_y, g_y, l_y, r_y, z_y, e1, e3, e4, e25, e26, e27, hlt, hlt2, e54, e55, e56, lu, q_u, g_u, l_u, r_u, z_u, e7, e61, e62, e63, hlt3, hkL, hjk, q_w, g_w, l_w, r_w, z_w, hqb, hjb, hzb] <;> omega))
                      | (refine WD_false rfl ?hb ?_; (case hb => simp (disch := first | omega | (simp; done) | fail) [wrap64c, if_pos, if_neg, g_h0, lL, lA, c2b, q_x, g_x, l_x, r_x, z_x, q_y, g_y, l_y, r_y, z_y, e1, e3, e4, e25, e26, e27, hlt, hlt2, e54, e55, e56, lu, q_u, g_u, l_u, r_u, z_u, e7, e61, e62, e63, hlt3, hkL, hjk, q_w, g_w, l_w, r_w, z_w, hqb, hjb, hzb] <;> omega))
                      | (refine hK.1 _ _ ?_; clear hK K)
                      | (refine hK.2.1 _ _ ?_; clear hK K)
                      | (refine hK.2 _ _ _ ?hne ?_; (case hne => simp; done); clear hK K)
                      | (refine hK.2.2 _ _ _ ?hne ?_; (case hne => simp; done); clear hK K))
                    exact done_ret rfl (by rw [goodB_false fun q => hz0 (by rw [← ed1, ← hjk2]; exact q.2.2.2.2.2.1 j (by omega))]; simp [k0])
                · have hjb : ((j : Int) == (k : Int)) = false := by simp [hjk2]
                  repeat (first
                    | (refine WD_block (fun K hK => ?_))
                    | (refine WD_seq (fun K hK => ?_))
                    | (refine WD_region (fun K hK => ?_))
                    | ((first | refine RunD_o rfl rfl rfl rfl rfl (fun X hX => ?_) | refine RunD_s rfl rfl rfl rfl (fun X hX => ?_) | (refine RunD_oT rfl rfl rfl rfl rfl rfl rfl ?hb (fun X hX => ?_); (case hb => simp (disch := first | omega | (simp; done) | fail) [wrap64c, if_pos, if_neg, g_h0, lL, lA, c2b, q_x, g_x, l_x, r_x, z_x, q_y, g_y, l_y, r_y, z_y, e1, e3, e4, e25, e26, e27, hlt, hlt2, e54, e55, e56, lu, q_u, g_u, l_u, r_u, z_u, e7, e61, e62, e63, hlt3, hkL, hjk, q_w, g_w, l_w, r_w, z_w, hqb, hjb] <;> omega))); (try dsimp only); simp (disch := first | omega | (simp; done) | fail) [wrap64c, if_pos, if_neg, g_h0, lL, lA, c2b, q_x, g_x, l_x, r_x, z_x, q_y, g_y, l_y, r_y, z_y, e1, e3, e4, e25, e26, e27, hlt, hlt2, e54, e55, e56, lu, q_u, g_u, l_u, r_u, z_u, e7, e61, e62, e63, hlt3, hkL, hjk, q_w, g_w, l_w, r_w, z_w, hqb, hjb]; refine hX _ _ ?_; clear hX X)
                    | (refine RunD_oF rfl rfl rfl rfl rfl ?hb ?_; (case hb => simp (disch := first | omega | (simp; done) | fail) [wrap64c, if_pos, if_neg, g_h0, lL, lA, c2b, q_x, g_x, l_x, r_x, z_x, q_y, g_y, l_y, r_y, z_y, e1, e3, e4, e25, e26, e27, hlt, hlt2, e54, e55, e56, lu, q_u, g_u, l_u, r_u, z_u, e7, e61, e62, e63, hlt3, hkL, hjk, q_w, g_w, l_w, r_w, z_w, hqb, hjb] <;> omega))
                    | ((first | refine RunD_oU (c := #[]) rfl rfl rfl rfl rfl ?hb ?_); (case hb => simp (disch := first | omega | (simp; done) | fail) [wrap64c, if_pos, if_neg, g_h0, lL, lA, c2b, q_x, g_x, l_x, r_x, z_x, q_y, g_y, l_y, r_y, z_y, e1, e3, e4, e25, e26, e27, hlt, hlt2, e54, e55, e56, lu, q_u, g_u, l_u, r_u, z_u, e7, e61, e62, e63, hlt3, hkL, hjk, q_w, g_w, l_w, r_w, z_w, hqb, hjb]; rfl))
                    | (refine RunD_nil ?_; refine hK _ _ ?_; clear hK K)
                    | (refine RunD_nil ?_)
                    | (refine WD_skip ?_)
                    | (refine WD_exit ?_)
                    | (refine WD_ret ?_)
                    | (refine WD_true rfl ?hb ?_; (case hb => simp (disch := first | omega | (simp; done) | fail) [wrap64c, if_pos, if_neg, g_h0, lL, lA, c2b, q_x, g_x, l_x, r_x, z_x, q_y, g_y, l_y, r_y, z_y, e1, e3, e4, e25, e26, e27, hlt, hlt2, e54, e55, e56, lu, q_u, g_u, l_u, r_u, z_u, e7, e61, e62, e63, hlt3, hkL, hjk, q_w, g_w, l_w, r_w, z_w, hqb, hjb] <;> omega))
                    | (refine WD_false rfl ?hb ?_; (case hb => simp (disch := first | omega | (simp; done) | fail) [wrap64c, if_pos, if_neg, g_h0, lL, lA, c2b, q_x, g_x, l_x, r_x, z_x, q_y, g_y, l_y, r_y, z_y, e1, e3, e4, e25, e26, e27, hlt, hlt2, e54, e55, e56, lu, q_u, g_u, l_u, r_u, z_u, e7, e61, e62, e63, hlt3, hkL, hjk, q_w, g_w, l_w, r_w, z_w, hqb, hjb] <;> omega))
                    | (refine hK.1 _ _ ?_; clear hK K)
                    | (refine hK.2.1 _ _ ?_; clear hK K)
                    | (refine hK.2 _ _ _ ?hne ?_; (case hne => simp; done); clear hK K)
                    | (refine hK.2.2 _ _ _ ?hne ?_; (case hne => simp; done); clear hK K))
                  refine hK.1 _ _ _ ?hm ?hf ⟨k + 1, rfl, rfl, (by first | (simp (disch := first | omega | (simp; done) | fail) [wrap64c, if_pos, if_neg, g_h0, lL, lA, c2b, q_x, g_x, l_x, r_x, z_x, q_y, g_y, l_y, r_y, z_y, e1, e3, e4, e25, e26, e27, hlt, hlt2, e54, e55, e56, lu, q_u, g_u, l_u, r_u, z_u, e7, e61, e62, e63, hlt3, hkL, hjk, q_w, g_w, l_w, r_w, z_w, hqb, hjb]; done) | (simp (disch := first | omega | (simp; done) | fail) [wrap64c, if_pos, if_neg, g_h0, lL, lA, c2b, q_x, g_x, l_x, r_x, z_x, q_y, g_y, l_y, r_y, z_y, e1, e3, e4, e25, e26, e27, hlt, hlt2, e54, e55, e56, lu, q_u, g_u, l_u, r_u, z_u, e7, e61, e62, e63, hlt3, hkL, hjk, q_w, g_w, l_w, r_w, z_w, hqb, hjb] <;> omega)), (by first | omega | (simp (disch := first | omega | (simp; done) | fail) [wrap64c, if_pos, if_neg, g_h0, lL, lA, c2b, q_x, g_x, l_x, r_x, z_x, q_y, g_y, l_y, r_y, z_y, e1, e3, e4, e25, e26, e27, hlt, hlt2, e54, e55, e56, lu, q_u, g_u, l_u, r_u, z_u, e7, e61, e62, e63, hlt3, hkL, hjk, q_w, g_w, l_w, r_w, z_w, hqb, hjb]; done) | (simp (disch := first | omega | (simp; done) | fail) [wrap64c, if_pos, if_neg, g_h0, lL, lA, c2b, q_x, g_x, l_x, r_x, z_x, q_y, g_y, l_y, r_y, z_y, e1, e3, e4, e25, e26, e27, hlt, hlt2, e54, e55, e56, lu, q_u, g_u, l_u, r_u, z_u, e7, e61, e62, e63, hlt3, hkL, hjk, q_w, g_w, l_w, r_w, z_w, hqb, hjb] <;> omega) | assumption), ?c_hz⟩
                  (case hm => first | omega | (simp; omega))
                  (case hf => simp [FrameL, g_h0, lL, lA, c2b, q_x, g_x, l_x, r_x, z_x, q_y, g_y, l_y, r_y, z_y, e1, e3, e4, e25, e26, e27, hlt, hlt2, e54, e55, e56, lu, q_u, g_u, l_u, r_u, z_u, e7, e61, e62, e63, hlt3, hkL, hjk, q_w, g_w, l_w, r_w, z_w, hqb, hjb, f1_2, f4_2, f7_2, f54_2, f55_2, f56_2, f61_2, f62_2])
                  case c_hz =>
                    exact (fun i hi hik => by
                      rcases Nat.lt_succ_iff_lt_or_eq.1 hik with q | q
                      · exact hz i hi q
                      · subst q; exact ⟨b2, by rw [ed1, ed2, hq], fun q => absurd q hjk2⟩)
              · have hqb : (L[j][k] != L[k][j]) = true := by simp [hq]
                repeat (first
                  | (refine WD_block (fun K hK => ?_))
                  | (refine WD_seq (fun K hK => ?_))
                  | (refine WD_region (fun K hK => ?_))
                  | ((first | refine RunD_o rfl rfl rfl rfl rfl (fun X hX => ?_) | refine RunD_s rfl rfl rfl rfl (fun X hX => ?_) | (refine RunD_oT rfl rfl rfl rfl rfl rfl rfl ?hb (fun X hX => ?_); (case hb => simp (disch := first | omega | (simp; done) | fail) [wrap64c, if_pos, if_neg, g_h0, lL, lA, c2b, q_x, g_x, l_x, r_x, z_x, q_y, g_y, l_y, r_y, z_y, e1, e3, e4, e25, e26, e27, hlt, hlt2, e54, e55, e56, lu, q_u, g_u, l_u, r_u, z_u, e7, e61, e62, e63, hlt3, hkL, hjk, q_w, g_w, l_w, r_w, z_w, hqb] <;> omega))); (try dsimp only); simp (disch := first | omega | (simp; done) | fail) [wrap64c, if_pos, if_neg, g_h0, lL, lA, c2b, q_x, g_x, l_x, r_x, z_x, q_y, g_y, l_y, r_y, z_y, e1, e3, e4, e25, e26, e27, hlt, hlt2, e54, e55, e56, lu, q_u, g_u, l_u, r_u, z_u, e7, e61, e62, e63, hlt3, hkL, hjk, q_w, g_w, l_w, r_w, z_w, hqb]; refine hX _ _ ?_; clear hX X)
                  | (refine RunD_oF rfl rfl rfl rfl rfl ?hb ?_; (case hb => simp (disch := first | omega | (simp; done) | fail) [wrap64c, if_pos, if_neg, g_h0, lL, lA, c2b, q_x, g_x, l_x, r_x, z_x, q_y, g_y, l_y, r_y, z_y, e1, e3, e4, e25, e26, e27, hlt, hlt2, e54, e55, e56, lu, q_u, g_u, l_u, r_u, z_u, e7, e61, e62, e63, hlt3, hkL, hjk, q_w, g_w, l_w, r_w, z_w, hqb] <;> omega))
                  | ((first | refine RunD_oU (c := #[]) rfl rfl rfl rfl rfl ?hb ?_); (case hb => simp (disch := first | omega | (simp; done) | fail) [wrap64c, if_pos, if_neg, g_h0, lL, lA, c2b, q_x, g_x, l_x, r_x, z_x, q_y, g_y, l_y, r_y, z_y, e1, e3, e4, e25, e26, e27, hlt, hlt2, e54, e55, e56, lu, q_u, g_u, l_u, r_u, z_u, e7, e61, e62, e63, hlt3, hkL, hjk, q_w, g_w, l_w, r_w, z_w, hqb]; rfl))
                  | (refine RunD_nil ?_; refine hK _ _ ?_; clear hK K)
                  | (refine RunD_nil ?_)
                  | (refine WD_skip ?_)
                  | (refine WD_exit ?_)
                  | (refine WD_ret ?_)
                  | (refine WD_true rfl ?hb ?_; (case hb => simp (disch := first | omega | (simp; done) | fail) [wrap64c, if_pos, if_neg, g_h0, lL, lA, c2b, q_x, g_x, l_x, r_x, z_x, q_y, g_y, l_y, r_y, z_y, e1, e3, e4, e25, e26, e27, hlt, hlt2, e54, e55, e56, lu, q_u, g_u, l_u, r_u, z_u, e7, e61, e62, e63, hlt3, hkL, hjk, q_w, g_w, l_w, r_w, z_w, hqb] <;> omega))
                  | (refine WD_false rfl ?hb ?_; (case hb => simp (disch := first | omega | (simp; done) | fail) [wrap64c, if_pos, if_neg, g_h0, lL, lA, c2b, q_x, g_x, l_x, r_x, z_x, q_y, g_y, l_y, r_y, z_y, e1, e3, e4, e25, e26, e27, hlt, hlt2, e54, e55, e56, lu, q_u, g_u, l_u, r_u, z_u, e7, e61, e62, e63, hlt3, hkL, hjk, q_w, g_w, l_w, r_w, z_w, hqb] <;> omega))
                  | (refine hK.1 _ _ ?_; clear hK K)
                  | (refine hK.2.1 _ _ ?_; clear hK K)
                  | (refine hK.2 _ _ _ ?hne ?_; (case hne => simp; done); clear hK K)
                  | (refine hK.2.2 _ _ _ ?hne ?_; (case hne => simp; done); clear hK K))
                exact done_ret rfl (by rw [goodB_false fun q => hq (by rw [← ed1, ← ed2]; exact q.2.2.2.2.1 j (by omega) k (by omega))]; simp [k0])
            · rw [decide_eq_false b2] at hc
              refine RunD_c rfl rfl rfl rfl (by simp) (by simp) ?ha (hc) ?_
              (case ha => simp (disch := first | omega | (simp; done) | fail) [wrap64c, if_pos, if_neg, g_h0, lL, lA, c2b, q_x, g_x, l_x, r_x, z_x, q_y, g_y, l_y, r_y, z_y, e1, e3, e4, e25, e26, e27, hlt, hlt2, e54, e55, e56, lu, q_u, g_u, l_u, r_u, z_u, e7, e61, e62, e63, hlt3, hkL, hjk, q_w, g_w, l_w, r_w, z_w])
              repeat (first
                | (refine WD_block (fun K hK => ?_))
                | (refine WD_seq (fun K hK => ?_))
                | (refine WD_region (fun K hK => ?_))
                | ((first | refine RunD_o rfl rfl rfl rfl rfl (fun X hX => ?_) | refine RunD_s rfl rfl rfl rfl (fun X hX => ?_) | (refine RunD_oT rfl rfl rfl rfl rfl rfl rfl ?hb (fun X hX => ?_); (case hb => simp (disch := first | omega | (simp; done) | fail) [wrap64c, if_pos, if_neg, g_h0, lL, lA, c2b, q_x, g_x, l_x, r_x, z_x, q_y, g_y, l_y, r_y, z_y, e1, e3, e4, e25, e26, e27, hlt, hlt2, e54, e55, e56, lu, q_u, g_u, l_u, r_u, z_u, e7, e61, e62, e63, hlt3, hkL, hjk, q_w, g_w, l_w, r_w, z_w] <;> omega))); (try dsimp only); simp (disch := first | omega | (simp; done) | fail) [wrap64c, if_pos, if_neg, g_h0, lL, lA, c2b, q_x, g_x, l_x, r_x, z_x, q_y, g_y, l_y, r_y, z_y, e1, e3, e4, e25, e26, e27, hlt, hlt2, e54, e55, e56, lu, q_u, g_u, l_u, r_u, z_u, e7, e61, e62, e63, hlt3, hkL, hjk, q_w, g_w, l_w, r_w, z_w]; refine hX _ _ ?_; clear hX X)
                | (refine RunD_oF rfl rfl rfl rfl rfl ?hb ?_; (case hb => simp (disch := first | omega | (simp; done) | fail) [wrap64c, if_pos, if_neg, g_h0, lL, lA, c2b, q_x, g_x, l_x, r_x, z_x, q_y, g_y, l_y, r_y, z_y, e1, e3, e4, e25, e26, e27, hlt, hlt2, e54, e55, e56, lu, q_u, g_u, l_u, r_u, z_u, e7, e61, e62, e63, hlt3, hkL, hjk, q_w, g_w, l_w, r_w, z_w] <;> omega))
                | ((first | refine RunD_oU (c := #[]) rfl rfl rfl rfl rfl ?hb ?_); (case hb => simp (disch := first | omega | (simp; done) | fail) [wrap64c, if_pos, if_neg, g_h0, lL, lA, c2b, q_x, g_x, l_x, r_x, z_x, q_y, g_y, l_y, r_y, z_y, e1, e3, e4, e25, e26, e27, hlt, hlt2, e54, e55, e56, lu, q_u, g_u, l_u, r_u, z_u, e7, e61, e62, e63, hlt3, hkL, hjk, q_w, g_w, l_w, r_w, z_w]; rfl))
                | (refine RunD_nil ?_; refine hK _ _ ?_; clear hK K)
                | (refine RunD_nil ?_)
                | (refine WD_skip ?_)
                | (refine WD_exit ?_)
                | (refine WD_ret ?_)
                | (refine WD_true rfl ?hb ?_; (case hb => simp (disch := first | omega | (simp; done) | fail) [wrap64c, if_pos, if_neg, g_h0, lL, lA, c2b, q_x, g_x, l_x, r_x, z_x, q_y, g_y, l_y, r_y, z_y, e1, e3, e4, e25, e26, e27, hlt, hlt2, e54, e55, e56, lu, q_u, g_u, l_u, r_u, z_u, e7, e61, e62, e63, hlt3, hkL, hjk, q_w, g_w, l_w, r_w, z_w] <;> omega))
                | (refine WD_false rfl ?hb ?_; (case hb => simp (disch := first | omega | (simp; done) | fail) [wrap64c, if_pos, if_neg, g_h0, lL, lA, c2b, q_x, g_x, l_x, r_x, z_x, q_y, g_y, l_y, r_y, z_y, e1, e3, e4, e25, e26, e27, hlt, hlt2, e54, e55, e56, lu, q_u, g_u, l_u, r_u, z_u, e7, e61, e62, e63, hlt3, hkL, hjk, q_w, g_w, l_w, r_w, z_w] <;> omega))
                | (refine hK.1 _ _ ?_; clear hK K)
                | (refine hK.2.1 _ _ ?_; clear hK K)
                | (refine hK.2 _ _ _ ?hne ?_; (case hne => simp; done); clear hK K)
                | (refine hK.2.2 _ _ _ ?hne ?_; (case hne => simp; done); clear hK K))
              exact done_ret rfl (by rw [goodB_false fun q => b2 ((q.2.2.2.1 _ (List.getElem_mem hlt)).2 _ (List.getElem_mem hlt3))]; simp [k0])
          · repeat (first
              | (refine WD_block (fun K hK => ?_))
              | (refine WD_seq (fun K hK => ?_))
              | (refine WD_region (fun K hK => ?_))
              | ((first | refine RunD_o rfl rfl rfl rfl rfl (fun X hX => ?_) | refine RunD_s rfl rfl rfl rfl (fun X hX => ?_) | (refine RunD_oT rfl rfl rfl rfl rfl rfl rfl ?hb (fun X hX => ?_); (case hb => simp (disch := first | omega | (simp; done) | fail) [wrap64c, if_pos, if_neg, g_h0, lL, lA, c2b, q_x, g_x, l_x, r_x, z_x, q_y, g_y, l_y, r_y, z_y, e1, e3, e4, e25, e26, e27, hlt, hlt2, e54, e55, e56, lu, q_u, g_u, l_u, r_u, z_u, e7, e61, e62, e63, hlt3] <;> omega))); (try dsimp only); simp (disch := first | omega | (simp; done) | fail) [wrap64c, if_pos, if_neg, g_h0, lL, lA, c2b, q_x, g_x, l_x, r_x, z_x, q_y, g_y, l_y, r_y, z_y, e1, e3, e4, e25, e26, e27, hlt, hlt2, e54, e55, e56, lu, q_u, g_u, l_u, r_u, z_u, e7, e61, e62, e63, hlt3]; refine hX _ _ ?_; clear hX X)
              | (refine RunD_oF rfl rfl rfl rfl rfl ?hb ?_; (case hb => simp (disch := first | omega | (simp; done) | fail) [wrap64c, if_pos, if_neg, g_h0, lL, lA, c2b, q_x, g_x, l_x, r_x, z_x, q_y, g_y, l_y, r_y, z_y, e1, e3, e4, e25, e26, e27, hlt, hlt2, e54, e55, e56, lu, q_u, g_u, l_u, r_u, z_u, e7, e61, e62, e63, hlt3] <;> omega))
              | ((first | refine RunD_oU (c := #[]) rfl rfl rfl rfl rfl ?hb ?_); (case hb => simp (disch := first | omega | (simp; done) | fail) [wrap64c, if_pos, if_neg, g_h0, lL, lA, c2b, q_x, g_x, l_x, r_x, z_x, q_y, g_y, l_y, r_y, z_y, e1, e3, e4, e25, e26, e27, hlt, hlt2, e54, e55, e56, lu, q_u, g_u, l_u, r_u, z_u, e7, e61, e62, e63, hlt3]; rfl))
              | (refine RunD_nil ?_; refine hK _ _ ?_; clear hK K)
              | (refine RunD_nil ?_)
              | (refine WD_skip ?_)
              | (refine WD_exit ?_)
              | (refine WD_ret ?_)
              | (refine WD_true rfl ?hb ?_; (case hb => simp (disch := first | omega | (simp; done) | fail) [wrap64c, if_pos, if_neg, g_h0, lL, lA, c2b, q_x, g_x, l_x, r_x, z_x, q_y, g_y, l_y, r_y, z_y, e1, e3, e4, e25, e26, e27, hlt, hlt2, e54, e55, e56, lu, q_u, g_u, l_u, r_u, z_u, e7, e61, e62, e63, hlt3] <;> omega))
              | (refine WD_false rfl ?hb ?_; (case hb => simp (disch := first | omega | (simp; done) | fail) [wrap64c, if_pos, if_neg, g_h0, lL, lA, c2b, q_x, g_x, l_x, r_x, z_x, q_y, g_y, l_y, r_y, z_y, e1, e3, e4, e25, e26, e27, hlt, hlt2, e54, e55, e56, lu, q_u, g_u, l_u, r_u, z_u, e7, e61, e62, e63, hlt3] <;> omega))
              | (refine hK.1 _ _ ?_; clear hK K)
              | (refine hK.2.1 _ _ ?_; clear hK K)
              | (refine hK.2 _ _ _ ?hne ?_; (case hne => simp; done); clear hK K)
              | (refine hK.2.2 _ _ _ ?hne ?_; (case hne => simp; done); clear hK K))
            refine hK.1 _ _ _ ?hm ?hf ⟨j + 1, rfl, rfl, (by first | (simp (disch := first | omega | (simp; done) | fail) [wrap64c, if_pos, if_neg, g_h0, lL, lA, c2b, q_x, g_x, l_x, r_x, z_x, q_y, g_y, l_y, r_y, z_y, e1, e3, e4, e25, e26, e27, hlt, hlt2, e54, e55, e56, lu, q_u, g_u, l_u, r_u, z_u, e7, e61, e62, e63, hlt3]; done) | (simp (disch := first | omega | (simp; done) | fail) [wrap64c, if_pos, if_neg, g_h0, lL, lA, c2b, q_x, g_x, l_x, r_x, z_x, q_y, g_y, l_y, r_y, z_y, e1, e3, e4, e25, e26, e27, hlt, hlt2, e54, e55, e56, lu, q_u, g_u, l_u, r_u, z_u, e7, e61, e62, e63, hlt3] <;> omega)), (by first | omega | (simp (disch := first | omega | (simp; done) | fail) [wrap64c, if_pos, if_neg, g_h0, lL, lA, c2b, q_x, g_x, l_x, r_x, z_x, q_y, g_y, l_y, r_y, z_y, e1, e3, e4, e25, e26, e27, hlt, hlt2, e54, e55, e56, lu, q_u, g_u, l_u, r_u, z_u, e7, e61, e62, e63, hlt3]; done) | (simp (disch := first | omega | (simp; done) | fail) [wrap64c, if_pos, if_neg, g_h0, lL, lA, c2b, q_x, g_x, l_x, r_x, z_x, q_y, g_y, l_y, r_y, z_y, e1, e3, e4, e25, e26, e27, hlt, hlt2, e54, e55, e56, lu, q_u, g_u, l_u, r_u, z_u, e7, e61, e62, e63, hlt3] <;> omega) | assumption), ?c_hy⟩
            (case hm => first | omega | (simp; omega))
            (case hf => simp [FrameL, g_h0, lL, lA, c2b, q_x, g_x, l_x, r_x, z_x, q_y, g_y, l_y, r_y, z_y, e1, e3, e4, e25, e26, e27, hlt, hlt2, e54, e55, e56, lu, q_u, g_u, l_u, r_u, z_u, e7, e61, e62, e63, hlt3, f1_1, f4_1, f54_1, f55_1])
            case c_hy =>
              exact (fun i hi hij k' hk' => by
                rcases Nat.lt_succ_iff_lt_or_eq.1 hij with q | q
                · exact hy i hi q k' hk'
                · subst q; exact hz k' hk' (by omega))
        · repeat (first
            | (refine WD_block (fun K hK => ?_))
            | (refine WD_seq (fun K hK => ?_))
            | (refine WD_region (fun K hK => ?_))
            | ((first | refine RunD_o rfl rfl rfl rfl rfl (fun X hX => ?_) | refine RunD_s rfl rfl rfl rfl (fun X hX => ?_) | (refine RunD_oT rfl rfl rfl rfl rfl rfl rfl ?hb (fun X hX => ?_); (case hb => simp (disch := first | omega | (simp; done) | fail) [wrap64c, if_pos, if_neg, g_h0, lL, lA, c2b, q_x, g_x, l_x, r_x, z_x, q_y, g_y, l_y, r_y, z_y, e1, e3, e4, e25, e26, e27, hlt, hlt2, e54, e55, e56] <;> omega))); (try dsimp only); simp (disch := first | omega | (simp; done) | fail) [wrap64c, if_pos, if_neg, g_h0, lL, lA, c2b, q_x, g_x, l_x, r_x, z_x, q_y, g_y, l_y, r_y, z_y, e1, e3, e4, e25, e26, e27, hlt, hlt2, e54, e55, e56]; refine hX _ _ ?_; clear hX X)
            | (refine RunD_oF rfl rfl rfl rfl rfl ?hb ?_; (case hb => simp (disch := first | omega | (simp; done) | fail) [wrap64c, if_pos, if_neg, g_h0, lL, lA, c2b, q_x, g_x, l_x, r_x, z_x, q_y, g_y, l_y, r_y, z_y, e1, e3, e4, e25, e26, e27, hlt, hlt2, e54, e55, e56] <;> omega))
            | ((first | refine RunD_oU (c := #[]) rfl rfl rfl rfl rfl ?hb ?_); (case hb => simp (disch := first | omega | (simp; done) | fail) [wrap64c, if_pos, if_neg, g_h0, lL, lA, c2b, q_x, g_x, l_x, r_x, z_x, q_y, g_y, l_y, r_y, z_y, e1, e3, e4, e25, e26, e27, hlt, hlt2, e54, e55, e56]; rfl))
            | (refine RunD_nil ?_; refine hK _ _ ?_; clear hK K)
            | (refine RunD_nil ?_)
            | (refine WD_skip ?_)
            | (refine WD_exit ?_)
            | (refine WD_ret ?_)
            | (refine WD_true rfl ?hb ?_; (case hb => simp (disch := first | omega | (simp; done) | fail) [wrap64c, if_pos, if_neg, g_h0, lL, lA, c2b, q_x, g_x, l_x, r_x, z_x, q_y, g_y, l_y, r_y, z_y, e1, e3, e4, e25, e26, e27, hlt, hlt2, e54, e55, e56] <;> omega))
            | (refine WD_false rfl ?hb ?_; (case hb => simp (disch := first | omega | (simp; done) | fail) [wrap64c, if_pos, if_neg, g_h0, lL, lA, c2b, q_x, g_x, l_x, r_x, z_x, q_y, g_y, l_y, r_y, z_y, e1, e3, e4, e25, e26, e27, hlt, hlt2, e54, e55, e56] <;> omega))
            | (refine hK.1 _ _ ?_; clear hK K)
            | (refine hK.2.1 _ _ ?_; clear hK K)
            | (refine hK.2 _ _ _ ?hne ?_; (case hne => simp; done); clear hK K)
            | (refine hK.2.2 _ _ _ ?hne ?_; (case hne => simp; done); clear hK K))
          have hgood : goodB L A = decide (A.sum ≤ 30) := by
            by_cases hs : A.sum ≤ 30
            · rw [goodB_true ⟨by omega, c2, c3, fun r hr => ?_, fun i hi k hk => ?_, fun i hi => ?_, hs⟩, decide_eq_true hs]
              · obtain ⟨i, hi, rfl⟩ := List.getElem_of_mem hr
                refine ⟨hrow i hi, fun x hx' => ?_⟩
                obtain ⟨k, hk, rfl⟩ := List.getElem_of_mem hx'
                exact (hy i hi (by omega) k hk).1
              · have hiL : i < L.length := by omega
                exact (hy i hiL (by omega) k (by rw [hrow i hiL]; exact hk)).2.1
              · have hiL : i < L.length := by omega
                exact (hy i hiL (by omega) i (by rw [hrow i hiL]; exact hi)).2.2 rfl
            · rw [goodB_false fun q => hs q.2.2.2.2.2.2, decide_eq_false hs]
          exact done_ret rfl (by rw [hgood]; simp [k0])
    · have c2b : ((L.length : Int) != (A.length : Int)) = true := by simp [c2]
      repeat (first
        | (refine WD_block (fun K hK => ?_))
        | (refine WD_seq (fun K hK => ?_))
        | (refine WD_region (fun K hK => ?_))
        | ((first | refine RunD_o rfl rfl rfl rfl rfl (fun X hX => ?_) | refine RunD_s rfl rfl rfl rfl (fun X hX => ?_) | (refine RunD_oT rfl rfl rfl rfl rfl rfl rfl ?hb (fun X hX => ?_); (case hb => simp (disch := first | omega | (simp; done) | fail) [wrap64c, if_pos, if_neg, g_h0, lL, lA, c2b] <;> omega))); (try dsimp only); simp (disch := first | omega | (simp; done) | fail) [wrap64c, if_pos, if_neg, g_h0, lL, lA, c2b]; refine hX _ _ ?_; clear hX X)
        | (refine RunD_oF rfl rfl rfl rfl rfl ?hb ?_; (case hb => simp (disch := first | omega | (simp; done) | fail) [wrap64c, if_pos, if_neg, g_h0, lL, lA, c2b] <;> omega))
        | ((first | refine RunD_oU (c := #[]) rfl rfl rfl rfl rfl ?hb ?_); (case hb => simp (disch := first | omega | (simp; done) | fail) [wrap64c, if_pos, if_neg, g_h0, lL, lA, c2b]; rfl))
        | (refine RunD_nil ?_; refine hK _ _ ?_; clear hK K)
        | (refine RunD_nil ?_)
        | (refine WD_skip ?_)
        | (refine WD_exit ?_)
        | (refine WD_ret ?_)
        | (refine WD_true rfl ?hb ?_; (case hb => simp (disch := first | omega | (simp; done) | fail) [wrap64c, if_pos, if_neg, g_h0, lL, lA, c2b] <;> omega))
        | (refine WD_false rfl ?hb ?_; (case hb => simp (disch := first | omega | (simp; done) | fail) [wrap64c, if_pos, if_neg, g_h0, lL, lA, c2b] <;> omega))
        | (refine hK.1 _ _ ?_; clear hK K)
        | (refine hK.2.1 _ _ ?_; clear hK K)
        | (refine hK.2 _ _ _ ?hne ?_; (case hne => simp; done); clear hK K)
        | (refine hK.2.2 _ _ _ ?hne ?_; (case hne => simp; done); clear hK K))
      exact done_ret rfl (by rw [goodB_false fun q => c2 q.2.1]; simp [k0])
  · have hc := within_ok h0 A.length 1 5
    rw [decide_eq_false c1] at hc
    refine RunD_c rfl rfl rfl rfl (by simp) (by simp) ?ha (hc) ?_
    (case ha => simp (disch := first | omega | (simp; done) | fail) [wrap64c, if_pos, if_neg, g_h0, lL, lA])
    repeat (first
      | (refine WD_block (fun K hK => ?_))
      | (refine WD_seq (fun K hK => ?_))
      | (refine WD_region (fun K hK => ?_))
      | ((first | refine RunD_o rfl rfl rfl rfl rfl (fun X hX => ?_) | refine RunD_s rfl rfl rfl rfl (fun X hX => ?_) | (refine RunD_oT rfl rfl rfl rfl rfl rfl rfl ?hb (fun X hX => ?_); (case hb => simp (disch := first | omega | (simp; done) | fail) [wrap64c, if_pos, if_neg, g_h0, lL, lA] <;> omega))); (try dsimp only); simp (disch := first | omega | (simp; done) | fail) [wrap64c, if_pos, if_neg, g_h0, lL, lA]; refine hX _ _ ?_; clear hX X)
      | (refine RunD_oF rfl rfl rfl rfl rfl ?hb ?_; (case hb => simp (disch := first | omega | (simp; done) | fail) [wrap64c, if_pos, if_neg, g_h0, lL, lA] <;> omega))
      | ((first | refine RunD_oU (c := #[]) rfl rfl rfl rfl rfl ?hb ?_); (case hb => simp (disch := first | omega | (simp; done) | fail) [wrap64c, if_pos, if_neg, g_h0, lL, lA]; rfl))
      | (refine RunD_nil ?_; refine hK _ _ ?_; clear hK K)
      | (refine RunD_nil ?_)
      | (refine WD_skip ?_)
      | (refine WD_exit ?_)
      | (refine WD_ret ?_)
      | (refine WD_true rfl ?hb ?_; (case hb => simp (disch := first | omega | (simp; done) | fail) [wrap64c, if_pos, if_neg, g_h0, lL, lA] <;> omega))
      | (refine WD_false rfl ?hb ?_; (case hb => simp (disch := first | omega | (simp; done) | fail) [wrap64c, if_pos, if_neg, g_h0, lL, lA] <;> omega))
      | (refine hK.1 _ _ ?_; clear hK K)
      | (refine hK.2.1 _ _ ?_; clear hK K)
      | (refine hK.2 _ _ _ ?hne ?_; (case hne => simp; done); clear hK K)
      | (refine hK.2.2 _ _ _ ?hne ?_; (case hne => simp; done); clear hK K))
    exact done_ret rfl (by rw [goodB_false fun q => c1 (by have := q.1; omega)]; simp [k0])
end Go.Proofs.Ytdadnaliiegceaa
