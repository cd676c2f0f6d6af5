/- Copies, comparisons and marks of lists and rows of whole numbers. -/
import Derived.Test.YtnjabaeajjhliaaA1
namespace Go.Proofs.Ytnjabaeajjhliaa
set_option linter.unusedSimpArgs false
set_option linter.unusedVariables false
open Go Go.Eng
attribute [local irreducible] WD RunD PreD Runs CallOK

theorem toIntS_ok (h : Hp) (v : Value) (xs : List Int) (hv : Ints h v xs) (hl : xs.length < 2 ^ 40) : ∃ v' h', CallOK Try.prog 47 #[v] h v' h' ∧ Adds h h' ∧ IntsO (Btw h.next h'.next) h' v' xs := by
  refine callY_L (args := [v]) 22 _ [.tmp 2] Try.func47 rfl rfl rfl ?_
  have hL := hv.lenD
  try simp (disch := first | omega | (simp; done) | fail) [wrap64c, if_pos, if_neg, hL, (by omega : (xs.length : Int) < 140737488355328), (by omega : (8 : Int) * xs.length ≤ 281474976710656)]
  refine WD_loopC [0, 3] (fun m tm h' => ∃ j cs, m = xs.length - j ∧ tm 4 = .int .i64 (j : Int) ∧ (j ≤ xs.length) ∧ (Adds h h') ∧ (h.next < h'.next) ∧ (h'.get h.next = .cells cs true true 1) ∧ (cs.length = xs.length) ∧ (∀ i (hi : i < xs.length), i < j → cs[i]? = some (.int .i64 xs[i]))) _ ⟨0, _, rfl, (by simp (disch := first | omega | (simp; done) | fail) [wrap64c, if_pos, if_neg, hL]), (by first | omega | assumption | (simp (disch := first | omega | (simp; done) | fail) [wrap64c, if_pos, if_neg, hL] <;> omega)), (by first | exact aK | exact kK), (by simp), (by simp; rfl), (by simp), (by intro i hi h0; omega)⟩ ?_
  rintro m tm h' hFr ⟨j, cs, rfl, e4, hj, ha, hn, hg, hcs, hx⟩
  simp only [FrameL] at hFr
  obtain ⟨f0_0, f3_0, -⟩ := hFr
  try simp (disch := first | omega | (simp; done) | fail) [wrap64c, if_pos, if_neg, hL] at f0_0 f3_0
  have e0 := f0_0
  have e3 := f3_0
  by_cases hlt : j < xs.length
  · obtain ⟨o_x, i_x, c_x, cs_x, own_x, ex_x, es_x, q_x, b_x, g_x, l_x, r_x⟩ := (hv.keep ha.1).open ((by omega))
    have z_x : ∀ h2 : i_x < cs_x.length, cs_x[i_x] = _ := fun h2 => r_x 0 ((by omega)) h2
    try simp (disch := first | omega | (simp; done) | fail) [wrap64c, if_pos, if_neg, hL, e0, e3, e4, hg, hcs, hlt, q_x, g_x, l_x, r_x, z_x]
    refine loopK_next _ ?hm ?hf ⟨j + 1, cs.set j (.int .i64 xs[j]), rfl, (by simp (disch := first | omega | (simp; done) | fail) [wrap64c, if_pos, if_neg, hL, e0, e3, e4, hg, hcs, hlt, q_x, g_x, l_x, r_x, z_x] <;> omega), (by first | omega | assumption | (simp (disch := first | omega | (simp; done) | fail) [wrap64c, if_pos, if_neg, hL, e0, e3, e4, hg, hcs, hlt, q_x, g_x, l_x, r_x, z_x] <;> omega)), (by first | exact aK | exact kK), (by simpa using hn), (by simp [putCells_one, hcs, hlt]), (by simp [hcs]), ?c_hx⟩
    (case hm => first | omega | (simp; omega))
    (case hf => simp [FrameL, hL, e0, e3, e4, hg, hcs, hlt, q_x, g_x, l_x, r_x, z_x, f0_0, f3_0])
    case c_hx =>
      exact (fun i hi hij => by
        rw [List.getElem?_set]
        by_cases e : j = i
        · subst e; simp [hcs, hlt]
        · rw [if_neg e]; exact hx i hi (by omega))
  · try simp (disch := first | omega | (simp; done) | fail) [wrap64c, if_pos, if_neg, hL, e0, e3, e4, hg, hcs, hlt]
    refine done_ret rfl ⟨ha, .mk (ex := true) ⟨Nat.le_refl _, hn⟩ hn (by omega) ?_⟩
    rw [hg]
    congr 1
    apply List.ext_getElem?
    intro i
    by_cases hi : i < xs.length
    · rw [hx i hi (by omega)]; simp [hi]
    · rw [List.getElem?_eq_none (by omega), List.getElem?_eq_none (by simpa using hi)]

theorem eqIntS_ok (h : Hp) (v w : Value) (xs ys : List Int) (hv : Ints h v xs) (hw : Ints h w ys) : CallOK Try.prog 49 #[v, w] h (.bool (decide (xs = ys))) h := by
  refine callY_P 26 _ [.tmp 4] Try.func49 rfl rfl rfl (by first | rfl | simp) ?_
  have hs := hv.len
  have hL := hv.lenD
  have hM := hw.lenD
  by_cases hl : xs.length = ys.length
  · have hlb : ((xs.length : Int) != (ys.length : Int)) = false := by simp [hl]
    try simp (disch := first | omega | (simp; done) | fail) [wrap64c, if_pos, if_neg, hL, hM, hlb]
    refine WD_loopC [0, 1] (fun m tm h' => ∃ j, m = xs.length - j ∧ h = h' ∧ tm 5 = .int .i64 (j : Int) ∧ (j ≤ xs.length) ∧ (xs.take j = ys.take j)) _ ⟨0, rfl, rfl, (by simp (disch := first | omega | (simp; done) | fail) [wrap64c, if_pos, if_neg, hL, hM, hlb]), (by first | omega | assumption | (simp (disch := first | omega | (simp; done) | fail) [wrap64c, if_pos, if_neg, hL, hM, hlb] <;> omega)), (by first | omega | assumption | (simp (disch := first | omega | (simp; done) | fail) [wrap64c, if_pos, if_neg, hL, hM, hlb] <;> omega))⟩ ?_
    rintro m tm h' hFr ⟨j, rfl, rfl, e5, hj, hx⟩
    simp only [FrameL] at hFr
    obtain ⟨f0_0, f1_0, -⟩ := hFr
    try simp (disch := first | omega | (simp; done) | fail) [wrap64c, if_pos, if_neg, hL, hM, hlb] at f0_0 f1_0
    have e0 := f0_0
    have e1 := f1_0
    by_cases hlt : j < xs.length
    · have hlt2 : j < ys.length := by omega
      obtain ⟨o_x, i_x, c_x, cs_x, own_x, ex_x, es_x, q_x, b_x, g_x, l_x, r_x⟩ := hv.open ((by omega))
      have z_x : ∀ h2 : i_x < cs_x.length, cs_x[i_x] = _ := fun h2 => r_x 0 ((by omega)) h2
      obtain ⟨o_y, i_y, c_y, cs_y, own_y, ex_y, es_y, q_y, b_y, g_y, l_y, r_y⟩ := hw.open ((by omega))
      have z_y : ∀ h2 : i_y < cs_y.length, cs_y[i_y] = _ := fun h2 => r_y 0 ((by omega)) h2
      try simp (disch := first | omega | (simp; done) | fail) [wrap64c, if_pos, if_neg, hL, hM, hlb, e0, e1, e5, hlt, hlt2, q_x, g_x, l_x, r_x, z_x, q_y, g_y, l_y, r_y, z_y]
      refine WD_drawC 9 rfl (by kernel_rfl) ?_
      try simp (disch := first | omega | (simp; done) | fail) [wrap64c, if_pos, if_neg, hL, hM, hlb, e0, e1, e5, hlt, hlt2, q_x, g_x, l_x, r_x, z_x, q_y, g_y, l_y, r_y, z_y]
      by_cases hq : xs[j] = ys[j]
      · have hqb : (xs[j] != ys[j]) = false := by simp [hq]
        try simp (disch := first | omega | (simp; done) | fail) [wrap64c, if_pos, if_neg, hL, hM, hlb, e0, e1, e5, hlt, hlt2, q_x, g_x, l_x, r_x, z_x, q_y, g_y, l_y, r_y, z_y, hqb]
        refine loopK_next _ ?hm ?hf ⟨j + 1, rfl, rfl, (by simp (disch := first | omega | (simp; done) | fail) [wrap64c, if_pos, if_neg, hL, hM, hlb, e0, e1, e5, hlt, hlt2, q_x, g_x, l_x, r_x, z_x, q_y, g_y, l_y, r_y, z_y, hqb] <;> omega), (by first | omega | assumption | (simp (disch := first | omega | (simp; done) | fail) [wrap64c, if_pos, if_neg, hL, hM, hlb, e0, e1, e5, hlt, hlt2, q_x, g_x, l_x, r_x, z_x, q_y, g_y, l_y, r_y, z_y, hqb] <;> omega)), (by rw [List.take_succ_eq_append_getElem hlt, List.take_succ_eq_append_getElem hlt2, hx, hq])⟩
        (case hm => first | omega | (simp; omega))
        (case hf => simp [FrameL, hL, hM, hlb, e0, e1, e5, hlt, hlt2, q_x, g_x, l_x, r_x, z_x, q_y, g_y, l_y, r_y, z_y, hqb, f0_0, f1_0])
      · have hqb : (xs[j] != ys[j]) = true := by simp [hq]
        try simp (disch := first | omega | (simp; done) | fail) [wrap64c, if_pos, if_neg, hL, hM, hlb, e0, e1, e5, hlt, hlt2, q_x, g_x, l_x, r_x, z_x, q_y, g_y, l_y, r_y, z_y, hqb]
        have : xs ≠ ys := fun q => hq (by subst q; rfl)
        exact done_ret rfl (by simp [this])
    · try simp (disch := first | omega | (simp; done) | fail) [wrap64c, if_pos, if_neg, hL, hM, hlb, e0, e1, e5, hlt]
      rw [show j = xs.length by omega, List.take_length, hl, List.take_length] at hx
      exact done_ret rfl (by simp [hx])
  · have hlb : ((xs.length : Int) != (ys.length : Int)) = true := by simp [hl]
    try simp (disch := first | omega | (simp; done) | fail) [wrap64c, if_pos, if_neg, hL, hM, hlb]
    have : xs ≠ ys := fun q => hl (by rw [q])
    exact done_ret rfl (by simp [this])

/-- Numbers in a row, from k on. -/
def mkL (k : Int) (n : Nat) : List Int := (List.range n).map fun (i : Nat) => k + (i : Int)
@[simp] theorem mkL_length (k : Int) (n : Nat) : (mkL k n).length = n := by simp [mkL]
theorem mkL_get (k : Int) (n i : Nat) (h : i < (mkL k n).length) : (mkL k n)[i] = k + i := by simp [mkL]

theorem markIntS_ok (S : Nat → Prop) (h : Hp) (v : Value) (xs : List Int) (k : Int) (hv : IntsO S h v xs) (h0 : 0 ≤ k) (h1 : k < 2 ^ 50) (hl : xs.length < 2 ^ 50) :
    ∃ v' h', CallOK Try.prog 52 #[v, .int .i64 k] h v' h' ∧ v' = .int .i64 (k + xs.length) ∧ h'.next = h.next ∧ Upd S h h' ∧ IntsO S h' v (mkL k xs.length) := by
  refine callY_L (args := [v, .int .i64 k]) 19 _ [.tmp 4] Try.func52 rfl rfl rfl ?_
  try simp (disch := first | omega | (simp; done) | fail) [wrap64c, if_pos, if_neg]
  refine WD_loopC [0] (fun m tm h' => ∃ j ys, m = xs.length - j ∧ tm 1 = .int .i64 (k + (j : Int)) ∧ tm 5 = .int .i64 (j : Int) ∧ (j ≤ xs.length) ∧ (h'.next = h.next) ∧ (Upd S h h') ∧ (IntsO S h' v ys) ∧ (ys.length = xs.length) ∧ (∀ i (hi : i < ys.length), i < j → ys[i] = k + i)) _ ⟨0, xs, rfl, (by simp (disch := first | omega | (simp; done) | fail) [wrap64c, if_pos, if_neg]), (by simp (disch := first | omega | (simp; done) | fail) [wrap64c, if_pos, if_neg]), (by first | omega | assumption | (simp (disch := first | omega | (simp; done) | fail) [wrap64c, if_pos, if_neg] <;> omega)), (by first | omega | assumption | (simp (disch := first | omega | (simp; done) | fail) [wrap64c, if_pos, if_neg] <;> omega)), (Upd.refl S h), hv, rfl, (by intro i hi h0; omega)⟩ ?_
  rintro m tm h' hFr ⟨j, ys, rfl, e1, e5, hj, hn, hu, hy, hyl, hx⟩
  simp only [FrameL] at hFr
  obtain ⟨f0_0, -⟩ := hFr
  try simp (disch := first | omega | (simp; done) | fail) [wrap64c, if_pos, if_neg] at f0_0
  have e0 := f0_0
  have hL := hy.lenD
  by_cases hlt : j < xs.length
  · obtain ⟨o, i, c, cs, ex, q, So, bo, g, l, r⟩ := hy.open (by omega)
    try simp (disch := first | omega | (simp; done) | fail) [wrap64c, if_pos, if_neg, e0, e1, e5, hL, hlt, q, g, l, r, hyl]
    refine loopK_next _ ?hm ?hf ⟨j + 1, ys.set j (k + j), rfl, (by simp (disch := first | omega | (simp; done) | fail) [wrap64c, if_pos, if_neg, e0, e1, e5, hL, hlt, q, g, l, r] <;> omega), (by simp (disch := first | omega | (simp; done) | fail) [wrap64c, if_pos, if_neg, e0, e1, e5, hL, hlt, q, g, l, r] <;> omega), (by first | omega | assumption | (simp (disch := first | omega | (simp; done) | fail) [wrap64c, if_pos, if_neg, e0, e1, e5, hL, hlt, q, g, l, r] <;> omega)), (by simpa using hn), (hu.put So _), (hy.write q (by omega) g _), (by simpa using hyl), ?c_hx⟩
    (case hm => first | omega | (simp; omega))
    (case hf => simp [FrameL, e0, e1, e5, hL, hlt, q, g, l, r, f0_0])
    case c_hx =>
      exact (fun i hi hij => by
        rw [List.getElem_set]
        by_cases e : j = i
        · rw [if_pos e, e]
        · rw [if_neg e]; exact hx i (by simpa using hi) (by omega))
  · try simp (disch := first | omega | (simp; done) | fail) [wrap64c, if_pos, if_neg, e0, e1, e5, hL, hlt, hyl]
    have hj' : j = xs.length := by omega
    have e : ys = mkL k xs.length := List.ext_getElem (by simp [hyl]) fun i h1 h2 => by rw [mkL_get]; exact hx i h1 (by omega)
    exact done_ret rfl ⟨by simp [hj'], hn, hu, e ▸ hy⟩

theorem heldIntS_ok (h : Hp) (v : Value) (n : Nat) (k : Int) (hv : Ints h v (mkL k n)) (h0 : 0 ≤ k) (h1 : k < 2 ^ 50) (hl : n < 2 ^ 50) : CallOK Try.prog 53 #[v, .int .i64 k] h (.int .i64 (k + n)) h := by
  refine callY_P 21 _ [.tmp 4] Try.func53 rfl rfl rfl (by first | rfl | simp) ?_
  have hL := hv.lenD
  have hm := mkL_length k n
  have hgt := mkL_get k n
  try simp (disch := first | omega | (simp; done) | fail) [wrap64c, if_pos, if_neg, hL, hm, hgt]
  refine WD_loopC [0] (fun m tm h' => ∃ j, m = n - j ∧ h = h' ∧ tm 1 = .int .i64 (k + (j : Int)) ∧ tm 5 = .int .i64 (j : Int) ∧ (j ≤ n)) _ ⟨0, rfl, rfl, (by simp (disch := first | omega | (simp; done) | fail) [wrap64c, if_pos, if_neg, hL, hm, hgt]), (by simp (disch := first | omega | (simp; done) | fail) [wrap64c, if_pos, if_neg, hL, hm, hgt]), (by first | omega | assumption | (simp (disch := first | omega | (simp; done) | fail) [wrap64c, if_pos, if_neg, hL, hm, hgt] <;> omega))⟩ ?_
  rintro m tm h' hFr ⟨j, rfl, rfl, e1, e5, hj⟩
  simp only [FrameL] at hFr
  obtain ⟨f0_0, -⟩ := hFr
  try simp (disch := first | omega | (simp; done) | fail) [wrap64c, if_pos, if_neg, hL, hm, hgt] at f0_0
  have e0 := f0_0
  by_cases hlt : j < n
  · obtain ⟨o_x, i_x, c_x, cs_x, own_x, ex_x, es_x, q_x, b_x, g_x, l_x, r_x⟩ := hv.open ((by omega))
    have z_x : ∀ h2 : i_x < cs_x.length, cs_x[i_x] = _ := fun h2 => r_x 0 ((by omega)) h2
    try simp (disch := first | omega | (simp; done) | fail) [wrap64c, if_pos, if_neg, hL, hm, hgt, e0, e1, e5, hlt, q_x, g_x, l_x, r_x, z_x]
    refine loopK_next _ ?hm ?hf ⟨j + 1, rfl, rfl, (by simp (disch := first | omega | (simp; done) | fail) [wrap64c, if_pos, if_neg, hL, hm, hgt, e0, e1, e5, hlt, q_x, g_x, l_x, r_x, z_x] <;> omega), (by simp (disch := first | omega | (simp; done) | fail) [wrap64c, if_pos, if_neg, hL, hm, hgt, e0, e1, e5, hlt, q_x, g_x, l_x, r_x, z_x] <;> omega), (by first | omega | assumption | (simp (disch := first | omega | (simp; done) | fail) [wrap64c, if_pos, if_neg, hL, hm, hgt, e0, e1, e5, hlt, q_x, g_x, l_x, r_x, z_x] <;> omega))⟩
    (case hm => first | omega | (simp; omega))
    (case hf => simp [FrameL, hL, hm, hgt, e0, e1, e5, hlt, q_x, g_x, l_x, r_x, z_x, f0_0])
  · try simp (disch := first | omega | (simp; done) | fail) [wrap64c, if_pos, if_neg, hL, hm, hgt, e0, e1, e5, hlt]
    exact done_ret rfl (by simp [show j = n by omega])
end Go.Proofs.Ytnjabaeajjhliaa
