/- Choices; the functions that tell full runs. -/
import Derived.Test.YtnnjehonbolliaaB6
import Derived.Test.YtnnjehonbolliaaB4
namespace Go.Proofs.Ytnnjehonbolliaa
set_option linter.unusedSimpArgs false
set_option linter.unusedVariables false
set_option maxHeartbeats 4000000
open Go Go.Eng
attribute [local irreducible] WD RunD PreD Runs CallOK

/-- The first index for which something holds, or -1. -/
def idxW (p : Int → Bool) : List Int → Int
  | [] => -1
  | x :: l => if p x then 0 else if idxW p l < 0 then -1 else idxW p l + 1
theorem idxW_range (p : Int → Bool) : ∀ (l : List Int), -1 ≤ idxW p l ∧ idxW p l < l.length
  | [] => by simp [idxW]
  | x :: l => by
    have := idxW_range p l
    unfold idxW
    split
    · simp <;> omega
    · split <;> simp <;> omega
theorem idxW_at (p : Int → Bool) : ∀ (l : List Int) (j : Nat) (hj : j < l.length), (∀ i (hi : i < l.length), i < j → p l[i] = false) → p l[j] = true → idxW p l = j
  | [], _, hj, _, _ => absurd hj (by simp)
  | x :: l, 0, hj, h1, h2 => by simp at h2; simp [idxW, h2]
  | x :: l, j + 1, hj, h1, h2 => by
    have h0 := h1 0 (by simp) (by omega)
    simp at h0
    have := idxW_at p l j (by simpa using hj) (fun i hi hij => by have := h1 (i + 1) (by simpa using hi) (by omega); simpa using this) (by simpa using h2)
    simp [idxW, h0, this]; omega
theorem idxW_none (p : Int → Bool) : ∀ (l : List Int), (∀ x ∈ l, p x = false) → idxW p l = -1
  | [], _ => rfl
  | x :: l, h => by
    have := idxW_none p l fun y hy => h y (List.mem_cons_of_mem _ hy)
    simp [idxW, h x (List.mem_cons_self), this]
theorem idxW_neg (p : Int → Bool) : ∀ (l : List Int), idxW p l < 0 → ∀ x ∈ l, p x = false
  | [], _, x, hx => by cases hx
  | y :: l, h, x, hx => by
    unfold idxW at h
    split at h
    · omega
    · rename_i hy
      split at h
      · rename_i hl
        rcases List.mem_cons.1 hx with rfl | hx
        · simpa using hy
        · exact idxW_neg p l hl x hx
      · omega

theorem indexFuncW_ok (h : Hp) (v : Value) (xs : List Int) (f : FuncId) (fst cap : Array Value) (p : Int → Bool) (hv : Ints h v xs) (hf : fnOK Try.prog f = true)
    (hc : ∀ x ∈ xs, CallOK Try.prog f (fst ++ #[.int .i64 x] ++ cap) h (.bool (p x)) h) : CallOK Try.prog 70 #[v, .func (.func f) fst cap] h (.int .i64 (idxW p xs)) h := by
  have hf0 := hf
  refine callY_P 19 _ [.tmp 4] Try.func70 rfl rfl rfl (by first | rfl | simp) ?_
  have hvl := hv.len
  have lv := hv.lenD
  try simp (disch := first | omega | (simp; done) | fail) [wrap64c, if_pos, if_neg, hf0, lv]
  refine WD_loopC [0, 1, 7] (fun m tm h' => ∃ j, m = xs.length - j ∧ h = h' ∧ tm 8 = .int .i64 (j : Int) ∧ (j ≤ xs.length) ∧ (∀ i (hi : i < xs.length), i < j → p xs[i] = false)) _ ⟨0, rfl, rfl, (by simp (disch := first | omega | (simp; done) | fail) [wrap64c, if_pos, if_neg, hf0, lv]), (by first | omega | assumption | (simp (disch := first | omega | (simp; done) | fail) [wrap64c, if_pos, if_neg, hf0, lv] <;> omega)), (by intro i hi h0; omega)⟩ ?_
  rintro m tm h' hFr ⟨j, rfl, rfl, e8, hj, hx⟩
  simp only [FrameL] at hFr
  obtain ⟨f0_0, f1_0, f7_0, -⟩ := hFr
  try simp (disch := first | omega | (simp; done) | fail) [wrap64c, if_pos, if_neg, hf0, lv] at f0_0 f1_0 f7_0
  have e0 := f0_0
  have e1 := f1_0
  have e7 := f7_0
  by_cases hlt : j < xs.length
  · obtain ⟨o_x, i_x, c_x, cs_x, own_x, ex_x, es_x, q_x, b_x, g_x, l_x, r_x⟩ := hv.open ((by omega))
    have z_x : ∀ h2 : i_x < cs_x.length, cs_x[i_x] = _ := fun h2 => r_x 0 ((by omega)) h2
    try simp (disch := first | omega | (simp; done) | fail) [wrap64c, if_pos, if_neg, hf0, lv, e0, e1, e7, e8, hlt, q_x, g_x, l_x, r_x, z_x]
    have hf1 := hf
    refine callG_f (fst := fst) (cap := cap) (by simp) (by simp) ?hf ?hk ?ha (hc _ (List.getElem_mem hlt)) ?_
    (case hf => simp (disch := first | omega | (simp; done) | fail) [wrap64c, if_pos, if_neg, hf0, lv, e0, e1, e7, e8, hlt, q_x, g_x, l_x, r_x, z_x, hf1]; try rfl)
    (case hk => simp (disch := first | omega | (simp; done) | fail) [wrap64c, if_pos, if_neg, hf0, lv, e0, e1, e7, e8, hlt, q_x, g_x, l_x, r_x, z_x, hf1])
    (case ha => simp (disch := first | omega | (simp; done) | fail) [wrap64c, if_pos, if_neg, hf0, lv, e0, e1, e7, e8, hlt, q_x, g_x, l_x, r_x, z_x, hf1])
    by_cases hp : p xs[j] = true
    · try simp (disch := first | omega | (simp; done) | fail) [wrap64c, if_pos, if_neg, hf0, lv, e0, e1, e7, e8, hlt, q_x, g_x, l_x, r_x, z_x, hf1, hp]
      exact done_ret rfl (by simp [idxW_at p xs j hlt hx hp])
    · have hp' : p xs[j] = false := by simpa using hp
      try simp (disch := first | omega | (simp; done) | fail) [wrap64c, if_pos, if_neg, hf0, lv, e0, e1, e7, e8, hlt, q_x, g_x, l_x, r_x, z_x, hf1, hp, hp']
      refine loopK_next _ ?hm ?hf ⟨j + 1, rfl, rfl, (by simp (disch := first | omega | (simp; done) | fail) [wrap64c, if_pos, if_neg, hf0, lv, e0, e1, e7, e8, hlt, q_x, g_x, l_x, r_x, z_x, hf1, hp, hp'] <;> omega), (by first | omega | assumption | (simp (disch := first | omega | (simp; done) | fail) [wrap64c, if_pos, if_neg, hf0, lv, e0, e1, e7, e8, hlt, q_x, g_x, l_x, r_x, z_x, hf1, hp, hp'] <;> omega)), ?c_hx⟩
      (case hm => first | omega | (simp; omega))
      (case hf => simp [FrameL, hf0, lv, e0, e1, e7, e8, hlt, q_x, g_x, l_x, r_x, z_x, hf1, hp, hp', f0_0, f1_0, f7_0])
      case c_hx =>
        exact (fun i hi hij => by
          rcases Nat.lt_succ_iff_lt_or_eq.1 hij with q | q
          · exact hx i hi q
          · subst q; exact hp')
  · try simp (disch := first | omega | (simp; done) | fail) [wrap64c, if_pos, if_neg, hf0, lv, e0, e1, e7, e8, hlt]
    have : idxW p xs = -1 := idxW_none p xs fun x hx' => by
      obtain ⟨i, hi, rfl⟩ := List.getElem_of_mem hx'
      exact hx i hi (by omega)
    exact done_ret rfl (by simp [this])

theorem containsFuncW_ok (h : Hp) (v : Value) (xs : List Int) (f : FuncId) (fst cap : Array Value) (p : Int → Bool) (hv : Ints h v xs) (hf : fnOK Try.prog f = true)
    (hc : ∀ x ∈ xs, CallOK Try.prog f (fst ++ #[.int .i64 x] ++ cap) h (.bool (p x)) h) : CallOK Try.prog 67 #[v, .func (.func f) fst cap] h (.bool (decide (0 ≤ idxW p xs))) h := by
  refine callY_P 9 _ [.tmp 4] Try.func67 rfl rfl rfl (by first | rfl | simp) ?_
  try simp (disch := first | omega | (simp; done) | fail) [wrap64c, if_pos, if_neg]
  refine callG_c (by simp) (by simp) ?ha (indexFuncW_ok h v xs f fst cap p hv hf hc) ?_
  (case ha => simp (disch := first | omega | (simp; done) | fail) [wrap64c, if_pos, if_neg])
  try simp (disch := first | omega | (simp; done) | fail) [wrap64c, if_pos, if_neg]
  exact done_ret rfl (by simp)

theorem choice1_ok (h : Hp) (x : Int) : CallOK Try.prog 94 #[.int .i64 x] h (.bool (decide (x < 0))) h := by
  refine callY_P 5 _ [.tmp 2] Try.func94 rfl rfl rfl (by first | rfl | simp) ?_
  try simp (disch := first | omega | (simp; done) | fail) [wrap64c, if_pos, if_neg]
  exact done_ret rfl (by simp)

/-- Whether numbers are choices. -/
def chW (cs : List Int) (most : Int) : Bool := decide ((cs.length : Int) ≤ most ∧ ∀ x ∈ cs, 0 ≤ x)
theorem imAreChoices_ok (h : Hp) (v : Value) (cs : List Int) (most : Int) (hv : Ints h v cs) : CallOK Try.prog 44 #[v, .int .i64 most] h (.bool (chW cs most)) h := by
  refine callY_P 14 _ [.tmp 4] Try.func44 rfl rfl rfl (by first | rfl | simp) ?_
  have lv := hv.lenD
  by_cases c : (cs.length : Int) ≤ most
  · try simp (disch := first | omega | (simp; done) | fail) [wrap64c, if_pos, if_neg, lv, c]
    have hcf := containsFuncW_ok h v cs 94 #[] #[] (fun x => decide (x < 0)) hv (by simp) (fun x _ => by simpa using choice1_ok h x)
    by_cases c2 : ∀ x ∈ cs, 0 ≤ x
    · rw [idxW_none _ cs (fun x hx => by simpa using c2 x hx)] at hcf
      refine callG_c (by simp) (by simp) ?ha (hcf) ?_
      (case ha => simp (disch := first | omega | (simp; done) | fail) [wrap64c, if_pos, if_neg, lv, c])
      try simp (disch := first | omega | (simp; done) | fail) [wrap64c, if_pos, if_neg, lv, c]
      exact done_ret rfl (by simp [chW, c]; exact c2)
    · have c3 : 0 ≤ idxW (fun x => decide (x < 0)) cs := by
        rcases Int.lt_or_le (idxW (fun x => decide (x < 0)) cs) 0 with hn | hn
        · exact absurd (fun x hx => by simpa using idxW_neg _ cs hn x hx) c2
        · exact hn
      rw [decide_eq_true c3] at hcf
      refine callG_c (by simp) (by simp) ?ha (hcf) ?_
      (case ha => simp (disch := first | omega | (simp; done) | fail) [wrap64c, if_pos, if_neg, lv, c])
      try simp (disch := first | omega | (simp; done) | fail) [wrap64c, if_pos, if_neg, lv, c]
      exact done_ret rfl (by simp [chW, c2])
  · try simp (disch := first | omega | (simp; done) | fail) [wrap64c, if_pos, if_neg, lv, c]
    exact done_ret rfl (by simp [chW, c])

noncomputable def byR (L : List (List Int)) (A cs : List Int) : Option (List Int × List Int) := if chW cs 60 = true then fullR L A cs else none
/-- What a function on chips and a list with a run and a truth as results is to do. -/
def FnCIL (f : FuncId) (R : List (List Int) → List Int → List Int → Option (List Int × List Int)) : Prop :=
  ∀ (h : Hp) (v w : Value) (L : List (List Int)) (A ms : List Int), Chips h v L A → Ints h w ms →
    ∃ v' h', CallOK Try.prog f #[v, w] h v' h' ∧ Adds h h' ∧ ∃ u, v' = .tuple #[u, .bool (R L A ms).isSome] ∧ IntsO (Btw h.next h'.next) h' u (fRun (R L A ms))
theorem chW_spec {cs : List Int} {m : Int} (h : chW cs m = true) : (cs.length : Int) ≤ m ∧ ∀ x ∈ cs, 0 ≤ x := by unfold chW at h; exact of_decide_eq_true h

theorem imRunBy_ok : FnCIL 7 byR := by
  intro h v w L A cs hv hw
  refine callY_L (args := [v, w]) 21 _ [.tmp 4, .tmp 5] Try.func7 rfl rfl rfl ?_
  have hv0 := hv
  obtain ⟨a, b, rfl, hL, hA⟩ := hv
  refine WD_first ?_
  try simp (disch := first | omega | (simp; done) | fail) [wrap64c, if_pos, if_neg]
  refine stopK_heap fun h0 q_h0 => ?_
  refine stopK_go ?_
  have g_h0 : h0.get h.next = .cells [a, b] true true 1 := by simp [q_h0]
  have k_h0 : Adds h h0 := by rw [q_h0]; exact (by first | exact aK | exact kK)
  have n_h0 : h.next < h0.next := by simp [q_h0]; try omega
  try simp (disch := first | omega | (simp; done) | fail) [wrap64c, if_pos, if_neg, g_h0]
  refine callG_c (by simp) (by simp) ?ha (imAreChoices_ok h0 w cs 60 (hw.keep k_h0.1)) ?_
  (case ha => simp (disch := first | omega | (simp; done) | fail) [wrap64c, if_pos, if_neg, g_h0])
  by_cases c : chW cs 60 = true
  · have eB : byR L A cs = fullR L A cs := if_pos c
    try simp (disch := first | omega | (simp; done) | fail) [wrap64c, if_pos, if_neg, g_h0, c]
    obtain ⟨v1, h1, hc1, ha1, u1, u2, rfl, hu1, hu2⟩ := imFull_ok h0 _ w L A cs (hv0.keep k_h0.1) (hw.keep k_h0.1) (chW_spec c).2
    obtain ⟨p, q, S1, S2, rfl, hp, hq, s1, s2, s3⟩ := hu2
    refine callG_c (by simp) (by simp) ?ha (hc1) ?_
    (case ha => simp (disch := first | omega | (simp; done) | fail) [wrap64c, if_pos, if_neg, g_h0, c])
    have ntp := hp.nt
    have csp := hp.cs
    have ntq := hq.nt
    have csq := hq.cs
    have n1 := ha1.1.1
    have K1 := k_h0.trans ha1
    try simp (disch := first | omega | (simp; done) | fail) [wrap64c, if_pos, if_neg, g_h0, c, ntp, csp, ntq, csq, putCells]
    exact done_ret rfl ⟨(by first | exact aK | exact kK), u1, by rw [eB]; rfl, by rw [eB]; exact (hu1.same (Same.put (Same.trans (Same.refl _ _) (Same.of_keeps (Keeps.alloc _ _))) (by unfold Btw; omega) _)).sub fun x hx => by unfold Btw at *; simp; omega⟩
  · have c' : chW cs 60 = false := by simpa using c
    have eB : byR L A cs = none := if_neg c
    try simp (disch := first | omega | (simp; done) | fail) [wrap64c, if_pos, if_neg, g_h0, c, c']
    exact done_ret rfl ⟨k_h0, _, by rw [eB]; rfl, by rw [eB]; exact .nil _ _⟩

theorem spRunBy_ok : FnCIL 8 byR := by
  intro h v w L A cs hv hw
  refine callY_L (args := [v, w]) 37 _ [.tmp 4, .tmp 5] Try.func8 rfl rfl rfl ?_
  have hv0 := hv
  have hwl := hw.len
  have lw := hw.lenD
  obtain ⟨a, b, rfl, hL, hA⟩ := hv
  refine WD_first ?_
  try simp (disch := first | omega | (simp; done) | fail) [wrap64c, if_pos, if_neg, lw]
  refine stopK_heap fun h0 q_h0 => ?_
  refine stopK_go ?_
  have g_h0 : h0.get h.next = .cells [a, b] true true 1 := by simp [q_h0]
  have k_h0 : Adds h h0 := by rw [q_h0]; exact (by first | exact aK | exact kK)
  have n_h0 : h.next < h0.next := by simp [q_h0]; try omega
  try simp (disch := first | omega | (simp; done) | fail) [wrap64c, if_pos, if_neg, lw, g_h0]
  refine callG_c (by simp) (by simp) ?ha (waGood_ok h0 _ L A (hv0.keep k_h0.1)) ?_
  (case ha => simp (disch := first | omega | (simp; done) | fail) [wrap64c, if_pos, if_neg, lw, g_h0])
  by_cases c1 : goodB L A = true
  · by_cases c2 : cs.length ≤ 60
    · try simp (disch := first | omega | (simp; done) | fail) [wrap64c, if_pos, if_neg, lw, g_h0, c1, c2]
      refine WD_loopC [1, 2, 19, 20] (fun m tm h' => ∃ j, m = cs.length - j ∧ h0 = h' ∧ tm 21 = .int .i64 (j : Int) ∧ (j ≤ cs.length) ∧ (∀ i (hi : i < cs.length), i < j → 0 ≤ cs[i])) _ ⟨0, rfl, rfl, (by simp (disch := first | omega | (simp; done) | fail) [wrap64c, if_pos, if_neg, lw, g_h0, c1, c2]), (by first | omega | assumption | (simp (disch := first | omega | (simp; done) | fail) [wrap64c, if_pos, if_neg, lw, g_h0, c1, c2] <;> omega)), (by intro i hi h0; omega)⟩ ?_
      rintro m tm h' hFr ⟨j, rfl, rfl, e21, hj, hx⟩
      simp only [FrameL] at hFr
      obtain ⟨f1_0, f2_0, f19_0, f20_0, -⟩ := hFr
      try simp (disch := first | omega | (simp; done) | fail) [wrap64c, if_pos, if_neg, lw, g_h0, c1, c2] at f1_0 f2_0 f19_0 f20_0
      have e1 := f1_0
      have e2 := f2_0
      have e19 := f19_0
      have e20 := f20_0
      by_cases hlt : j < cs.length
      · obtain ⟨o_x, i_x, c_x, cs_x, own_x, ex_x, es_x, q_x, b_x, g_x, l_x, r_x⟩ := (hw.keep k_h0.1).open ((by omega))
        have z_x : ∀ h2 : i_x < cs_x.length, cs_x[i_x] = _ := fun h2 => r_x 0 ((by omega)) h2
        by_cases c3 : cs[j] < 0
        · have eB : byR L A cs = none := if_neg fun q => by have := (chW_spec q).2 _ (List.getElem_mem hlt); omega
          try simp (disch := first | omega | (simp; done) | fail) [wrap64c, if_pos, if_neg, lw, g_h0, c1, c2, e1, e2, e19, e20, e21, hlt, q_x, g_x, l_x, r_x, z_x, c3]
          exact done_ret rfl ⟨k_h0, _, by rw [eB]; rfl, by rw [eB]; exact .nil _ _⟩
        · try simp (disch := first | omega | (simp; done) | fail) [wrap64c, if_pos, if_neg, lw, g_h0, c1, c2, e1, e2, e19, e20, e21, hlt, q_x, g_x, l_x, r_x, z_x, c3]
          refine loopK_next _ ?hm ?hf ⟨j + 1, rfl, rfl, (by simp (disch := first | omega | (simp; done) | fail) [wrap64c, if_pos, if_neg, lw, g_h0, c1, c2, e1, e2, e19, e20, e21, hlt, q_x, g_x, l_x, r_x, z_x, c3] <;> omega), (by first | omega | assumption | (simp (disch := first | omega | (simp; done) | fail) [wrap64c, if_pos, if_neg, lw, g_h0, c1, c2, e1, e2, e19, e20, e21, hlt, q_x, g_x, l_x, r_x, z_x, c3] <;> omega)), ?c_hx⟩
          (case hm => first | omega | (simp; omega))
          (case hf => simp [FrameL, lw, g_h0, c1, c2, e1, e2, e19, e20, e21, hlt, q_x, g_x, l_x, r_x, z_x, c3, f1_0, f2_0, f19_0, f20_0])
          case c_hx =>
            exact (fun i hi hij => by
              rcases Nat.lt_succ_iff_lt_or_eq.1 hij with q | q
              · exact hx i hi q
              · subst q; omega)
      · have c4 : ∀ x ∈ cs, 0 ≤ x := fun x hx' => by
          obtain ⟨i, hi, rfl⟩ := List.getElem_of_mem hx'
          exact hx i hi (by omega)
        have eB : byR L A cs = fullA L cs 61 [] A := by
          unfold byR chW fullR
          rw [if_pos (by simp [c4]; exact ⟨by omega, c4⟩), if_pos c1]
        try simp (disch := first | omega | (simp; done) | fail) [wrap64c, if_pos, if_neg, lw, g_h0, c1, c2, e1, e2, e19, e20, e21, hlt]
        obtain ⟨v1, h1, hc1, ha1, u1, u2, rfl, hu1, hu2⟩ := waFull_ok h0 _ w L A cs (hv0.keep k_h0.1) (hw.keep k_h0.1) (good_of c1).ok c4
        refine callG_c (by simp) (by simp) ?ha (hc1) ?_
        (case ha => simp (disch := first | omega | (simp; done) | fail) [wrap64c, if_pos, if_neg, lw, g_h0, c1, c2, e1, e2, e19, e20, e21, hlt])
        try simp (disch := first | omega | (simp; done) | fail) [wrap64c, if_pos, if_neg, lw, g_h0, c1, c2, e1, e2, e19, e20, e21, hlt]
        exact done_ret rfl ⟨k_h0.trans ha1, u1, by rw [eB]; rfl, by rw [eB]; exact hu1.sub fun x hx => by unfold Btw at *; omega⟩
    · have eB : byR L A cs = none := if_neg fun q => by have := (chW_spec q).1; omega
      try simp (disch := first | omega | (simp; done) | fail) [wrap64c, if_pos, if_neg, lw, g_h0, c1, c2]
      exact done_ret rfl ⟨k_h0, _, by rw [eB]; rfl, by rw [eB]; exact .nil _ _⟩
  · have c1' : goodB L A = false := by simpa using c1
    have eB : byR L A cs = none := by unfold byR fullR; rw [if_neg c1]; split <;> rfl
    try simp (disch := first | omega | (simp; done) | fail) [wrap64c, if_pos, if_neg, lw, g_h0, c1, c1']
    exact done_ret rfl ⟨k_h0, _, by rw [eB]; rfl, by rw [eB]; exact .nil _ _⟩

/-- What a function on chips with a run and a truth as results is to do. -/
def FnCL' (f : FuncId) (R : List (List Int) → List Int → Option (List Int)) : Prop :=
  ∀ (h : Hp) (v : Value) (L : List (List Int)) (A : List Int), Chips h v L A →
    ∃ v' h', CallOK Try.prog f #[v] h v' h' ∧ Adds h h' ∧ ∃ u, v' = .tuple #[u, .bool (R L A).isSome] ∧ IntsO (Btw h.next h'.next) h' u ((R L A).getD [])
def fst? : Option (List Int × List Int) → Option (List Int)
  | some q => some q.1
  | none => none
theorem fst_getD (r : Option (List Int × List Int)) : (fst? r).getD [] = fRun r := by cases r <;> rfl
theorem fst_isSome (r : Option (List Int × List Int)) : (fst? r).isSome = r.isSome := by cases r <;> rfl
theorem Ints.nil (h : Hp) : Ints h (.slice none 0 0) [] := (IntsO.nil (fun _ => False) h).ints
noncomputable def firstR (L : List (List Int)) (A : List Int) : Option (List Int) := fst? (fullR L A [])
theorem chB_nil : chW [] 60 = true := by simp [chW]

theorem imFirstRun_ok : FnCL' 9 firstR := by
  intro h v L A hv
  refine callY_L (args := [v]) 8 _ [.tmp 2, .tmp 3] Try.func9 rfl rfl rfl ?_
  have hv0 := hv
  obtain ⟨a, b, rfl, hL, hA⟩ := hv
  refine WD_first ?_
  try simp (disch := first | omega | (simp; done) | fail) [wrap64c, if_pos, if_neg]
  refine stopK_heap fun h0 q_h0 => ?_
  refine stopK_go ?_
  have g_h0 : h0.get h.next = .cells [a, b] true true 1 := by simp [q_h0]
  have k_h0 : Adds h h0 := by rw [q_h0]; exact (by first | exact aK | exact kK)
  have n_h0 : h.next < h0.next := by simp [q_h0]; try omega
  try simp (disch := first | omega | (simp; done) | fail) [wrap64c, if_pos, if_neg, g_h0]
  obtain ⟨v1, h1, hc1, ha1, u1, rfl, hu1⟩ := imRunBy_ok h0 _ (.slice none 0 0) L A [] (hv0.keep k_h0.1) (Ints.nil _)
  have eB : byR L A [] = fullR L A [] := if_pos chB_nil
  rw [eB] at hu1 hc1
  refine callG_c (by simp) (by simp) ?ha (hc1) ?_
  (case ha => simp (disch := first | omega | (simp; done) | fail) [wrap64c, if_pos, if_neg, g_h0])
  try simp (disch := first | omega | (simp; done) | fail) [wrap64c, if_pos, if_neg, g_h0]
  exact done_ret rfl ⟨k_h0.trans ha1, u1, by rw [firstR, fst_isSome]; rfl, by rw [firstR, fst_getD]; exact hu1.sub fun x hx => by unfold Btw at *; omega⟩

theorem spFirstRun_ok : FnCL' 10 firstR := by
  intro h v L A hv
  refine callY_L (args := [v]) 18 _ [.tmp 2, .tmp 3] Try.func10 rfl rfl rfl ?_
  have hv0 := hv
  obtain ⟨a, b, rfl, hL, hA⟩ := hv
  refine WD_first ?_
  try simp (disch := first | omega | (simp; done) | fail) [wrap64c, if_pos, if_neg]
  refine stopK_heap fun h0 q_h0 => ?_
  refine stopK_go ?_
  have g_h0 : h0.get h.next = .cells [a, b] true true 1 := by simp [q_h0]
  have k_h0 : Adds h h0 := by rw [q_h0]; exact (by first | exact aK | exact kK)
  have n_h0 : h.next < h0.next := by simp [q_h0]; try omega
  try simp (disch := first | omega | (simp; done) | fail) [wrap64c, if_pos, if_neg, g_h0]
  refine callG_c (by simp) (by simp) ?ha (waGood_ok h0 _ L A (hv0.keep k_h0.1)) ?_
  (case ha => simp (disch := first | omega | (simp; done) | fail) [wrap64c, if_pos, if_neg, g_h0])
  by_cases c1 : goodB L A = true
  · try simp (disch := first | omega | (simp; done) | fail) [wrap64c, if_pos, if_neg, g_h0, c1]
    obtain ⟨v1, h1, hc1, ha1, u1, u2, rfl, hu1, hu2⟩ := waFull_ok h0 _ (.slice none 0 0) L A [] (hv0.keep k_h0.1) (Ints.nil _) (good_of c1).ok (by simp)
    have eB : fullR L A [] = fullA L [] 61 [] A := if_pos c1
    rw [← eB] at hu1 hc1
    refine callG_c (by simp) (by simp) ?ha (hc1) ?_
    (case ha => simp (disch := first | omega | (simp; done) | fail) [wrap64c, if_pos, if_neg, g_h0, c1])
    try simp (disch := first | omega | (simp; done) | fail) [wrap64c, if_pos, if_neg, g_h0, c1]
    exact done_ret rfl ⟨k_h0.trans ha1, u1, by rw [firstR, fst_isSome]; rfl, by rw [firstR, fst_getD]; exact hu1.sub fun x hx => by unfold Btw at *; omega⟩
  · have c1' : goodB L A = false := by simpa using c1
    have eB : fullR L A [] = none := if_neg c1
    try simp (disch := first | omega | (simp; done) | fail) [wrap64c, if_pos, if_neg, g_h0, c1, c1']
    exact done_ret rfl ⟨k_h0, _, by rw [firstR, eB]; rfl, by rw [firstR, eB]; exact .nil _ _⟩

noncomputable def endR (L : List (List Int)) (A : List Int) : Bool := goodB L A && !(fullR L A []).isSome
theorem imNeverEnds_ok (h : Hp) (v : Value) (L : List (List Int)) (A : List Int) (hv : Chips h v L A) : CallOK Try.prog 15 #[v] h (.tuple #[.bool (endR L A), .bool (goodB L A)]) h := by
  refine callY_P 18 _ [.tmp 2, .tmp 3] Try.func15 rfl rfl rfl (by first | rfl | simp) ?_
  have hv0 := hv
  obtain ⟨a, b, rfl, hL, hA⟩ := hv
  refine WD_first ?_
  try simp (disch := first | omega | (simp; done) | fail) [wrap64c, if_pos, if_neg]
  refine stopK_heap fun h0 q_h0 => ?_
  refine stopK_go ?_
  have g_h0 : h0.get h.next = .cells [a, b] true true 1 := by simp [q_h0]
  have k_h0 : Adds h h0 := by rw [q_h0]; exact (by first | exact aK | exact kK)
  have n_h0 : h.next < h0.next := by simp [q_h0]; try omega
  try simp (disch := first | omega | (simp; done) | fail) [wrap64c, if_pos, if_neg, g_h0]
  refine callG_c (by simp) (by simp) ?ha (imAreChips_ok h0 _ L A (hv0.keep k_h0.1)) ?_
  (case ha => simp (disch := first | omega | (simp; done) | fail) [wrap64c, if_pos, if_neg, g_h0])
  by_cases c1 : goodB L A = true
  · try simp (disch := first | omega | (simp; done) | fail) [wrap64c, if_pos, if_neg, g_h0, c1]
    obtain ⟨v1, h1, hc1, ha1, u1, u2, rfl, hu1, hu2⟩ := imFull_ok h0 _ (.slice none 0 0) L A [] (hv0.keep k_h0.1) (Ints.nil _) (by simp)
    obtain ⟨p, q, S1, S2, rfl, hp, hq, s1, s2, s3⟩ := hu2
    refine callG_c (by simp) (by simp) ?ha (hc1) ?_
    (case ha => simp (disch := first | omega | (simp; done) | fail) [wrap64c, if_pos, if_neg, g_h0, c1])
    have ntp := hp.nt
    have csp := hp.cs
    have ntq := hq.nt
    have csq := hq.cs
    have n1 := ha1.1.1
    have K1 := k_h0.trans ha1
    try simp (disch := first | omega | (simp; done) | fail) [wrap64c, if_pos, if_neg, g_h0, c1, ntp, csp, ntq, csq, putCells]
    exact done_ret rfl ⟨by simp [endR, c1], (by first | exact aK | exact kK)⟩
  · have c1' : goodB L A = false := by simpa using c1
    try simp (disch := first | omega | (simp; done) | fail) [wrap64c, if_pos, if_neg, g_h0, c1, c1']
    exact done_ret rfl (by simp [endR, c1', k_h0.1])
/-- What a function on chips with chips and a truth as results is to do. -/
def FnCC (f : FuncId) (R : List (List Int) → List Int → Option (List Int)) : Prop :=
  ∀ (h : Hp) (v : Value) (L : List (List Int)) (A : List Int), Chips h v L A →
    ∃ v' h', CallOK Try.prog f #[v] h v' h' ∧ Adds h h' ∧ ∃ u, v' = .tuple #[u, .bool (R L A).isSome] ∧ ChipsO (Btw h.next h'.next) h' u (chL L (R L A)) (chA (R L A))
noncomputable def finalR (L : List (List Int)) (A : List Int) : Option (List Int) := snd? (fullR L A [])
theorem snd_isSome (r : Option (List Int × List Int)) : (snd? r).isSome = r.isSome := by cases r <;> rfl

theorem imFinalChips_ok : FnCC 13 finalR := by
  intro h v L A hv
  refine callY_L (args := [v]) 15 _ [.cell 2 27, .tmp 3] Try.func13 rfl rfl rfl ?_
  have hv0 := hv
  obtain ⟨a, b, rfl, hL, hA⟩ := hv
  refine WD_first ?_
  try simp (disch := first | omega | (simp; done) | fail) [wrap64c, if_pos, if_neg]
  refine stopK_heap fun h0 q_h0 => ?_
  refine stopK_go ?_
  have k0 : Adds h h0 := by rw [q_h0]; exact (by first | exact aK | exact kK)
  have n0 : h0.next = h.next + 2 := by simp [q_h0]
  have g0 : h0.get h.next = .cells [a, b] true true 1 := by simp [q_h0]
  have z0 : h0.get (h.next + 1) = .cells [.slice none 0 0, .slice none 0 0] true true 1 := by simp [q_h0]
  try simp (disch := first | omega | (simp; done) | fail) [wrap64c, if_pos, if_neg, g0, z0]
  obtain ⟨v1, h1, hc1, ha1, u1, u2, rfl, hu1, hu2⟩ := imFull_ok h0 _ (.slice none 0 0) L A [] (hv0.keep k0.1) (Ints.nil _) (by simp)
  obtain ⟨p, q, S1, S2, rfl, hp, hq, s1, s2, s3⟩ := hu2
  refine callG_c (by simp) (by simp) ?ha (hc1) ?_
  (case ha => simp (disch := first | omega | (simp; done) | fail) [wrap64c, if_pos, if_neg, g0, z0])
  have ntp := hp.nt
  have csp := hp.cs
  have ntq := hq.nt
  have csq := hq.cs
  have n1 := ha1.1.1
  have K1 := k0.trans ha1
  have z1 : h1.get (h.next + 1) = .cells [.slice none 0 0, .slice none 0 0] true true 1 := by rw [ha1.1.2 _ (by omega)]; exact z0
  try simp (disch := first | omega | (simp; done) | fail) [wrap64c, if_pos, if_neg, g0, z0, ntp, csp, ntq, csq, z1, putCells]
  first | refine WY_heap fun h2 q_h2 => ?_ | refine callG_heap fun h2 q_h2 => ?_ | refine callP_heap fun h2 q_h2 => ?_ | refine callS_heap fun h2 q_h2 => ?_ | refine RY_heap fun h2 q_h2 => ?_ | refine PY_heap fun h2 q_h2 => ?_ | refine SY_heap fun h2 q_h2 => ?_ | refine doneY_heap fun h2 q_h2 => ?_ | refine loopK_heap fun h2 q_h2 => ?_ | refine thenY_heap fun h2 q_h2 => ?_ | refine thenM_heap fun h2 q_h2 => ?_
  have K12 : Adds h h2 := by rw [q_h2]; exact (by first | exact aK | exact kK)
  have e2 : h2.get (h.next + 1) = .cells [p, q] true true 1 := by simp [q_h2]
  have sm : ∀ S : Nat → Prop, (∀ x, S x → Btw h0.next h1.next x) → Same S h1 h2 := fun S hS => by
    rw [q_h2]
    exact ⟨by simp, fun o ho ho' => by have := hS o ho; unfold Btw at this; simp [show ¬ o = h1.next by omega, show ¬ o = h.next + 1 by omega]⟩
  have n2 : h1.next ≤ h2.next := by simp [q_h2]
  refine done_ret (by simp [e2]; rfl) ⟨K12, _, by rw [finalR, snd_isSome]; rfl, p, q, S1, S2, by simp, hp.same (sm S1 s1), hq.same (sm S2 s2), fun x hx => ?_, fun x hx => ?_, s3⟩
  · have := s1 x hx; unfold Btw at *; omega
  · have := s2 x hx; unfold Btw at *; omega

theorem spFinalChips_ok : FnCC 14 finalR := by
  intro h v L A hv
  refine callY_L (args := [v]) 23 _ [.cell 2 27, .tmp 3] Try.func14 rfl rfl rfl ?_
  have hv0 := hv
  obtain ⟨a, b, rfl, hL, hA⟩ := hv
  refine WD_first ?_
  try simp (disch := first | omega | (simp; done) | fail) [wrap64c, if_pos, if_neg]
  refine stopK_heap fun h0 q_h0 => ?_
  refine stopK_go ?_
  have k0 : Adds h h0 := by rw [q_h0]; exact (by first | exact aK | exact kK)
  have n0 : h0.next = h.next + 2 := by simp [q_h0]
  have g0 : h0.get h.next = .cells [a, b] true true 1 := by simp [q_h0]
  have z0 : h0.get (h.next + 1) = .cells [.slice none 0 0, .slice none 0 0] true true 1 := by simp [q_h0]
  try simp (disch := first | omega | (simp; done) | fail) [wrap64c, if_pos, if_neg, g0, z0]
  refine callG_c (by simp) (by simp) ?ha (waGood_ok h0 _ L A (hv0.keep k0.1)) ?_
  (case ha => simp (disch := first | omega | (simp; done) | fail) [wrap64c, if_pos, if_neg, g0, z0])
  by_cases c1 : goodB L A = true
  · have ho := (good_of c1).ok
    obtain ⟨r1, r2⟩ := row_le ho.sh
    try simp (disch := first | omega | (simp; done) | fail) [wrap64c, if_pos, if_neg, g0, z0, c1]
    obtain ⟨v1, h1, hc1, ha1, u1, u2, rfl, hu1, hu2⟩ := waFull_ok h0 _ (.slice none 0 0) L A [] (hv0.keep k0.1) (Ints.nil _) ho (by simp)
    have eB : fullR L A [] = fullA L [] 61 [] A := if_pos c1
    rw [← eB] at hu1 hu2 hc1
    refine callG_c (by simp) (by simp) ?ha (hc1) ?_
    (case ha => simp (disch := first | omega | (simp; done) | fail) [wrap64c, if_pos, if_neg, g0, z0, c1])
    have n1 := ha1.1.1
    have K1 := k0.trans ha1
    have g1 : h1.get h.next = .cells [a, b] true true 1 := by rw [ha1.1.2 _ (by omega)]; exact g0
    have z1 : h1.get (h.next + 1) = .cells [.slice none 0 0, .slice none 0 0] true true 1 := by rw [ha1.1.2 _ (by omega)]; exact z0
    cases hr : fullR L A [] with
    | none =>
      have hr' := hr
      try simp (disch := first | omega | (simp; done) | fail) [wrap64c, if_pos, if_neg, g0, z0, c1, g1, z1, hr', putCells]
      refine done_ret (by simp [putCells, z1]; rfl) ⟨(by first | exact aK | exact kK), _, by rw [finalR, hr]; rfl, ?_⟩
      rw [finalR, hr]
      exact .nil _ _
    | some B =>
      have hr' := hr
      rw [hr] at hu2
      try simp (disch := first | omega | (simp; done) | fail) [wrap64c, if_pos, if_neg, g0, z0, c1, g1, z1, hr']
      obtain ⟨v2, h2, hc2, ha2, u3, rfl, hu3⟩ := waWith_ok h1 _ u2 L A B.2 (hv0.keep K1.1) hu2.ints r1 r2
      refine callG_c (by simp) (by simp) ?ha (hc2) ?_
      (case ha => simp (disch := first | omega | (simp; done) | fail) [wrap64c, if_pos, if_neg, g0, z0, c1, g1, z1, hr'])
      have z2 : h2.get (h.next + 1) = .cells [.slice none 0 0, .slice none 0 0] true true 1 := by rw [ha2.1.2 _ (by omega)]; exact z1
      have n2 := ha2.1.1
      have K2 := K1.trans ha2
      have nt1 := hu2.nt
      have cs1 := hu2.cs
      have nt2 := hu3.nt
      have cs2 := hu3.cs
      try simp (disch := first | omega | (simp; done) | fail) [wrap64c, if_pos, if_neg, g0, z0, c1, g1, z1, hr', z2, nt1, cs1, nt2, cs2, putCells]
      refine done_ret (by simp [putCells, z2]; rfl) ⟨(by first | exact aK | exact kK), _, by rw [finalR, hr]; rfl, ?_⟩
      rw [finalR, hr]
      refine ⟨u3, u2, Btw h1.next h2.next, Btw h0.next h1.next, by simp, hu3.same (Same.put (Same.refl _ _) (by unfold Btw; omega) _), (hu2.keep ha2.1).same (Same.put (Same.refl _ _) (by unfold Btw; omega) _), ?_, ?_, ?_⟩ <;> intro x <;> simp [Btw] <;> omega
  · have c1' : goodB L A = false := by simpa using c1
    have eB : fullR L A [] = none := if_neg c1
    try simp (disch := first | omega | (simp; done) | fail) [wrap64c, if_pos, if_neg, g0, z0, c1, c1', putCells]
    refine done_ret (by simp [putCells, z0]; rfl) ⟨(by first | exact aK | exact kK), _, by rw [finalR, eB]; rfl, ?_⟩
    rw [finalR, eB]
    exact .nil _ _
end Go.Proofs.Ytnnjehonbolliaa
