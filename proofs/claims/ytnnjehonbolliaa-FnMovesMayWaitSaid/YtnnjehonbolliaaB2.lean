/- Runs of moves: what they are, by the reference and by the program. -/
import Derived.Test.YtnnjehonbolliaaB1
import Derived.Test.YtnnjehonbolliaaA8
namespace Go.Proofs.Ytnnjehonbolliaa
set_option linter.unusedSimpArgs false
set_option linter.unusedVariables false
set_option maxHeartbeats 4000000
open Go Go.Eng
attribute [local irreducible] WD RunD PreD Runs CallOK

/-- Chips that may be moved on. -/
structure Ok (L : List (List Int)) (A : List Int) : Prop where
  sh : Shape L A.length
  nn : ∀ x ∈ A, 0 ≤ x
  sm : A.sum ≤ 30
theorem Good.ok {L : List (List Int)} {A : List Int} (h : Good L A) : Ok L A := ⟨h.shape, fun x hx => (h.2.2.1 x hx).1, h.2.2.2.2.2.2⟩
theorem sum_nn : ∀ {A : List Int}, (∀ x ∈ A, 0 ≤ x) → 0 ≤ A.sum
  | [], _ => by simp
  | x :: A, h => by
    have := sum_nn (A := A) fun y hy => h y (List.mem_cons_of_mem _ hy)
    have := h x (List.mem_cons_self)
    simp; omega
theorem le_sum : ∀ {A : List Int}, (∀ x ∈ A, 0 ≤ x) → ∀ {x : Int}, x ∈ A → x ≤ A.sum
  | [], _, x, hx => by cases hx
  | y :: A, h, x, hx => by
    have h1 := sum_nn (A := A) fun y hy => h y (List.mem_cons_of_mem _ hy)
    have h2 := h y (List.mem_cons_self)
    rcases List.mem_cons.1 hx with rfl | hx
    · simp; omega
    · have := le_sum (A := A) (fun y hy => h y (List.mem_cons_of_mem _ hy)) hx
      simp; omega
theorem Ok.small {L : List (List Int)} {A : List Int} (h : Ok L A) : Small A := fun x hx => by
  have := le_sum h.nn hx; have := h.nn x hx; have := h.sm; omega
theorem Ok.le {L : List (List Int)} {A : List Int} (h : Ok L A) : A.length ≤ 5 := h.sh.le

theorem sum_moveA {L : List (List Int)} {A : List Int} (hs : Shape L A.length) {i : Nat} (hi : i < A.length) : (moveA L A i).sum = A.sum := by
  have hi' : i < L.length := by have := hs.len; omega
  have h1 := hs.at hi'
  have key : ∀ k, k ≤ A.length → ((List.range k).map fun (j : Nat) => A.getD j 0 + (L.getD i []).getD j 0 - if j = i then deg L i else 0).sum = (A.take k).sum + (L[i].take k).sum - if i < k then deg L i else 0 := by
    intro k
    induction k with
    | zero => intro _; simp
    | succ k ih =>
      intro hk
      rw [List.range_succ, List.map_append, List.sum_append, ih (by omega), sum_step (A := A) (by omega), sum_step (A := L[i]) (by omega)]
      have e1 : A.getD k 0 = A[k] := by simp [show k < A.length by omega]
      have e2 : (L.getD i []).getD k 0 = L[i][k] := by simp [hi', show k < L[i].length by omega]
      simp only [List.map_cons, List.map_nil, List.sum_cons, List.sum_nil, e1, e2]
      by_cases h1 : k = i
      · subst h1; simp; omega
      · by_cases h2 : i < k
        · simp [h1, h2, show i < k + 1 by omega]; omega
        · simp [h1, h2, show ¬ i < k + 1 by omega]; omega
  have := key A.length (Nat.le_refl _)
  unfold moveA
  rw [this, List.take_length, List.take_of_length_le (by omega), deg_eq hi', if_pos hi]
  omega
theorem Ok.move {L : List (List Int)} {A : List Int} (h : Ok L A) {i : Nat} (hi : i < A.length) (hc : canB L A i = true) : Ok L (moveA L A i) := by
  refine ⟨by simpa using h.sh, fun x hx => ?_, by rw [sum_moveA h.sh hi]; exact h.sm⟩
  obtain ⟨k, hk, rfl⟩ := List.getElem_of_mem hx
  have hk' : k < A.length := by simpa using hk
  have hi' : i < L.length := by have := h.sh.len; omega
  have h1 := h.sh.at hi'
  rw [moveA_get L A i k hk' hk hi' (by omega)]
  have h2 := h.nn _ (List.getElem_mem hk')
  have h3 := h1.2 _ (List.getElem_mem (show k < L[i].length by omega))
  by_cases e : k = i
  · subst e
    simp [canB, hk'] at hc
    rw [if_pos rfl]; omega
  · rw [if_neg e]; omega

/-- One move of a run. -/
def stepA (L : List (List Int)) (A : List Int) (m : Int) : Option (List Int) := if 0 ≤ m ∧ m < A.length ∧ canB L A m.toNat = true then some (moveA L A m.toNat) else none
def runA (L : List (List Int)) : List Int → List Int → Option (List Int)
  | A, [] => some A
  | A, m :: l => match stepA L A m with
    | some B => runA L B l
    | none => none
theorem runA_append (L : List (List Int)) : ∀ (xs ys A : List Int), runA L A (xs ++ ys) = match runA L A xs with
    | some B => runA L B ys
    | none => none
  | [], ys, A => rfl
  | m :: xs, ys, A => by
    simp only [List.cons_append, runA]
    cases stepA L A m with
    | none => rfl
    | some B => exact runA_append L xs ys B
theorem runA_step {L : List (List Int)} {A B ms : List Int} {j : Nat} (hj : j < ms.length) (h : runA L A (ms.take j) = some B) : runA L A (ms.take (j + 1)) = stepA L B ms[j] := by
  rw [List.take_succ_eq_append_getElem hj, runA_append, h]
  simp only [runA]
  cases stepA L B ms[j] <;> rfl
theorem runA_stop {L : List (List Int)} {A ms : List Int} {j : Nat} (h : runA L A (ms.take j) = none) : runA L A ms = none := by
  have := runA_append L (ms.take j) (ms.drop j) A
  rw [List.take_append_drop, h] at this
  exact this

theorem stepA_some {L : List (List Int)} {A : List Int} {i : Nat} (hi : i < A.length) (hc : canB L A i = true) : stepA L A (i : Int) = some (moveA L A i) := by
  unfold stepA; rw [if_pos ⟨by omega, by omega, by simpa using hc⟩]; rfl
theorem stepA_cannot {L : List (List Int)} {A : List Int} {i : Nat} (hc : canB L A i = false) : stepA L A (i : Int) = none := by
  unfold stepA; rw [if_neg (fun q => by simp [hc] at q)]
theorem stepA_out {L : List (List Int)} {A : List Int} {m : Int} (h : ¬ (0 ≤ m ∧ m ≤ (A.length : Int) - 1)) : stepA L A m = none := by
  unfold stepA; rw [if_neg (fun q => h ⟨q.1, by omega⟩)]

theorem waRun_ok (h : Hp) (v w : Value) (L : List (List Int)) (A ms : List Int) (hv : Chips h v L A) (hw : Ints h w ms) (ho : Ok L A) :
    ∃ v' h', CallOK Try.prog 59 #[v, w] h v' h' ∧ Adds h h' ∧ ∃ u, v' = .tuple #[u, .bool (runA L A ms).isSome] ∧ IntsO (Btw h.next h'.next) h' u ((runA L A ms).getD []) := by
  refine callY_L (args := [v, w]) 37 _ [.tmp 4, .tmp 5] Try.func59 rfl rfl rfl ?_
  have hv0 := hv
  obtain ⟨a, b, rfl, hL, hA⟩ := hv
  have hwl := hw.len
  have lw := hw.lenD
  have h5 := ho.le
  refine WD_first ?_
  try simp (disch := first | omega | (simp; done) | fail) [wrap64c, if_pos, if_neg, lw]
  refine stopK_heap fun h0 q_h0 => ?_
  refine stopK_go ?_
  have g_h0 : h0.get h.next = .cells [a, b] true true 1 := by simp [q_h0]
  have k_h0 : Adds h h0 := by rw [q_h0]; exact (by first | exact aK | exact kK)
  have n_h0 : h.next < h0.next := by simp [q_h0]; try omega
  try simp (disch := first | omega | (simp; done) | fail) [wrap64c, if_pos, if_neg, lw, g_h0]
  obtain ⟨u1, h1, hc1, ha1, hu1, _⟩ := l1Own_ok h0 b A (hA.keep k_h0.1) (by omega)
  refine callG_c (by simp) (by simp) ?ha (hc1) ?_
  (case ha => simp (disch := first | omega | (simp; done) | fail) [wrap64c, if_pos, if_neg, lw, g_h0])
  have K1 := k_h0.trans ha1
  have g1 : h1.get h.next = .cells [a, b] true true 1 := by rw [ha1.1.2 _ n_h0]; exact g_h0
  try simp (disch := first | omega | (simp; done) | fail) [wrap64c, if_pos, if_neg, lw, g_h0, g1]
  refine WD_loopC [2, 12, 13] (fun m tm h' => ∃ j u B, m = ms.length - j ∧ tm 6 = u ∧ tm 14 = .int .i64 (j : Int) ∧ (j ≤ ms.length) ∧ (Adds h h') ∧ (h0.next ≤ h'.next) ∧ (h'.get h.next = .cells [a, b] true true 1) ∧ (runA L A (ms.take j) = some B) ∧ (B.length = A.length) ∧ (Ok L B) ∧ (IntsO (Btw h0.next h'.next) h' u B)) _ ⟨0, _, A, rfl, (by simp (disch := first | omega | (simp; done) | fail) [wrap64c, if_pos, if_neg, lw, g_h0, g1]), (by simp (disch := first | omega | (simp; done) | fail) [wrap64c, if_pos, if_neg, lw, g_h0, g1]), (by first | omega | assumption | (simp (disch := first | omega | (simp; done) | fail) [wrap64c, if_pos, if_neg, lw, g_h0, g1] <;> omega)), K1, ha1.1.1, g1, (by simp [runA]), rfl, ho, hu1⟩ ?_
  rintro m tm h' hFr ⟨j, u, B, rfl, e6, e14, hj, ha, hn, hg, hB, hlB, hoB, hu⟩
  simp only [FrameL] at hFr
  obtain ⟨f2_0, f12_0, f13_0, -⟩ := hFr
  try simp (disch := first | omega | (simp; done) | fail) [wrap64c, if_pos, if_neg, lw, g_h0, g1] at f2_0 f12_0 f13_0
  have e2 := f2_0
  have e12 := f12_0
  have e13 := f13_0
  have lu := hu.lenD
  by_cases hlt : j < ms.length
  · obtain ⟨o_x, i_x, c_x, cs_x, own_x, ex_x, es_x, q_x, b_x, g_x, l_x, r_x⟩ := (hw.keep ha.1).open ((by omega))
    have z_x : ∀ h2 : i_x < cs_x.length, cs_x[i_x] = _ := fun h2 => r_x 0 ((by omega)) h2
    try simp (disch := first | omega | (simp; done) | fail) [wrap64c, if_pos, if_neg, lw, g_h0, g1, e2, e6, e12, e13, e14, hg, lu, hlt, q_x, g_x, l_x, r_x, z_x]
    have hc := l1In_ok h' ms[j] 0 ((B.length : Int) - 1)
    by_cases c1 : 0 ≤ ms[j] ∧ ms[j] ≤ (B.length : Int) - 1
    · rw [decide_eq_true c1] at hc
      refine callG_c (by simp) (by simp) ?ha (hc) ?_
      (case ha => simp (disch := first | omega | (simp; done) | fail) [wrap64c, if_pos, if_neg, lw, g_h0, g1, e2, e6, e12, e13, e14, hg, lu, hlt, q_x, g_x, l_x, r_x, z_x])
      obtain ⟨i, hi⟩ : ∃ i : Nat, ms[j] = (i : Int) := ⟨ms[j].toNat, by omega⟩
      have hiB : i < B.length := by omega
      try simp (disch := first | omega | (simp; done) | fail) [wrap64c, if_pos, if_neg, lw, g_h0, g1, e2, e6, e12, e13, e14, hg, lu, hlt, q_x, g_x, l_x, r_x, z_x, hi]
      refine callG_c (by simp) (by simp) ?ha (waCan_ok h' _ u L A B i (hv0.keep ha.1) hu.ints hoB.sh hiB) ?_
      (case ha => simp (disch := first | omega | (simp; done) | fail) [wrap64c, if_pos, if_neg, lw, g_h0, g1, e2, e6, e12, e13, e14, hg, lu, hlt, q_x, g_x, l_x, r_x, z_x, hi])
      by_cases c2 : canB L B i = true
      · try simp (disch := first | omega | (simp; done) | fail) [wrap64c, if_pos, if_neg, lw, g_h0, g1, e2, e6, e12, e13, e14, hg, lu, hlt, q_x, g_x, l_x, r_x, z_x, hi, c2]
        obtain ⟨u2, h2, hc2, ha2, hu2⟩ := waMove_ok h' _ u L A B i (hv0.keep ha.1) hu.ints hoB.sh hoB.small hiB
        refine callG_c (by simp) (by simp) ?ha (hc2) ?_
        (case ha => simp (disch := first | omega | (simp; done) | fail) [wrap64c, if_pos, if_neg, lw, g_h0, g1, e2, e6, e12, e13, e14, hg, lu, hlt, q_x, g_x, l_x, r_x, z_x, hi, c2])
        have g2 : h2.get h.next = .cells [a, b] true true 1 := by rw [ha2.1.2 _ (by omega)]; exact hg
        have n2 := ha2.1.1
        try simp (disch := first | omega | (simp; done) | fail) [wrap64c, if_pos, if_neg, lw, g_h0, g1, e2, e6, e12, e13, e14, hg, lu, hlt, q_x, g_x, l_x, r_x, z_x, hi, c2, g2]
        refine loopK_next _ ?hm ?hf ⟨j + 1, u2, moveA L B i, rfl, (by simp (disch := first | omega | (simp; done) | fail) [wrap64c, if_pos, if_neg, lw, g_h0, g1, e2, e6, e12, e13, e14, hg, lu, hlt, q_x, g_x, l_x, r_x, z_x, hi, c2, g2] <;> omega), (by simp (disch := first | omega | (simp; done) | fail) [wrap64c, if_pos, if_neg, lw, g_h0, g1, e2, e6, e12, e13, e14, hg, lu, hlt, q_x, g_x, l_x, r_x, z_x, hi, c2, g2] <;> omega), (by first | omega | assumption | (simp (disch := first | omega | (simp; done) | fail) [wrap64c, if_pos, if_neg, lw, g_h0, g1, e2, e6, e12, e13, e14, hg, lu, hlt, q_x, g_x, l_x, r_x, z_x, hi, c2, g2] <;> omega)), (ha.trans ha2), (by first | omega | assumption | (simp (disch := first | omega | (simp; done) | fail) [wrap64c, if_pos, if_neg, lw, g_h0, g1, e2, e6, e12, e13, e14, hg, lu, hlt, q_x, g_x, l_x, r_x, z_x, hi, c2, g2] <;> omega)), (by first | omega | assumption | (simp (disch := first | omega | (simp; done) | fail) [wrap64c, if_pos, if_neg, lw, g_h0, g1, e2, e6, e12, e13, e14, hg, lu, hlt, q_x, g_x, l_x, r_x, z_x, hi, c2, g2] <;> omega)), (by rw [runA_step hlt hB, hi]; exact stepA_some hiB c2), (by simp [hlB]), (hoB.move hiB c2), (hu2.sub fun x hx => ⟨Nat.le_trans hn hx.1, hx.2⟩)⟩
        (case hm => first | omega | (simp; omega))
        (case hf => simp [FrameL, lw, g_h0, g1, e2, e6, e12, e13, e14, hg, lu, hlt, q_x, g_x, l_x, r_x, z_x, hi, c2, g2, f2_0, f12_0, f13_0])
      · have c2' : canB L B i = false := by simpa using c2
        try simp (disch := first | omega | (simp; done) | fail) [wrap64c, if_pos, if_neg, lw, g_h0, g1, e2, e6, e12, e13, e14, hg, lu, hlt, q_x, g_x, l_x, r_x, z_x, hi, c2, c2']
        have e : runA L A ms = none := runA_stop (j := j + 1) (by rw [runA_step hlt hB, hi]; exact stepA_cannot c2')
        exact done_ret rfl ⟨ha, _, by rw [e]; rfl, by rw [e]; exact .nil _ _⟩
    · rw [decide_eq_false c1] at hc
      refine callG_c (by simp) (by simp) ?ha (hc) ?_
      (case ha => simp (disch := first | omega | (simp; done) | fail) [wrap64c, if_pos, if_neg, lw, g_h0, g1, e2, e6, e12, e13, e14, hg, lu, hlt, q_x, g_x, l_x, r_x, z_x])
      try simp (disch := first | omega | (simp; done) | fail) [wrap64c, if_pos, if_neg, lw, g_h0, g1, e2, e6, e12, e13, e14, hg, lu, hlt, q_x, g_x, l_x, r_x, z_x]
      have e : runA L A ms = none := runA_stop (j := j + 1) (by rw [runA_step hlt hB]; exact stepA_out c1)
      exact done_ret rfl ⟨ha, _, by rw [e]; rfl, by rw [e]; exact .nil _ _⟩
  · try simp (disch := first | omega | (simp; done) | fail) [wrap64c, if_pos, if_neg, lw, g_h0, g1, e2, e6, e12, e13, e14, hg, lu, hlt]
    have hj' : j = ms.length := by omega
    subst hj'
    rw [List.take_length] at hB
    exact done_ret rfl ⟨ha, u, by rw [hB]; rfl, by rw [hB]; exact hu.sub fun x hx => ⟨by have := hx.1; omega, hx.2⟩⟩

/-- What runs of chips are. -/
noncomputable def runR (L : List (List Int)) (A ms : List Int) : Option (List Int) := if goodB L A = true ∧ ms.length ≤ 120 then runA L A ms else none
/-- The chips behind a call that may fail. -/
def chL (L : List (List Int)) : Option (List Int) → List (List Int)
  | some _ => L
  | none => []
def chA : Option (List Int) → List Int
  | some B => B
  | none => []
/-- What a function on chips and a list with chips and a truth as results is to do. -/
def FnCIC (f : FuncId) (R : List (List Int) → List Int → List Int → Option (List Int)) : Prop :=
  ∀ (h : Hp) (v w : Value) (L : List (List Int)) (A ms : List Int), Chips h v L A → Ints h w ms →
    ∃ v' h', CallOK Try.prog f #[v, w] h v' h' ∧ Adds h h' ∧ ∃ u, v' = .tuple #[u, .bool (R L A ms).isSome] ∧ ChipsO (Btw h.next h'.next) h' u (chL L (R L A ms)) (chA (R L A ms))
theorem runR_bad {L : List (List Int)} {A ms : List Int} (h : ¬ (goodB L A = true ∧ ms.length ≤ 120)) : runR L A ms = none := if_neg h
theorem runR_good {L : List (List Int)} {A ms : List Int} (h : goodB L A = true ∧ ms.length ≤ 120) : runR L A ms = runA L A ms := if_pos h
theorem row_le {L : List (List Int)} {n : Nat} (h : Shape L n) : L.length < 2 ^ 39 ∧ ∀ x ∈ L, x.length < 2 ^ 39 := by
  have := h.len; have := h.le
  exact ⟨by omega, fun x hx => by have := (h.row x hx).1; omega⟩

theorem spRunChips_ok : FnCIC 23 runR := by
  intro h v w L A ms hv hw
  refine callY_L (args := [v, w]) 29 _ [.cell 4 27, .tmp 5] Try.func23 rfl rfl rfl ?_
  have hv0 := hv
  obtain ⟨a, b, rfl, hL, hA⟩ := hv
  have hwl := hw.len
  have lw := hw.lenD
  refine WD_first ?_
  try simp (disch := first | omega | (simp; done) | fail) [wrap64c, if_pos, if_neg, lw]
  refine stopK_heap fun h0 q_h0 => ?_
  refine stopK_go ?_
  have k0 : Adds h h0 := by rw [q_h0]; exact (by first | exact aK | exact kK)
  have n0 : h0.next = h.next + 2 := by simp [q_h0]
  have g0 : h0.get h.next = .cells [a, b] true true 1 := by simp [q_h0]
  have z0 : h0.get (h.next + 1) = .cells [.slice none 0 0, .slice none 0 0] true true 1 := by simp [q_h0]
  try simp (disch := first | omega | (simp; done) | fail) [wrap64c, if_pos, if_neg, lw, g0, z0]
  refine callG_c (by simp) (by simp) ?ha (waGood_ok h0 _ L A (hv0.keep k0.1)) ?_
  (case ha => simp (disch := first | omega | (simp; done) | fail) [wrap64c, if_pos, if_neg, lw, g0, z0])
  by_cases c1 : goodB L A = true
  · by_cases c2 : ms.length ≤ 120
    · have hg := good_of c1
      have ho := hg.ok
      obtain ⟨r1, r2⟩ := row_le ho.sh
      try simp (disch := first | omega | (simp; done) | fail) [wrap64c, if_pos, if_neg, lw, g0, z0, c1, c2]
      obtain ⟨v1, h1, hc1, ha1, u1, rfl, hu1⟩ := waRun_ok h0 _ w L A ms (hv0.keep k0.1) (hw.keep k0.1) ho
      refine callG_c (by simp) (by simp) ?ha (hc1) ?_
      (case ha => simp (disch := first | omega | (simp; done) | fail) [wrap64c, if_pos, if_neg, lw, g0, z0, c1, c2])
      have g1 : h1.get h.next = .cells [a, b] true true 1 := by rw [ha1.1.2 _ (by omega)]; exact g0
      have z1 : h1.get (h.next + 1) = .cells [.slice none 0 0, .slice none 0 0] true true 1 := by rw [ha1.1.2 _ (by omega)]; exact z0
      have K1 := k0.trans ha1
      have n1 := ha1.1.1
      cases hr : runA L A ms with
      | none =>
        have hr' := hr
        try simp (disch := first | omega | (simp; done) | fail) [wrap64c, if_pos, if_neg, lw, g0, z0, c1, c2, g1, z1, hr', putCells]
        refine done_ret (by simp [putCells, z1]; rfl) ⟨(by first | exact aK | exact kK), _, by rw [runR_good ⟨c1, c2⟩, hr]; rfl, ?_⟩
        rw [runR_good ⟨c1, c2⟩, hr]
        exact .nil _ _
      | some B =>
        have hr' := hr
        rw [hr] at hu1
        try simp (disch := first | omega | (simp; done) | fail) [wrap64c, if_pos, if_neg, lw, g0, z0, c1, c2, g1, z1, hr']
        obtain ⟨v2, h2, hc2, ha2, u2, rfl, hu2⟩ := waWith_ok h1 _ u1 L A B (hv0.keep K1.1) hu1.ints r1 r2
        refine callG_c (by simp) (by simp) ?ha (hc2) ?_
        (case ha => simp (disch := first | omega | (simp; done) | fail) [wrap64c, if_pos, if_neg, lw, g0, z0, c1, c2, g1, z1, hr'])
        have z2 : h2.get (h.next + 1) = .cells [.slice none 0 0, .slice none 0 0] true true 1 := by rw [ha2.1.2 _ (by omega)]; exact z1
        have n2 := ha2.1.1
        have K2 := K1.trans ha2
        have nt1 := hu1.nt
        have cs1 := hu1.cs
        have nt2 := hu2.nt
        have cs2 := hu2.cs
        try simp (disch := first | omega | (simp; done) | fail) [wrap64c, if_pos, if_neg, lw, g0, z0, c1, c2, g1, z1, hr', z2, nt1, cs1, nt2, cs2, putCells]
        refine done_ret (by simp [putCells, z2]; rfl) ⟨(by first | exact aK | exact kK), _, by rw [runR_good ⟨c1, c2⟩, hr]; rfl, ?_⟩
        rw [runR_good ⟨c1, c2⟩, hr]
        refine ⟨u2, u1, Btw h1.next h2.next, Btw h0.next h1.next, by simp, hu2.same (Same.put (Same.refl _ _) (by unfold Btw; omega) _), (hu1.keep ha2.1).same (Same.put (Same.refl _ _) (by unfold Btw; omega) _), ?_, ?_, ?_⟩ <;> intro x <;> simp [Btw] <;> omega
    · try simp (disch := first | omega | (simp; done) | fail) [wrap64c, if_pos, if_neg, lw, g0, z0, c1, c2, putCells]
      refine done_ret (by simp [putCells, z0]; rfl) ⟨(by first | exact aK | exact kK), _, by rw [runR_bad (fun q => c2 q.2)]; rfl, ?_⟩
      rw [runR_bad (fun q => c2 q.2)]
      exact .nil _ _
  · have c1' : goodB L A = false := by simpa using c1
    try simp (disch := first | omega | (simp; done) | fail) [wrap64c, if_pos, if_neg, lw, g0, z0, c1, c1', putCells]
    refine done_ret (by simp [putCells, z0]; rfl) ⟨(by first | exact aK | exact kK), _, by rw [runR_bad (fun q => c1 q.1)]; rfl, ?_⟩
    rw [runR_bad (fun q => c1 q.1)]
    exact .nil _ _

theorem imRunChips_ok : FnCIC 19 runR := by
  intro h v w L A ms hv hw
  refine callY_L (args := [v, w]) 45 _ [.cell 4 27, .tmp 5] Try.func19 rfl rfl rfl ?_
  have hv0 := hv
  obtain ⟨a, b, rfl, hL, hA⟩ := hv
  have hwl := hw.len
  have lw := hw.lenD
  refine WD_first ?_
  try simp (disch := first | omega | (simp; done) | fail) [wrap64c, if_pos, if_neg, lw]
  refine stopK_heap fun h0 q_h0 => ?_
  refine stopK_go ?_
  have k0 : Adds h h0 := by rw [q_h0]; exact (by first | exact aK | exact kK)
  have n0 : h0.next = h.next + 2 := by simp [q_h0]
  have g0 : h0.get h.next = .cells [a, b] true true 1 := by simp [q_h0]
  have z0 : h0.get (h.next + 1) = .cells [.slice none 0 0, .slice none 0 0] true true 1 := by simp [q_h0]
  try simp (disch := first | omega | (simp; done) | fail) [wrap64c, if_pos, if_neg, lw, g0, z0]
  refine callG_c (by simp) (by simp) ?ha (imAreChips_ok h0 _ L A (hv0.keep k0.1)) ?_
  (case ha => simp (disch := first | omega | (simp; done) | fail) [wrap64c, if_pos, if_neg, lw, g0, z0])
  by_cases c1 : goodB L A = true
  · by_cases c2 : ms.length ≤ 120
    · have hg := good_of c1
      have ho := hg.ok
      have h5 := ho.le
      obtain ⟨r1, r2⟩ := row_le ho.sh
      try simp (disch := first | omega | (simp; done) | fail) [wrap64c, if_pos, if_neg, lw, g0, z0, c1, c2]
      obtain ⟨v1, h1, hc1, ha1, hi1⟩ := imCopied_ok h0 _ L A (hv0.keep k0.1) r1 r2 (by omega)
      obtain ⟨p, q, S1, S2, rfl, hp, hq, s1, s2, s3⟩ := hi1
      refine callG_c (by simp) (by simp) ?ha (hc1) ?_
      (case ha => simp (disch := first | omega | (simp; done) | fail) [wrap64c, if_pos, if_neg, lw, g0, z0, c1, c2])
      have z1 : h1.get (h.next + 1) = .cells [.slice none 0 0, .slice none 0 0] true true 1 := by rw [ha1.1.2 _ (by omega)]; exact z0
      have K1 := k0.trans ha1
      have n1 := ha1.1.1
      have ntp := hp.nt
      have csp := hp.cs
      have ntq := hq.nt
      have csq := hq.cs
      try simp (disch := first | omega | (simp; done) | fail) [wrap64c, if_pos, if_neg, lw, g0, z0, c1, c2, z1, ntp, csp, ntq, csq, putCells]
      first | refine WY_heap fun h2 q_h2 => ?_ | refine callG_heap fun h2 q_h2 => ?_ | refine callP_heap fun h2 q_h2 => ?_ | refine callS_heap fun h2 q_h2 => ?_ | refine RY_heap fun h2 q_h2 => ?_ | refine PY_heap fun h2 q_h2 => ?_ | refine SY_heap fun h2 q_h2 => ?_ | refine doneY_heap fun h2 q_h2 => ?_ | refine loopK_heap fun h2 q_h2 => ?_ | refine thenY_heap fun h2 q_h2 => ?_ | refine thenM_heap fun h2 q_h2 => ?_
      have K12 : Adds h1 h2 := by rw [q_h2]; exact (by first | exact aK | exact kK)
      have n2 : h2.next = h1.next + 1 := by simp [q_h2]
      have g2 : h2.get h1.next = .cells [p, q] true true 1 := by simp [q_h2]
      have z2 : h2.get (h.next + 1) = .cells [.slice none 0 0, .slice none 0 0] true true 1 := by rw [K12.1.2 _ (by omega)]; exact z1
      have hp2 := hp.keep K12.1
      have hq2 := hq.keep K12.1
      refine WD_loopC [4, 6, 20, 21] (fun m tm h' => ∃ j B, m = ms.length - j ∧ tm 22 = .int .i64 (j : Int) ∧ (j ≤ ms.length) ∧ (Upd S2 h2 h') ∧ (Adds h h') ∧ (runA L A (ms.take j) = some B) ∧ (B.length = A.length) ∧ (Ok L B) ∧ (IntsO S2 h' q B)) _ ⟨0, A, rfl, (by simp (disch := first | omega | (simp; done) | fail) [wrap64c, if_pos, if_neg, lw, g0, z0, c1, c2, z1, ntp, csp, ntq, csq, g2, z2]), (by first | omega | assumption | (simp (disch := first | omega | (simp; done) | fail) [wrap64c, if_pos, if_neg, lw, g0, z0, c1, c2, z1, ntp, csp, ntq, csq, g2, z2] <;> omega)), (Upd.refl _ _), (K1.trans K12), (by simp [runA]), rfl, ho, hq2⟩ ?_
      rintro m tm h' hFr ⟨j, B, rfl, e22, hj, hU, hk, hB, hlB, hoB, hu⟩
      simp only [FrameL] at hFr
      obtain ⟨f4_0, f6_0, f20_0, f21_0, -⟩ := hFr
      try simp (disch := first | omega | (simp; done) | fail) [wrap64c, if_pos, if_neg, lw, g0, z0, c1, c2, z1, ntp, csp, ntq, csq, g2, z2] at f4_0 f6_0 f20_0 f21_0
      have e4 := f4_0
      have e6 := f6_0
      have e20 := f20_0
      have e21 := f21_0
      have lu := hu.lenD
      have hn := hU.1
      have g3 : h'.get h1.next = .cells [p, q] true true 1 := by rw [hU.2 _ (by omega) (fun e => by have := s2 _ e; unfold Btw at this; omega)]; exact g2
      have z3 : h'.get (h.next + 1) = .cells [.slice none 0 0, .slice none 0 0] true true 1 := by rw [hU.2 _ (by omega) (fun e => by have := s2 _ e; unfold Btw at this; omega)]; exact z2
      have hp3 := hp2.same (hU.same s3)
      by_cases hlt : j < ms.length
      · obtain ⟨o_x, i_x, c_x, cs_x, own_x, ex_x, es_x, q_x, b_x, g_x, l_x, r_x⟩ := (hw.keep hk.1).open ((by omega))
        have z_x : ∀ h2 : i_x < cs_x.length, cs_x[i_x] = _ := fun h2 => r_x 0 ((by omega)) h2
        try simp (disch := first | omega | (simp; done) | fail) [wrap64c, if_pos, if_neg, lw, g0, z0, c1, c2, z1, ntp, csp, ntq, csq, g2, z2, e4, e6, e20, e21, e22, lu, g3, z3, hlt, q_x, g_x, l_x, r_x, z_x]
        have hc := within_ok h' ms[j] 0 ((B.length : Int) - 1)
        by_cases c3 : 0 ≤ ms[j] ∧ ms[j] ≤ (B.length : Int) - 1
        · rw [decide_eq_true c3] at hc
          refine callG_c (by simp) (by simp) ?ha (hc) ?_
          (case ha => simp (disch := first | omega | (simp; done) | fail) [wrap64c, if_pos, if_neg, lw, g0, z0, c1, c2, z1, ntp, csp, ntq, csq, g2, z2, e4, e6, e20, e21, e22, lu, g3, z3, hlt, q_x, g_x, l_x, r_x, z_x])
          obtain ⟨i, hi⟩ : ∃ i : Nat, ms[j] = (i : Int) := ⟨ms[j].toNat, by omega⟩
          have hiB : i < B.length := by omega
          try simp (disch := first | omega | (simp; done) | fail) [wrap64c, if_pos, if_neg, lw, g0, z0, c1, c2, z1, ntp, csp, ntq, csq, g2, z2, e4, e6, e20, e21, e22, lu, g3, z3, hlt, q_x, g_x, l_x, r_x, z_x, hi]
          refine callG_c (by simp) (by simp) ?ha (imCan_ok h' _ L B i ⟨p, q, rfl, hp3.rows, hu.ints⟩ hoB.sh hiB) ?_
          (case ha => simp (disch := first | omega | (simp; done) | fail) [wrap64c, if_pos, if_neg, lw, g0, z0, c1, c2, z1, ntp, csp, ntq, csq, g2, z2, e4, e6, e20, e21, e22, lu, g3, z3, hlt, q_x, g_x, l_x, r_x, z_x, hi])
          by_cases c4 : canB L B i = true
          · try simp (disch := first | omega | (simp; done) | fail) [wrap64c, if_pos, if_neg, lw, g0, z0, c1, c2, z1, ntp, csp, ntq, csq, g2, z2, e4, e6, e20, e21, e22, lu, g3, z3, hlt, q_x, g_x, l_x, r_x, z_x, hi, c4]
            obtain ⟨v4, h4, hc4, rfl, hW4, hu4⟩ := imMove_ok S2 S1 h' p q L B i hp3.read hu s3 hoB.sh hoB.small hiB
            refine callG_c (by simp) (by simp) ?ha (hc4) ?_
            (case ha => simp (disch := first | omega | (simp; done) | fail) [wrap64c, if_pos, if_neg, lw, g0, z0, c1, c2, z1, ntp, csp, ntq, csq, g2, z2, e4, e6, e20, e21, e22, lu, g3, z3, hlt, q_x, g_x, l_x, r_x, z_x, hi, c4])
            try simp (disch := first | omega | (simp; done) | fail) [wrap64c, if_pos, if_neg, lw, g0, z0, c1, c2, z1, ntp, csp, ntq, csq, g2, z2, e4, e6, e20, e21, e22, lu, g3, z3, hlt, q_x, g_x, l_x, r_x, z_x, hi, c4]
            refine loopK_next _ ?hm ?hf ⟨j + 1, moveA L B i, rfl, (by simp (disch := first | omega | (simp; done) | fail) [wrap64c, if_pos, if_neg, lw, g0, z0, c1, c2, z1, ntp, csp, ntq, csq, g2, z2, e4, e6, e20, e21, e22, lu, g3, z3, hlt, q_x, g_x, l_x, r_x, z_x, hi, c4] <;> omega), (by first | omega | assumption | (simp (disch := first | omega | (simp; done) | fail) [wrap64c, if_pos, if_neg, lw, g0, z0, c1, c2, z1, ntp, csp, ntq, csq, g2, z2, e4, e6, e20, e21, e22, lu, g3, z3, hlt, q_x, g_x, l_x, r_x, z_x, hi, c4] <;> omega)), (hU.trans hW4.upd), (hk.wr hW4 fun o e => by have := s2 _ e; unfold Btw at this; omega), (by rw [runA_step hlt hB, hi]; exact stepA_some hiB c4), (by simp [hlB]), (hoB.move hiB c4), hu4⟩
            (case hm => first | omega | (simp; omega))
            (case hf => simp [FrameL, lw, g0, z0, c1, c2, z1, ntp, csp, ntq, csq, g2, z2, e4, e6, e20, e21, e22, lu, g3, z3, hlt, q_x, g_x, l_x, r_x, z_x, hi, c4, f4_0, f6_0, f20_0, f21_0])
          · have c4' : canB L B i = false := by simpa using c4
            try simp (disch := first | omega | (simp; done) | fail) [wrap64c, if_pos, if_neg, lw, g0, z0, c1, c2, z1, ntp, csp, ntq, csq, g2, z2, e4, e6, e20, e21, e22, lu, g3, z3, hlt, q_x, g_x, l_x, r_x, z_x, hi, c4, c4', putCells]
            have e : runA L A ms = none := runA_stop (j := j + 1) (by rw [runA_step hlt hB, hi]; exact stepA_cannot c4')
            refine done_ret (by simp [putCells, z3, e4]; rfl) ⟨(by first | exact aK | exact kK), _, by rw [runR_good ⟨c1, c2⟩, e]; rfl, ?_⟩
            rw [runR_good ⟨c1, c2⟩, e]
            exact .nil _ _
        · rw [decide_eq_false c3] at hc
          refine callG_c (by simp) (by simp) ?ha (hc) ?_
          (case ha => simp (disch := first | omega | (simp; done) | fail) [wrap64c, if_pos, if_neg, lw, g0, z0, c1, c2, z1, ntp, csp, ntq, csq, g2, z2, e4, e6, e20, e21, e22, lu, g3, z3, hlt, q_x, g_x, l_x, r_x, z_x])
          try simp (disch := first | omega | (simp; done) | fail) [wrap64c, if_pos, if_neg, lw, g0, z0, c1, c2, z1, ntp, csp, ntq, csq, g2, z2, e4, e6, e20, e21, e22, lu, g3, z3, hlt, q_x, g_x, l_x, r_x, z_x, putCells]
          have e : runA L A ms = none := runA_stop (j := j + 1) (by rw [runA_step hlt hB]; exact stepA_out c3)
          refine done_ret (by simp [putCells, z3, e4]; rfl) ⟨(by first | exact aK | exact kK), _, by rw [runR_good ⟨c1, c2⟩, e]; rfl, ?_⟩
          rw [runR_good ⟨c1, c2⟩, e]
          exact .nil _ _
      · try simp (disch := first | omega | (simp; done) | fail) [wrap64c, if_pos, if_neg, lw, g0, z0, c1, c2, z1, ntp, csp, ntq, csq, g2, z2, e4, e6, e20, e21, e22, lu, g3, z3, hlt, putCells]
        have hj' : j = ms.length := by omega
        subst hj'
        rw [List.take_length] at hB
        refine done_ret (by simp [putCells, z3, g3, e4]; rfl) ⟨(by first | exact aK | exact kK), _, by rw [runR_good ⟨c1, c2⟩, hB]; rfl, ?_⟩
        rw [runR_good ⟨c1, c2⟩, hB]
        refine ⟨p, q, S1, S2, by simp, hp3.same (Same.put (Same.refl _ _) (fun e => by have := s1 _ e; unfold Btw at this; omega) _), hu.same (Same.put (Same.refl _ _) (fun e => by have := s2 _ e; unfold Btw at this; omega) _), fun x hx => ?_, fun x hx => ?_, s3⟩
        · have := s1 x hx; unfold Btw at *; simp; omega
        · have := s2 x hx; unfold Btw at *; simp; omega
    · try simp (disch := first | omega | (simp; done) | fail) [wrap64c, if_pos, if_neg, lw, g0, z0, c1, c2, putCells]
      refine done_ret (by simp [putCells, z0]; rfl) ⟨(by first | exact aK | exact kK), _, by rw [runR_bad (fun q => c2 q.2)]; rfl, ?_⟩
      rw [runR_bad (fun q => c2 q.2)]
      exact .nil _ _
  · have c1' : goodB L A = false := by simpa using c1
    try simp (disch := first | omega | (simp; done) | fail) [wrap64c, if_pos, if_neg, lw, g0, z0, c1, c1', putCells]
    refine done_ret (by simp [putCells, z0]; rfl) ⟨(by first | exact aK | exact kK), _, by rw [runR_bad (fun q => c1 q.1)]; rfl, ?_⟩
    rw [runR_bad (fun q => c1 q.1)]
    exact .nil _ _
end Go.Proofs.Ytnnjehonbolliaa
