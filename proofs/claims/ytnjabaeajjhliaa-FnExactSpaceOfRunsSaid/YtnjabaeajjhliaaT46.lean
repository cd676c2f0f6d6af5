/- The space of runs, by the reference. -/
import Derived.Test.YtnjabaeajjhliaaT45
namespace Go.Proofs.Ytnjabaeajjhliaa
set_option linter.unusedSimpArgs false
set_option linter.unusedVariables false
set_option maxHeartbeats 4000000
open Go Go.Eng
attribute [local irreducible] WD RunD PreD Runs CallOK

/-- What a call that makes a space and a list has made. -/
def SpL (h h' : Hp) (u1 u2 : Value) (N : Int) (X P : List Int) : Prop := ∃ c, h.next ≤ c ∧ c ≤ h'.next ∧ SpaceO (Btw c h'.next) h' u1 N X ∧ IntsO (Btw h.next c) h' u2 P
theorem rsN_no {L : List (List Int)} {A : List Int} (h : rsB L A = false) : rsN L A = 0 ∧ rsX L A = [] ∧ rsP L A = [] := by simp [rsN, rsX, rsP, h]
theorem shl_op (a s : Nat) (ha : a ≤ 7) (hs : s ≤ 7) : bShl .i64 ((bit a : Nat) - 1 : Int) (s : Int) = ((shN a s : Nat) : Int) := by
  have := bit7 ha
  have e : ((bit a : Nat) : Int) - 1 = ((bit a - 1 : Nat) : Int) := by omega
  rw [e, bShl_nat _ _ (by omega) (by omega) (by omega) (by omega)]; simp [shN]

theorem Rn.zero_of {L : List (List Int)} {A x B : List Int} (h : Rn L A x B) (hx : x.sum ≤ 0) : x = List.replicate A.length 0 := by
  refine (eq_of_sum (by simp [h.len.2]) (fun i => ?_) (by simpa using hx)).symm
  have h1 := h.nn i
  have h2 : (List.replicate A.length (0 : Int)).getD i 0 = 0 := by simp [List.getD_eq_getElem?_getD, List.getElem?_replicate]; split <;> simp
  omega
theorem ia_box {n o : Nat} {h : Hp} {w a s : Value} {xs : List Int} {p : Option Addr} {i c : Nat} (hw : IntsA n h w xs) (hg : h.get o = .cells [a, s] true true 1) (hs : s = .slice p i c) : ¬ ObjIn w o := by
  intro ho
  rcases hw with ⟨_, rfl⟩ | ⟨q, ex, rfl, g1, g2, g3⟩
  · exact ho
  · cases ho
    rw [hg] at g3
    have e := congrArg (fun l => (match l with | AObj.cells c _ _ _ => c[1]? | _ => none)) g3
    simp only [List.getElem?_cons_succ, List.getElem?_cons_zero, List.getElem?_map] at e
    rw [hs] at e
    cases h1 : xs[1]? with
    | none => rw [h1] at e; cases e
    | some y => rw [h1] at e; cases e

theorem ia_form {n : Nat} {h : Hp} {w : Value} {xs : List Int} (hw : IntsA n h w xs) : ∃ p i c, w = .slice p i c := by
  rcases hw with ⟨_, rfl⟩ | ⟨q, ex, rfl, _⟩
  · exact ⟨_, _, _, rfl⟩
  · exact ⟨_, _, _, rfl⟩
theorem specRS_ok (h : Hp) (v : Value) (L : List (List Int)) (A : List Int) (hv : Chips h v L A) :
    ∃ v' h', CallOK Try.prog 59 #[v] h v' h' ∧ Adds h h' ∧ ∃ u1 u2, v' = .tuple #[u1, u2, .bool (rsB L A)] ∧ SpL h h' u1 u2 (rsN L A) (rsX L A) (rsP L A) := by
  refine callY_L (args := [v]) 112 _ [.cell 2 32, .tmp 3, .tmp 4] Try.func59 rfl rfl rfl ?_
  have hv0 := hv
  obtain ⟨a, b, rfl, hL, hA⟩ := hv
  have lA := hA.lenD
  refine WD_first ?_
  try simp (disch := first | omega | (simp; done) | fail) [wrap64c, if_pos, if_neg, opAnd, opOr, opXor, opDiff, opShr, opBit, lA]
  refine stopK_heap fun h0 q_h0 => ?_
  refine stopK_go ?_
  have k0 : Adds h h0 := by rw [q_h0]; exact (by first | exact aK | exact kK)
  have n0 : h0.next = h.next + 2 := by simp [q_h0]
  have gc0 : h0.get h.next = .cells [a, b] true true 1 := by simp [q_h0]
  have gz0 : h0.get (h.next + 1) = .cells [.int .i64 0, .slice none 0 0] true true 1 := by simp [q_h0]
  try simp (disch := first | omega | (simp; done) | fail) [wrap64c, if_pos, if_neg, opAnd, opOr, opXor, opDiff, opShr, opBit, lA, gc0, gz0]
  refine callG_c (by simp) (by simp) ?ha (waGood_ok h0 _ L A (hv0.keep k0.1)) ?_
  (case ha => simp (disch := first | omega | (simp; done) | fail) [wrap64c, if_pos, if_neg, opAnd, opOr, opXor, opDiff, opShr, opBit, lA, gc0, gz0])
  by_cases c1 : goodB L A = true
  case neg =>
    have c1' : goodB L A = false := by simpa using c1
    have hk : rsB L A = false := by simp [rsB, countsR, fullR, c1, fst?]
    try simp (disch := first | omega | (simp; done) | fail) [wrap64c, if_pos, if_neg, opAnd, opOr, opXor, opDiff, opShr, opBit, lA, gc0, gz0, c1, c1', putCells]
    refine done_ret (by simp [putCells, gz0]; rfl) ⟨by have := k0; exact (by first | exact aK | exact kK), .agg #[.int .i64 0, .slice none 0 0], .slice none 0 0, by rw [hk]; rfl, _, by have := k0.1.1; simp; omega, Nat.le_refl _, ?_, ?_⟩
    · rw [(rsN_no hk).1, (rsN_no hk).2.1]
      exact .nil _ _
    · rw [(rsN_no hk).2.2]
      exact .nil _ _
  have ho := (good_of c1).ok
  have h5 := ho.sh.le
  try simp (disch := first | omega | (simp; done) | fail) [wrap64c, if_pos, if_neg, opAnd, opOr, opXor, opDiff, opShr, opBit, lA, gc0, gz0, c1]
  obtain ⟨v1, h1, hc1, ha1, u1, u2, rfl, hu1, hu2⟩ := waFull_ok h0 _ (.slice none 0 0) L A [] (hv0.keep k0.1) (Ints.nil _) ho (by simp)
  have eB : fullR L A [] = fullA L [] 61 [] A := if_pos c1
  rw [← eB] at hc1 hu1
  refine callG_c (by simp) (by simp) ?ha (hc1) ?_
  (case ha => simp (disch := first | omega | (simp; done) | fail) [wrap64c, if_pos, if_neg, opAnd, opOr, opXor, opDiff, opShr, opBit, lA, gc0, gz0, c1])
  have n1 := ha1.1.1
  have K1 := k0.trans ha1
  have gc1 : h1.get h.next = .cells [a, b] true true 1 := by rw [ha1.1.2 _ (by omega)]; exact gc0
  have gz1 : h1.get (h.next + 1) = .cells [.int .i64 0, .slice none 0 0] true true 1 := by rw [ha1.1.2 _ (by omega)]; exact gz0
  cases hf : fullR L A [] with
  | none =>
    have hf' := hf
    have hk : rsB L A = false := by simp [rsB, countsR, hf, fst?]
    try simp (disch := first | omega | (simp; done) | fail) [wrap64c, if_pos, if_neg, opAnd, opOr, opXor, opDiff, opShr, opBit, lA, gc0, gz0, c1, gc1, gz1, hf', putCells]
    refine done_ret (by simp [putCells, gz1]; rfl) ⟨by have := K1; exact (by first | exact aK | exact kK), .agg #[.int .i64 0, .slice none 0 0], .slice none 0 0, by rw [hk]; rfl, _, by have := K1.1.1; simp; omega, Nat.le_refl _, ?_, ?_⟩
    · rw [(rsN_no hk).1, (rsN_no hk).2.1]
      exact .nil _ _
    · rw [(rsN_no hk).2.2]
      exact .nil _ _
  | some p =>
  obtain ⟨run, E⟩ := p
  have hf' := hf
  have f := fullR_fin (by simp) hf
  have hR : run.length ≤ 60 := (fullR_len (by simp) hf).1
  have hrb : ∀ x ∈ run, 0 ≤ x ∧ x < A.length := (fullA_run (L := L) (A := A) (run := []) (cs := []) (n := 61) (r := run) (B := E) (by simp) (by rw [← eB]; exact hf) (by simp) (by simp)).2.1
  obtain ⟨r1, r2, r3, r4, r5, r6, r7⟩ := rs_full hf ho.sh
  rw [hf] at hu1
  have hfr : fRun (some (run, E)) = run := rfl
  have lu1 := hu1.lenD
  have nt1 := hu1.nt
  cases c2 : sizeB (run.length : Int)
  · have hk : rsB L A = false := by rw [r7, c2]
    try simp (disch := first | omega | (simp; done) | fail) [wrap64c, if_pos, if_neg, opAnd, opOr, opXor, opDiff, opShr, opBit, lA, gc0, gz0, c1, gc1, gz1, hf', hfr, lu1, nt1, c2]
    refine callG_c (by simp) (by simp) ?ha (spItems_ok h1 (run.length : Int)) ?_
    (case ha => simp (disch := first | omega | (simp; done) | fail) [wrap64c, if_pos, if_neg, opAnd, opOr, opXor, opDiff, opShr, opBit, lA, gc0, gz0, c1, gc1, gz1, hf', hfr, lu1, nt1, c2])
    try simp (disch := first | omega | (simp; done) | fail) [wrap64c, if_pos, if_neg, opAnd, opOr, opXor, opDiff, opShr, opBit, lA, gc0, gz0, c1, gc1, gz1, hf', hfr, lu1, nt1, c2, putCells]
    refine done_ret (by simp [putCells, gz1]; rfl) ⟨by have := K1; exact (by first | exact aK | exact kK), .agg #[.int .i64 0, .slice none 0 0], .slice none 0 0, by rw [hk]; rfl, _, by have := K1.1.1; simp; omega, Nat.le_refl _, ?_, ?_⟩
    · rw [(rsN_no hk).1, (rsN_no hk).2.1]
      exact .nil _ _
    · rw [(rsN_no hk).2.2]
      exact .nil _ _
  have hk : rsB L A = true := by rw [r7, c2]
  have hR7 : 1 ≤ run.length ∧ run.length ≤ 7 := by obtain ⟨m, h1, h2, h3⟩ := sizeB_true c2; omega
  try simp (disch := first | omega | (simp; done) | fail) [wrap64c, if_pos, if_neg, opAnd, opOr, opXor, opDiff, opShr, opBit, lA, gc0, gz0, c1, gc1, gz1, hf', hfr, lu1, nt1, c2]
  refine callG_c (by simp) (by simp) ?ha (spItems_ok h1 (run.length : Int)) ?_
  (case ha => simp (disch := first | omega | (simp; done) | fail) [wrap64c, if_pos, if_neg, opAnd, opOr, opXor, opDiff, opShr, opBit, lA, gc0, gz0, c1, gc1, gz1, hf', hfr, lu1, nt1, c2])
  try simp (disch := first | omega | (simp; done) | fail) [wrap64c, if_pos, if_neg, opAnd, opOr, opXor, opDiff, opShr, opBit, lA, gc0, gz0, c1, gc1, gz1, hf', hfr, lu1, nt1, c2]
  obtain ⟨u3, h3, hc3, ha3, hu3⟩ := waCounts_ok h1 u1 run A.length hu1.ints h5 hrb hR
  refine callG_c (by simp) (by simp) ?ha (hc3) ?_
  (case ha => simp (disch := first | omega | (simp; done) | fail) [wrap64c, if_pos, if_neg, opAnd, opOr, opXor, opDiff, opShr, opBit, lA, gc0, gz0, c1, gc1, gz1, hf', hfr, lu1, nt1, c2])
  have n3 := ha3.1.1
  have K3 := K1.trans ha3
  have gc3 : h3.get h.next = .cells [a, b] true true 1 := by rw [ha3.1.2 _ (by omega)]; exact gc1
  have gz3 : h3.get (h.next + 1) = .cells [.int .i64 0, .slice none 0 0] true true 1 := by rw [ha3.1.2 _ (by omega)]; exact gz1
  rw [← r1] at hu3
  obtain ⟨F, hF⟩ : ∃ F, F = rsF L A := ⟨_, rfl⟩
  rw [← hF] at hu3 r2 r3 r4 r5 r6
  have lu3 := hu3.lenD
  have lx := r3
  try simp (disch := first | omega | (simp; done) | fail) [wrap64c, if_pos, if_neg, opAnd, opOr, opXor, opDiff, opShr, opBit, lA, gc0, gz0, c1, gc1, gz1, hf', hfr, lu1, nt1, c2, lu3, lx]
  refine WD_loopC [1, 2, 5, 44, 45] (fun m tm h' => ∃ i p q, m = A.length - i ∧ tm 9 = p ∧ tm 10 = q ∧ tm 46 = .int .i64 (i : Int) ∧ (i ≤ A.length) ∧ (Keeps h3 h') ∧ (Adds h h') ∧ (IntsA h3.next h' p (placesN F i)) ∧ (IntsA h3.next h' q (startsL F i)) ∧ (OffF (ObjIn p) q)) _ ⟨0, .slice none 0 0, .slice none 0 0, rfl, (by simp (disch := first | omega | (simp; done) | fail) [wrap64c, if_pos, if_neg, opAnd, opOr, opXor, opDiff, opShr, opBit, lA, gc0, gz0, c1, gc1, gz1, hf', hfr, lu1, nt1, c2, lu3, lx]), (by simp (disch := first | omega | (simp; done) | fail) [wrap64c, if_pos, if_neg, opAnd, opOr, opXor, opDiff, opShr, opBit, lA, gc0, gz0, c1, gc1, gz1, hf', hfr, lu1, nt1, c2, lu3, lx]), (by simp (disch := first | omega | (simp; done) | fail) [wrap64c, if_pos, if_neg, opAnd, opOr, opXor, opDiff, opShr, opBit, lA, gc0, gz0, c1, gc1, gz1, hf', hfr, lu1, nt1, c2, lu3, lx]), (by first | omega | assumption | (simp (disch := first | omega | (simp; done) | fail) [wrap64c, if_pos, if_neg, opAnd, opOr, opXor, opDiff, opShr, opBit, lA, gc0, gz0, c1, gc1, gz1, hf', hfr, lu1, nt1, c2, lu3, lx] <;> omega)), (Keeps.refl _), K3, (.nil _ _), (.nil _ _), (OffF.nil _ _ _)⟩ ?_
  rintro m tm h' hFr ⟨i, p, q, rfl, e9, e10, e46, hi, ha, hA4, hp, hq, hoff⟩
  simp only [FrameL] at hFr
  obtain ⟨f1_0, f2_0, f5_0, f44_0, f45_0, -⟩ := hFr
  try simp (disch := first | omega | (simp; done) | fail) [wrap64c, if_pos, if_neg, opAnd, opOr, opXor, opDiff, opShr, opBit, lA, gc0, gz0, c1, gc1, gz1, hf', hfr, lu1, nt1, c2, lu3, lx] at f1_0 f2_0 f5_0 f44_0 f45_0
  have e1 := f1_0
  have e2 := f2_0
  have e5 := f5_0
  have e44 := f44_0
  have e45 := f45_0
  rename Hp => h4
  have n4 := ha.1
  have hpl : (placesN F i).length ≤ run.length := by rcases r5 i with h | h; exact h; omega
  have lp := hp.lenD
  have ntp := hp.nt
  have ntq := hq.nt
  by_cases hlt : i < A.length
  · obtain ⟨o_x, i_x, c_x, cs_x, own_x, ex_x, es_x, q_x, b_x, g_x, l_x, r_x⟩ := ((hu3.keep ha).ints).open ((by omega))
    have z_x : ∀ h2 : i_x < cs_x.length, cs_x[i_x] = _ := fun h2 => r_x 0 ((by omega)) h2
    have hiF : i < F.length := by omega
    have hFi := r4 _ (List.getElem_mem hiF)
    have hpl2 : (placesN F (i + 1)).length ≤ run.length := by rcases r5 (i + 1) with h | h; exact h; omega
    have hsl := startsL_len F i
    rw [placesN_succ, List.length_append, List.length_replicate, getD_at hiF] at hpl2
    try simp (disch := first | omega | (simp; done) | fail) [wrap64c, if_pos, if_neg, opAnd, opOr, opXor, opDiff, opShr, opBit, lA, gc0, gz0, c1, gc1, gz1, hf', hfr, lu1, nt1, c2, lu3, lx, e1, e2, e5, e9, e10, e44, e45, e46, lp, ntp, ntq, hlt, q_x, g_x, l_x, r_x, z_x, hiF]
    obtain ⟨q2, h5', hap, hq2, hp2, hoff2, hA5, n5, hs5, _⟩ := app1of2 hq hp hoff ((placesN F i).length : Int) (by omega) (by omega) hA4 (by have := K3.1.1; omega)
    try simp (disch := first | omega | (simp; done) | fail) [wrap64c, if_pos, if_neg, opAnd, opOr, opXor, opDiff, opShr, opBit, lA, gc0, gz0, c1, gc1, gz1, hf', hfr, lu1, nt1, c2, lu3, lx, e1, e2, e5, e9, e10, e44, e45, e46, lp, ntp, ntq, hlt, q_x, g_x, l_x, r_x, z_x, hiF, hap]
    obtain ⟨c, hc⟩ : ∃ c : Nat, F[i] = (c : Int) := ⟨F[i].toNat, by omega⟩
    have hcc := hc
    refine WD_loopC [1, 2, 5, 10, 11, 44, 45, 46] (fun m tm h' => ∃ j p2, m = c - j ∧ tm 9 = p2 ∧ tm 12 = .int .i64 ((c : Int) - j) ∧ (j ≤ c) ∧ (Keeps h3 h') ∧ (Adds h h') ∧ (IntsA h3.next h' p2 (placesN F i ++ List.replicate j (i : Int))) ∧ (IntsA h3.next h' q2 (startsL F (i + 1))) ∧ (OffF (ObjIn p2) q2)) _ ⟨0, p, rfl, (by simp (disch := first | omega | (simp; done) | fail) [wrap64c, if_pos, if_neg, opAnd, opOr, opXor, opDiff, opShr, opBit, lA, gc0, gz0, c1, gc1, gz1, hf', hfr, lu1, nt1, c2, lu3, lx, e1, e2, e5, e9, e10, e44, e45, e46, lp, ntp, ntq, hlt, q_x, g_x, l_x, r_x, z_x, hiF, hcc]), (by simp (disch := first | omega | (simp; done) | fail) [wrap64c, if_pos, if_neg, opAnd, opOr, opXor, opDiff, opShr, opBit, lA, gc0, gz0, c1, gc1, gz1, hf', hfr, lu1, nt1, c2, lu3, lx, e1, e2, e5, e9, e10, e44, e45, e46, lp, ntp, ntq, hlt, q_x, g_x, l_x, r_x, z_x, hiF, hcc]), (by first | omega | assumption | (simp (disch := first | omega | (simp; done) | fail) [wrap64c, if_pos, if_neg, opAnd, opOr, opXor, opDiff, opShr, opBit, lA, gc0, gz0, c1, gc1, gz1, hf', hfr, lu1, nt1, c2, lu3, lx, e1, e2, e5, e9, e10, e44, e45, e46, lp, ntp, ntq, hlt, q_x, g_x, l_x, r_x, z_x, hiF, hcc] <;> omega)), ⟨by omega, fun o ho => by rw [hs5 o ho]; exact ha.2 o ho⟩, hA5, (by simpa using hp2), (by rw [startsL_succ]; exact hq2), hoff2⟩ ?_
    rintro m tm h' hFr ⟨j, p2, rfl, e9, e12, hj, ha6, hA6, hp6, hq6, hoff6⟩
    simp only [FrameL] at hFr
    obtain ⟨f1_1, f2_1, f5_1, f10_1, f11_1, f44_1, f45_1, f46_1, -⟩ := hFr
    try simp (disch := first | omega | (simp; done) | fail) [wrap64c, if_pos, if_neg, opAnd, opOr, opXor, opDiff, opShr, opBit, lA, gc0, gz0, c1, gc1, gz1, hf', hfr, lu1, nt1, c2, lu3, lx, e1, e2, e5, e9, e10, e44, e45, e46, lp, ntp, ntq, hlt, q_x, g_x, l_x, r_x, z_x, hiF, hcc] at f1_1 f2_1 f5_1 f10_1 f11_1 f44_1 f45_1 f46_1
    have e1 := f1_1
    have e2 := f2_1
    have e5 := f5_1
    have e10 := f10_1
    have e11 := f11_1
    have e44 := f44_1
    have e45 := f45_1
    have e46 := f46_1
    rename Hp => h6
    have n6 := ha6.1
    have ntp6 := hp6.nt
    by_cases hjc : j < c
    · have hpos : (0 : Int) < (c : Int) - j := by omega
      try simp (disch := first | omega | (simp; done) | fail) [wrap64c, if_pos, if_neg, opAnd, opOr, opXor, opDiff, opShr, opBit, lA, gc0, gz0, c1, gc1, gz1, hf', hfr, lu1, nt1, c2, lu3, lx, e1, e2, e5, e9, e10, e44, e45, e46, lp, ntp, ntq, hlt, q_x, g_x, l_x, r_x, z_x, hiF, hcc, e11, e12, ntp6, hpos]
      obtain ⟨p7, h7, hap7, hp7, hq7, hoff7, hA7, n7, hs7, _⟩ := app1of2 hp6 hq6 (off_comm hp6 hq6 hoff6) (i : Int) (by simp; omega) (by omega) hA6 (by have := K3.1.1; omega)
      try simp (disch := first | omega | (simp; done) | fail) [wrap64c, if_pos, if_neg, opAnd, opOr, opXor, opDiff, opShr, opBit, lA, gc0, gz0, c1, gc1, gz1, hf', hfr, lu1, nt1, c2, lu3, lx, e1, e2, e5, e9, e10, e44, e45, e46, lp, ntp, ntq, hlt, q_x, g_x, l_x, r_x, z_x, hiF, hcc, e11, e12, ntp6, hpos, hap7]
      refine loopK_next _ ?hm ?hf ⟨j + 1, p7, rfl, (by simp (disch := first | omega | (simp; done) | fail) [wrap64c, if_pos, if_neg, opAnd, opOr, opXor, opDiff, opShr, opBit, lA, gc0, gz0, c1, gc1, gz1, hf', hfr, lu1, nt1, c2, lu3, lx, e1, e2, e5, e9, e10, e44, e45, e46, lp, ntp, ntq, hlt, q_x, g_x, l_x, r_x, z_x, hiF, hcc, e11, e12, ntp6, hpos] <;> omega), (by simp; omega), (by first | omega | assumption | (simp (disch := first | omega | (simp; done) | fail) [wrap64c, if_pos, if_neg, opAnd, opOr, opXor, opDiff, opShr, opBit, lA, gc0, gz0, c1, gc1, gz1, hf', hfr, lu1, nt1, c2, lu3, lx, e1, e2, e5, e9, e10, e44, e45, e46, lp, ntp, ntq, hlt, q_x, g_x, l_x, r_x, z_x, hiF, hcc, e11, e12, ntp6, hpos] <;> omega)), ⟨by omega, fun o ho => by rw [hs7 o ho]; exact ha6.2 o ho⟩, (by first | omega | assumption | (simp (disch := first | omega | (simp; done) | fail) [wrap64c, if_pos, if_neg, opAnd, opOr, opXor, opDiff, opShr, opBit, lA, gc0, gz0, c1, gc1, gz1, hf', hfr, lu1, nt1, c2, lu3, lx, e1, e2, e5, e9, e10, e44, e45, e46, lp, ntp, ntq, hlt, q_x, g_x, l_x, r_x, z_x, hiF, hcc, e11, e12, ntp6, hpos] <;> omega)), (by rw [List.replicate_succ', ← List.append_assoc]; exact hp7), (by first | omega | assumption | (simp (disch := first | omega | (simp; done) | fail) [wrap64c, if_pos, if_neg, opAnd, opOr, opXor, opDiff, opShr, opBit, lA, gc0, gz0, c1, gc1, gz1, hf', hfr, lu1, nt1, c2, lu3, lx, e1, e2, e5, e9, e10, e44, e45, e46, lp, ntp, ntq, hlt, q_x, g_x, l_x, r_x, z_x, hiF, hcc, e11, e12, ntp6, hpos] <;> omega)), (off_comm hq7 hp7 hoff7)⟩
      (case hm => first | omega | (simp; omega))
      (case hf => simp [FrameL, lA, gc0, gz0, c1, gc1, gz1, hf', hfr, lu1, nt1, c2, lu3, lx, e1, e2, e5, e9, e10, e44, e45, e46, lp, ntp, ntq, hlt, q_x, g_x, l_x, r_x, z_x, hiF, hcc, e11, e12, ntp6, hpos, f1_1, f2_1, f5_1, f10_1, f11_1, f44_1, f45_1, f46_1])
    · have hjj : j = c := by omega
      have hpos : ¬ (0 : Int) < (c : Int) - j := by omega
      try simp (disch := first | omega | (simp; done) | fail) [wrap64c, if_pos, if_neg, opAnd, opOr, opXor, opDiff, opShr, opBit, lA, gc0, gz0, c1, gc1, gz1, hf', hfr, lu1, nt1, c2, lu3, lx, e1, e2, e5, e9, e10, e44, e45, e46, lp, ntp, ntq, hlt, q_x, g_x, l_x, r_x, z_x, hiF, hcc, e11, e12, ntp6, hpos]
      refine loopK_next _ ?hm ?hf ⟨i + 1, p2, q2, rfl, (by simp (disch := first | omega | (simp; done) | fail) [wrap64c, if_pos, if_neg, opAnd, opOr, opXor, opDiff, opShr, opBit, lA, gc0, gz0, c1, gc1, gz1, hf', hfr, lu1, nt1, c2, lu3, lx, e1, e2, e5, e9, e10, e44, e45, e46, lp, ntp, ntq, hlt, q_x, g_x, l_x, r_x, z_x, hiF, hcc, e11, e12, ntp6, hpos] <;> omega), (by simp (disch := first | omega | (simp; done) | fail) [wrap64c, if_pos, if_neg, opAnd, opOr, opXor, opDiff, opShr, opBit, lA, gc0, gz0, c1, gc1, gz1, hf', hfr, lu1, nt1, c2, lu3, lx, e1, e2, e5, e9, e10, e44, e45, e46, lp, ntp, ntq, hlt, q_x, g_x, l_x, r_x, z_x, hiF, hcc, e11, e12, ntp6, hpos] <;> omega), (by simp (disch := first | omega | (simp; done) | fail) [wrap64c, if_pos, if_neg, opAnd, opOr, opXor, opDiff, opShr, opBit, lA, gc0, gz0, c1, gc1, gz1, hf', hfr, lu1, nt1, c2, lu3, lx, e1, e2, e5, e9, e10, e44, e45, e46, lp, ntp, ntq, hlt, q_x, g_x, l_x, r_x, z_x, hiF, hcc, e11, e12, ntp6, hpos] <;> omega), (by first | omega | assumption | (simp (disch := first | omega | (simp; done) | fail) [wrap64c, if_pos, if_neg, opAnd, opOr, opXor, opDiff, opShr, opBit, lA, gc0, gz0, c1, gc1, gz1, hf', hfr, lu1, nt1, c2, lu3, lx, e1, e2, e5, e9, e10, e44, e45, e46, lp, ntp, ntq, hlt, q_x, g_x, l_x, r_x, z_x, hiF, hcc, e11, e12, ntp6, hpos] <;> omega)), (by first | omega | assumption | (simp (disch := first | omega | (simp; done) | fail) [wrap64c, if_pos, if_neg, opAnd, opOr, opXor, opDiff, opShr, opBit, lA, gc0, gz0, c1, gc1, gz1, hf', hfr, lu1, nt1, c2, lu3, lx, e1, e2, e5, e9, e10, e44, e45, e46, lp, ntp, ntq, hlt, q_x, g_x, l_x, r_x, z_x, hiF, hcc, e11, e12, ntp6, hpos] <;> omega)), (by first | omega | assumption | (simp (disch := first | omega | (simp; done) | fail) [wrap64c, if_pos, if_neg, opAnd, opOr, opXor, opDiff, opShr, opBit, lA, gc0, gz0, c1, gc1, gz1, hf', hfr, lu1, nt1, c2, lu3, lx, e1, e2, e5, e9, e10, e44, e45, e46, lp, ntp, ntq, hlt, q_x, g_x, l_x, r_x, z_x, hiF, hcc, e11, e12, ntp6, hpos] <;> omega)), (by rw [placesN_succ, getD_at hiF, hc, Int.toNat_natCast, ← hjj]; exact hp6), (by first | omega | assumption | (simp (disch := first | omega | (simp; done) | fail) [wrap64c, if_pos, if_neg, opAnd, opOr, opXor, opDiff, opShr, opBit, lA, gc0, gz0, c1, gc1, gz1, hf', hfr, lu1, nt1, c2, lu3, lx, e1, e2, e5, e9, e10, e44, e45, e46, lp, ntp, ntq, hlt, q_x, g_x, l_x, r_x, z_x, hiF, hcc, e11, e12, ntp6, hpos] <;> omega)), (by first | omega | assumption | (simp (disch := first | omega | (simp; done) | fail) [wrap64c, if_pos, if_neg, opAnd, opOr, opXor, opDiff, opShr, opBit, lA, gc0, gz0, c1, gc1, gz1, hf', hfr, lu1, nt1, c2, lu3, lx, e1, e2, e5, e9, e10, e44, e45, e46, lp, ntp, ntq, hlt, q_x, g_x, l_x, r_x, z_x, hiF, hcc, e11, e12, ntp6, hpos] <;> omega))⟩
      (case hm => first | omega | (simp; omega))
      (case hf => simp [FrameL, lA, gc0, gz0, c1, gc1, gz1, hf', hfr, lu1, nt1, c2, lu3, lx, e1, e2, e5, e9, e10, e44, e45, e46, lp, ntp, ntq, hlt, q_x, g_x, l_x, r_x, z_x, hiF, hcc, e11, e12, ntp6, hpos, f1_0, f2_0, f5_0, f44_0, f45_0])
  have hie : i = A.length := by omega
  subst hie
  have hP := hp.own (by omega)
  have hQ := hq.own (by simp; omega)
  have gc4 : h4.get h.next = .cells [a, b] true true 1 := by rw [ha.2 _ (by omega)]; exact gc3
  have gz4 : h4.get (h.next + 1) = .cells [.int .i64 0, .slice none 0 0] true true 1 := by rw [ha.2 _ (by omega)]; exact gz3
  have m3 := hA4.1.1
  have csp := hP.cs
  have ntP := hP.nt
  try simp (disch := first | omega | (simp; done) | fail) [wrap64c, if_pos, if_neg, opAnd, opOr, opXor, opDiff, opShr, opBit, lA, gc0, gz0, c1, gc1, gz1, hf', hfr, lu1, nt1, c2, lu3, lx, e1, e2, e5, e9, e10, e44, e45, e46, lp, ntp, ntq, hlt, gc4, csp, ntP, putCells]
  first | refine WY_heap fun h8 q_h8 => ?_ | refine callG_heap fun h8 q_h8 => ?_ | refine callP_heap fun h8 q_h8 => ?_ | refine RY_heap fun h8 q_h8 => ?_ | refine PY_heap fun h8 q_h8 => ?_ | refine doneY_heap fun h8 q_h8 => ?_ | refine loopK_heap fun h8 q_h8 => ?_ | refine thenY_heap fun h8 q_h8 => ?_ | refine thenM_heap fun h8 q_h8 => ?_
  have k8 : Adds h4 h8 := by rw [q_h8]; exact (by first | exact aK | exact kK)
  have n8 : h8.next = h4.next + 2 := by simp [q_h8]
  have g8 : h8.get (h4.next + 1) = .cells [.int .i64 (run.length : Int), .slice (some ⟨h4.next, 0, none⟩) 1 1] true true 1 := by simp [q_h8]
  have gl8 : h8.get h4.next = .cells [.int .i64 0] true true 1 := by simp [q_h8]
  have gc8 : h8.get h.next = .cells [a, b] true true 1 := by rw [k8.1.2 _ (by omega)]; exact gc4
  have gz8 : h8.get (h.next + 1) = .cells [.int .i64 0, .slice none 0 0] true true 1 := by rw [k8.1.2 _ (by omega)]; exact gz4
  have K8 := hA4.trans k8
  obtain ⟨v9, h9, hc9, ha9, hg9⟩ := waStart_ok ho.sh h8 (.agg #[a, b]) (hv0.keep K8.1)
  have n9 := ha9.1.1
  have A9 := K8.trans ha9
  try simp (disch := first | omega | (simp; done) | fail) [wrap64c, if_pos, if_neg, opAnd, opOr, opXor, opDiff, opShr, opBit, lA, gc0, gz0, c1, gc1, gz1, hf', hfr, lu1, nt1, c2, lu3, lx, e1, e2, e5, e9, e10, e44, e45, e46, lp, ntp, ntq, hlt, gc4, csp, ntP, gc8]
  refine callG_c (by simp) (by simp) ?ha (hc9) ?_
  (case ha => simp (disch := first | omega | (simp; done) | fail) [wrap64c, if_pos, if_neg, opAnd, opOr, opXor, opDiff, opShr, opBit, lA, gc0, gz0, c1, gc1, gz1, hf', hfr, lu1, nt1, c2, lu3, lx, e1, e2, e5, e9, e10, e44, e45, e46, lp, ntp, ntq, hlt, gc4, csp, ntP, gc8])
  have hw9 : IntsA h4.next h9 (.slice (some ⟨h4.next, 0, none⟩) 1 1) (toN [0]) := .inr ⟨h4.next, true, rfl, Nat.le_refl _, by omega, by rw [ha9.1.2 _ (by omega)]; exact gl8⟩
  try simp (disch := first | omega | (simp; done) | fail) [wrap64c, if_pos, if_neg, opAnd, opOr, opXor, opDiff, opShr, opBit, lA, gc0, gz0, c1, gc1, gz1, hf', hfr, lu1, nt1, c2, lu3, lx, e1, e2, e5, e9, e10, e44, e45, e46, lp, ntp, ntq, hlt, gc4, csp, ntP, gc8]
  refine WD_loopC [1, 2, 9, 10, 13, 72] (fun m tm h' => ∃ j w l z Bz, m = run.length - j ∧ tm 14 = z ∧ tm 73 = .int .i64 (j : Int) ∧ (j ≤ run.length) ∧ (Adds h h') ∧ (h9.next ≤ h'.next) ∧ (GL 3 stR Bz h' z (stateS L A j)) ∧ (h'.get h.next = .cells [a, b] true true 1) ∧ (h'.get (h.next + 1) = .cells [.int .i64 0, .slice none 0 0] true true 1) ∧ (h'.get (h4.next + 1) = .cells [.int .i64 (run.length : Int), w] true true 1) ∧ (IntsO (Btw h3.next h4.next) h' p (placesN F A.length)) ∧ (IntsO (Btw h3.next h4.next) h' q (startsL F A.length)) ∧ (IntsA h4.next h' w (toN l)) ∧ (l.Pairwise (· < ·)) ∧ (∀ a ∈ l, a < 128 ∧ ∃ x B, Rn L A x B ∧ setN F x A.length = a) ∧ (∀ x B, Rn L A x B → x.sum ≤ (j : Int) → setN F x A.length ∈ l)) _ ⟨0, _, [0], v9, _, rfl, (by simp (disch := first | omega | (simp; done) | fail) [wrap64c, if_pos, if_neg, opAnd, opOr, opXor, opDiff, opShr, opBit, lA, gc0, gz0, c1, gc1, gz1, hf', hfr, lu1, nt1, c2, lu3, lx, e1, e2, e5, e9, e10, e44, e45, e46, lp, ntp, ntq, hlt, gc4, csp, ntP, gc8]), (by simp (disch := first | omega | (simp; done) | fail) [wrap64c, if_pos, if_neg, opAnd, opOr, opXor, opDiff, opShr, opBit, lA, gc0, gz0, c1, gc1, gz1, hf', hfr, lu1, nt1, c2, lu3, lx, e1, e2, e5, e9, e10, e44, e45, e46, lp, ntp, ntq, hlt, gc4, csp, ntP, gc8]), (by first | omega | assumption | (simp (disch := first | omega | (simp; done) | fail) [wrap64c, if_pos, if_neg, opAnd, opOr, opXor, opDiff, opShr, opBit, lA, gc0, gz0, c1, gc1, gz1, hf', hfr, lu1, nt1, c2, lu3, lx, e1, e2, e5, e9, e10, e44, e45, e46, lp, ntp, ntq, hlt, gc4, csp, ntP, gc8] <;> omega)), A9, (by first | omega | assumption | (simp (disch := first | omega | (simp; done) | fail) [wrap64c, if_pos, if_neg, opAnd, opOr, opXor, opDiff, opShr, opBit, lA, gc0, gz0, c1, gc1, gz1, hf', hfr, lu1, nt1, c2, lu3, lx, e1, e2, e5, e9, e10, e44, e45, e46, lp, ntp, ntq, hlt, gc4, csp, ntP, gc8] <;> omega)), hg9, (by rw [ha9.1.2 _ (by omega)]; exact gc8), (by rw [ha9.1.2 _ (by omega)]; exact gz8), (by rw [ha9.1.2 _ (by omega)]; exact g8), ((hP.keep k8.1).keep ha9.1), ((hQ.keep k8.1).keep ha9.1), hw9, (List.pairwise_singleton _ _), (fun a ha => by simp at ha; subst ha; exact ⟨by decide, _, _, .zero, setN_zero _ _ _⟩), (fun x B hr hx => by rw [hr.zero_of (by simpa using hx), setN_zero]; simp)⟩ ?_
  rintro m tm h' hFr ⟨j, w, l, z, Bz, rfl, e14, e73, hj, hA10, hn10, hz, gc, gz, gb, hpk, hqk, hw, hls, hl1, hl2⟩
  simp only [FrameL] at hFr
  obtain ⟨f1_2, f2_2, f9_2, f10_2, f13_2, f72_2, -⟩ := hFr
  try simp (disch := first | omega | (simp; done) | fail) [wrap64c, if_pos, if_neg, opAnd, opOr, opXor, opDiff, opShr, opBit, lA, gc0, gz0, c1, gc1, gz1, hf', hfr, lu1, nt1, c2, lu3, lx, e1, e2, e5, e9, e10, e44, e45, e46, lp, ntp, ntq, hlt, gc4, csp, ntP, gc8] at f1_2 f2_2 f9_2 f10_2 f13_2 f72_2
  have e1 := f1_2
  have e2 := f2_2
  have e9 := f9_2
  have e10 := f10_2
  have e13 := f13_2
  have e72 := f72_2
  rename Hp => h10
  obtain ⟨hI, _, hcm⟩ := stateS_inv f ho.sh j hj
  have hwI := ia_form hw
  obtain ⟨wp, wi, wc, hwf⟩ := hwI
  by_cases hlj : j < run.length
  case neg =>
    have hje : j = run.length := by omega
    have hlj' : ¬ (j : Int) < (run.length : Int) := by omega
    have hlX : l = runSets L A F := runSets_eq hls hl1 fun x B hr => hl2 x B hr (by have := f.le ho.sh hr; omega)
    have gz' := gz
    have hww := ia_obj hw
    have hll : l.length ≤ 128 := by rw [hlX]; exact famK_len _ _
    have hwO := hw.own (by simp; omega)
    have ntw := hwO.nt
    have csw := hwO.cs
    try simp (disch := first | omega | (simp; done) | fail) [wrap64c, if_pos, if_neg, opAnd, opOr, opXor, opDiff, opShr, opBit, lA, gc0, gz0, c1, gc1, gz1, hf', hfr, lu1, nt1, c2, lu3, lx, e1, e2, e5, e9, e10, e44, e45, e46, lp, ntp, ntq, hlt, gc4, csp, ntP, gc8, e13, e14, e72, e73, gc, gb, hlj', gz', ntw, csw, putCells]
    have m10 := hA10.1.1
    refine done_ret (by simp [putCells, e2]; rfl) ⟨(by first | exact aK | exact kK), .agg #[.int .i64 (run.length : Int), w], p, by rw [hk]; rfl, h4.next, by omega, by simp; omega, ?_, ?_⟩
    · have y1 : rsN L A = (run.length : Int) := by rw [rsN, if_pos hk, ← hF]; show ((startN F A.length : Nat) : Int) = _; rw [r2]
      have y2 : rsX L A = toN l := by rw [rsX, if_pos hk, ← hF, hlX]
      rw [y1, y2]
      exact ⟨w, rfl, (hwO.same (Same.put (Same.refl _ _) (by unfold Btw; omega) _)).sub fun o ho => ⟨ho.1, by have := ho.2; simp; omega⟩⟩
    · have y3 : rsP L A = placesN F A.length := by rw [rsP, if_pos hk, ← hF]
      rw [y3]
      exact (hpk.same (Same.put (Same.refl _ _) (by unfold Btw; omega) _)).sub fun o ho => ⟨by have := ho.1; omega, by have := ho.2; omega⟩
  have hlj' : (j : Int) < (run.length : Int) := by omega
  obtain ⟨z11, h11, hc11, ha11, hg11⟩ := waStates_ok f ho.sh ho hR hlj h10 (.agg #[a, b]) z _ Bz (hv0.keep hA10.1) hz hI
  have n11 := ha11.1.1
  try simp (disch := first | omega | (simp; done) | fail) [wrap64c, if_pos, if_neg, opAnd, opOr, opXor, opDiff, opShr, opBit, lA, gc0, gz0, c1, gc1, gz1, hf', hfr, lu1, nt1, c2, lu3, lx, e1, e2, e5, e9, e10, e44, e45, e46, lp, ntp, ntq, hlt, gc4, csp, ntP, gc8, e13, e14, e72, e73, gc, gb, hlj']
  refine callG_c (by simp) (by simp) ?ha (hc11) ?_
  (case ha => simp (disch := first | omega | (simp; done) | fail) [wrap64c, if_pos, if_neg, opAnd, opOr, opXor, opDiff, opShr, opBit, lA, gc0, gz0, c1, gc1, gz1, hf', hfr, lu1, nt1, c2, lu3, lx, e1, e2, e5, e9, e10, e44, e45, e46, lp, ntp, ntq, hlt, gc4, csp, ntP, gc8, e13, e14, e72, e73, gc, gb, hlj'])
  have A11 := hA10.trans ha11
  have m11 := A11.1.1
  obtain ⟨hI2, _, hcm2⟩ := stateS_inv f ho.sh (j + 1) (by omega)
  have hTl := hI2.small ho.sh (by omega)
  have eT : stepS L (stateS L A j) = stateS L A (j + 1) := rfl
  rw [eT] at hg11
  obtain ⟨T, hT⟩ : ∃ T, T = stateS L A (j + 1) := ⟨_, rfl⟩
  rw [← hT] at hg11 hI2 hcm2 hTl
  have lT := hg11.lenD
  have gc11 : h11.get h.next = .cells [a, b] true true 1 := by rw [ha11.1.2 _ (by omega)]; exact gc
  have gz11 : h11.get (h.next + 1) = .cells [.int .i64 0, .slice none 0 0] true true 1 := by rw [ha11.1.2 _ (by omega)]; exact gz
  have gb11 : h11.get (h4.next + 1) = .cells [.int .i64 (run.length : Int), w] true true 1 := by rw [ha11.1.2 _ (by omega)]; exact gb
  try simp (disch := first | omega | (simp; done) | fail) [wrap64c, if_pos, if_neg, opAnd, opOr, opXor, opDiff, opShr, opBit, lA, gc0, gz0, c1, gc1, gz1, hf', hfr, lu1, nt1, c2, lu3, lx, e1, e2, e5, e9, e10, e44, e45, e46, lp, ntp, ntq, hlt, gc4, csp, ntP, gc8, e13, e14, e72, e73, gc, gb, hlj', lT]
  refine WD_loopC [1, 2, 9, 10, 13, 14, 72, 73, 78, 79] (fun m tm h' => ∃ e w2 l2, m = T.length - e ∧ tm 80 = .int .i64 (e : Int) ∧ (e ≤ T.length) ∧ (Adds h h') ∧ (h11.next ≤ h'.next) ∧ (Same (fun o => o ≠ h4.next + 1) h11 h') ∧ (h'.get (h4.next + 1) = .cells [.int .i64 (run.length : Int), w2] true true 1) ∧ (IntsA h4.next h' w2 (toN l2)) ∧ (l2.Pairwise (· < ·)) ∧ (∀ a ∈ l2, a < 128 ∧ ∃ x B, Rn L A x B ∧ setN F x A.length = a) ∧ (∀ a ∈ l, a ∈ l2) ∧ (∀ c (hc : c < T.length), c < e → setN F T[c].x A.length ∈ l2)) _ ⟨0, w, l, rfl, (by simp (disch := first | omega | (simp; done) | fail) [wrap64c, if_pos, if_neg, opAnd, opOr, opXor, opDiff, opShr, opBit, lA, gc0, gz0, c1, gc1, gz1, hf', hfr, lu1, nt1, c2, lu3, lx, e1, e2, e5, e9, e10, e44, e45, e46, lp, ntp, ntq, hlt, gc4, csp, ntP, gc8, e13, e14, e72, e73, gc, gb, hlj', lT]), (by first | omega | assumption | (simp (disch := first | omega | (simp; done) | fail) [wrap64c, if_pos, if_neg, opAnd, opOr, opXor, opDiff, opShr, opBit, lA, gc0, gz0, c1, gc1, gz1, hf', hfr, lu1, nt1, c2, lu3, lx, e1, e2, e5, e9, e10, e44, e45, e46, lp, ntp, ntq, hlt, gc4, csp, ntP, gc8, e13, e14, e72, e73, gc, gb, hlj', lT] <;> omega)), A11, (by first | omega | assumption | (simp (disch := first | omega | (simp; done) | fail) [wrap64c, if_pos, if_neg, opAnd, opOr, opXor, opDiff, opShr, opBit, lA, gc0, gz0, c1, gc1, gz1, hf', hfr, lu1, nt1, c2, lu3, lx, e1, e2, e5, e9, e10, e44, e45, e46, lp, ntp, ntq, hlt, gc4, csp, ntP, gc8, e13, e14, e72, e73, gc, gb, hlj', lT] <;> omega)), (Same.refl _ _), gb11, (ia_keep hw ha11.1), hls, hl1, (fun a h => h), (fun c _ h => by omega)⟩ ?_
  rintro m tm h' hFr ⟨e, w2, l2, rfl, e80, he, hA12, hn12, hS12, gb2, hw2, hls2, hl12, hl22, hl32⟩
  simp only [FrameL] at hFr
  obtain ⟨f1_3, f2_3, f9_3, f10_3, f13_3, f14_3, f72_3, f73_3, f78_3, f79_3, -⟩ := hFr
  try simp (disch := first | omega | (simp; done) | fail) [wrap64c, if_pos, if_neg, opAnd, opOr, opXor, opDiff, opShr, opBit, lA, gc0, gz0, c1, gc1, gz1, hf', hfr, lu1, nt1, c2, lu3, lx, e1, e2, e5, e9, e10, e44, e45, e46, lp, ntp, ntq, hlt, gc4, csp, ntP, gc8, e13, e14, e72, e73, gc, gb, hlj', lT] at f1_3 f2_3 f9_3 f10_3 f13_3 f14_3 f72_3 f73_3 f78_3 f79_3
  have e1 := f1_3
  have e2 := f2_3
  have e9 := f9_3
  have e10 := f10_3
  have e13 := f13_3
  have e14 := f14_3
  have e72 := f72_3
  have e73 := f73_3
  have e78 := f78_3
  have e79 := f79_3
  rename Hp => h12
  have n12 := hS12.1
  by_cases hle : e < T.length
  case neg =>
    have hee : e = T.length := by omega
    try simp (disch := first | omega | (simp; done) | fail) [wrap64c, if_pos, if_neg, opAnd, opOr, opXor, opDiff, opShr, opBit, lA, gc0, gz0, c1, gc1, gz1, hf', hfr, lu1, nt1, c2, lu3, lx, e1, e2, e5, e9, e10, e44, e45, e46, lp, ntp, ntq, hlt, gc4, csp, ntP, gc8, e13, e14, e72, e73, gc, gb, hlj', lT, e78, e79, e80, gb2, hle]
    refine loopK_next _ ?hm ?hf ⟨j + 1, w2, l2, z11, h10.next, rfl, (by simp (disch := first | omega | (simp; done) | fail) [wrap64c, if_pos, if_neg, opAnd, opOr, opXor, opDiff, opShr, opBit, lA, gc0, gz0, c1, gc1, gz1, hf', hfr, lu1, nt1, c2, lu3, lx, e1, e2, e5, e9, e10, e44, e45, e46, lp, ntp, ntq, hlt, gc4, csp, ntP, gc8, e13, e14, e72, e73, gc, gb, hlj', lT, e78, e79, e80, gb2, hle] <;> omega), (by simp (disch := first | omega | (simp; done) | fail) [wrap64c, if_pos, if_neg, opAnd, opOr, opXor, opDiff, opShr, opBit, lA, gc0, gz0, c1, gc1, gz1, hf', hfr, lu1, nt1, c2, lu3, lx, e1, e2, e5, e9, e10, e44, e45, e46, lp, ntp, ntq, hlt, gc4, csp, ntP, gc8, e13, e14, e72, e73, gc, gb, hlj', lT, e78, e79, e80, gb2, hle] <;> omega), (by first | omega | assumption | (simp (disch := first | omega | (simp; done) | fail) [wrap64c, if_pos, if_neg, opAnd, opOr, opXor, opDiff, opShr, opBit, lA, gc0, gz0, c1, gc1, gz1, hf', hfr, lu1, nt1, c2, lu3, lx, e1, e2, e5, e9, e10, e44, e45, e46, lp, ntp, ntq, hlt, gc4, csp, ntP, gc8, e13, e14, e72, e73, gc, gb, hlj', lT, e78, e79, e80, gb2, hle] <;> omega)), hA12, (by omega), (by rw [← hT]; exact hg11.same stR_steady ⟨hS12.1, fun o ho hl => hS12.2 o (by omega) hl⟩), (by rw [hS12.2 _ (by omega) (by omega)]; exact gc11), (by rw [hS12.2 _ (by omega) (by omega)]; exact gz11), (by first | omega | assumption | (simp (disch := first | omega | (simp; done) | fail) [wrap64c, if_pos, if_neg, opAnd, opOr, opXor, opDiff, opShr, opBit, lA, gc0, gz0, c1, gc1, gz1, hf', hfr, lu1, nt1, c2, lu3, lx, e1, e2, e5, e9, e10, e44, e45, e46, lp, ntp, ntq, hlt, gc4, csp, ntP, gc8, e13, e14, e72, e73, gc, gb, hlj', lT, e78, e79, e80, gb2, hle] <;> omega)), ((hpk.keep ha11.1).same ⟨hS12.1, fun o ho hl => hS12.2 o (by have := ho.2; omega) hl⟩), ((hqk.keep ha11.1).same ⟨hS12.1, fun o ho hl => hS12.2 o (by have := ho.2; omega) hl⟩), (by first | omega | assumption | (simp (disch := first | omega | (simp; done) | fail) [wrap64c, if_pos, if_neg, opAnd, opOr, opXor, opDiff, opShr, opBit, lA, gc0, gz0, c1, gc1, gz1, hf', hfr, lu1, nt1, c2, lu3, lx, e1, e2, e5, e9, e10, e44, e45, e46, lp, ntp, ntq, hlt, gc4, csp, ntP, gc8, e13, e14, e72, e73, gc, gb, hlj', lT, e78, e79, e80, gb2, hle] <;> omega)), (by first | omega | assumption | (simp (disch := first | omega | (simp; done) | fail) [wrap64c, if_pos, if_neg, opAnd, opOr, opXor, opDiff, opShr, opBit, lA, gc0, gz0, c1, gc1, gz1, hf', hfr, lu1, nt1, c2, lu3, lx, e1, e2, e5, e9, e10, e44, e45, e46, lp, ntp, ntq, hlt, gc4, csp, ntP, gc8, e13, e14, e72, e73, gc, gb, hlj', lT, e78, e79, e80, gb2, hle] <;> omega)), (by first | omega | assumption | (simp (disch := first | omega | (simp; done) | fail) [wrap64c, if_pos, if_neg, opAnd, opOr, opXor, opDiff, opShr, opBit, lA, gc0, gz0, c1, gc1, gz1, hf', hfr, lu1, nt1, c2, lu3, lx, e1, e2, e5, e9, e10, e44, e45, e46, lp, ntp, ntq, hlt, gc4, csp, ntP, gc8, e13, e14, e72, e73, gc, gb, hlj', lT, e78, e79, e80, gb2, hle] <;> omega)), ?c_hl2⟩
    (case hm => first | omega | (simp; omega))
    (case hf => simp [FrameL, lA, gc0, gz0, c1, gc1, gz1, hf', hfr, lu1, nt1, c2, lu3, lx, e1, e2, e5, e9, e10, e44, e45, e46, lp, ntp, ntq, hlt, gc4, csp, ntP, gc8, e13, e14, e72, e73, gc, gb, hlj', lT, e78, e79, e80, gb2, hle, f1_2, f2_2, f9_2, f10_2, f13_2, f72_2])
    case c_hl2 =>
      exact (fun x B hr hx => by
        by_cases hxj : x.sum ≤ (j : Int)
        · exact hl22 _ (hl2 x B hr hxj)
        · obtain ⟨s, hs, e2⟩ := List.mem_map.1 (hcm2 x B hr (by omega))
          obtain ⟨c, hc, rfl⟩ := List.getElem_of_mem hs
          rw [← e2]
          exact hl32 c hc (by omega))
  obtain ⟨os, cs, exs, y, z', y1, y2, y3, y4, y5, ⟨y6, y7, y8⟩, y9, y10⟩ := stG_at hg11 hle
  have y3q : h12.get os = .cells cs true exs 3 := by rw [hS12.2 _ (by omega) y2.2]; exact y3
  have y1' := y1
  have hj3 : e * 3 + 3 ≤ T.length * 3 := by omega
  have nty := y9.ints.nt
  have csy := y9.ints.cs
  have ntz := y10.ints.nt
  have csz := y10.ints.cs
  have hy12 := y9.same ⟨hS12.1, fun o ho hl => hS12.2 o (by omega) hl⟩
  obtain ⟨hrn, hsx⟩ := hI2.rn _ (List.getElem_mem hle)
  have hlen := hrn.len
  have hxb := hrn.small (by omega)
  have lY := hy12.lenD
  obtain ⟨x, hx⟩ : ∃ x, x = T[e].x := ⟨_, rfl⟩
  rw [← hx] at hrn hsx hlen hxb hy12 lY
  have hxl : x.length = A.length := hlen.2
  have hxF := r6 _ _ hrn
  have hstn : ∀ k, k ≤ A.length → startN F k ≤ 7 := fun k hk => by rcases r5 k with h | h <;> omega
  have hsv : ∀ k, k ≤ A.length → setN F x k < 128 := fun k hk => Nat.lt_of_lt_of_le (setN_lt hxF k) (bit7 (hstn k hk)).2
  try simp (disch := first | omega | (simp; done) | fail) [wrap64c, if_pos, if_neg, opAnd, opOr, opXor, opDiff, opShr, opBit, lA, gc0, gz0, c1, gc1, gz1, hf', hfr, lu1, nt1, c2, lu3, lx, e1, e2, e5, e9, e10, e44, e45, e46, lp, ntp, ntq, hlt, gc4, csp, ntP, gc8, e13, e14, e72, e73, gc, gb, hlj', lT, e78, e79, e80, gb2, hle, y3q, y1', y4, y5, y6, y7, y8, hj3, nty, csy, ntz, csz, lY, hxl, putCells]
  first | refine WY_heap fun h13 q_h13 => ?_ | refine callG_heap fun h13 q_h13 => ?_ | refine callP_heap fun h13 q_h13 => ?_ | refine RY_heap fun h13 q_h13 => ?_ | refine PY_heap fun h13 q_h13 => ?_ | refine doneY_heap fun h13 q_h13 => ?_ | refine loopK_heap fun h13 q_h13 => ?_ | refine thenY_heap fun h13 q_h13 => ?_ | refine thenM_heap fun h13 q_h13 => ?_
  have k13 : Adds h12 h13 := by rw [q_h13]; exact (by first | exact aK | exact kK)
  have n13 : h13.next = h12.next + 1 := by simp [q_h13]
  have A13 := hA12.trans k13
  have gb13 : h13.get (h4.next + 1) = .cells [.int .i64 (run.length : Int), w2] true true 1 := by rw [k13.1.2 _ (by omega)]; exact gb2
  have hy13 := hy12.keep k13.1
  have hq13 : IntsO (Btw h3.next h4.next) h13 q (startsL F A.length) := ((hqk.keep ha11.1).same ⟨hS12.1, fun o ho hl => hS12.2 o (by have := ho.2; omega) hl⟩).keep k13.1
  have lq13 := hq13.lenD
  have hsl13 := startsL_len F A.length
  refine WD_loopC [1, 2, 9, 10, 13, 14, 72, 73, 78, 79, 80, 85, 86] (fun m tm h' => ∃ k, m = A.length - k ∧ h13 = h' ∧ tm 17 = .int .i64 ((setN F x k : Nat) : Int) ∧ tm 87 = .int .i64 (k : Int) ∧ (k ≤ A.length)) _ ⟨0, rfl, rfl, (by simp [setN]), (by simp (disch := first | omega | (simp; done) | fail) [wrap64c, if_pos, if_neg, opAnd, opOr, opXor, opDiff, opShr, opBit, lA, gc0, gz0, c1, gc1, gz1, hf', hfr, lu1, nt1, c2, lu3, lx, e1, e2, e5, e9, e10, e44, e45, e46, lp, ntp, ntq, hlt, gc4, csp, ntP, gc8, e13, e14, e72, e73, gc, gb, hlj', lT, e78, e79, e80, gb2, hle, y3q, y1', y4, y5, y6, y7, y8, hj3, nty, csy, ntz, csz, lY, hxl, gb13, lq13, hsl13]), (by first | omega | assumption | (simp (disch := first | omega | (simp; done) | fail) [wrap64c, if_pos, if_neg, opAnd, opOr, opXor, opDiff, opShr, opBit, lA, gc0, gz0, c1, gc1, gz1, hf', hfr, lu1, nt1, c2, lu3, lx, e1, e2, e5, e9, e10, e44, e45, e46, lp, ntp, ntq, hlt, gc4, csp, ntP, gc8, e13, e14, e72, e73, gc, gb, hlj', lT, e78, e79, e80, gb2, hle, y3q, y1', y4, y5, y6, y7, y8, hj3, nty, csy, ntz, csz, lY, hxl, gb13, lq13, hsl13] <;> omega))⟩ ?_
  rintro m tm h' hFr ⟨k, rfl, rfl, e17, e87, hkA⟩
  simp only [FrameL] at hFr
  obtain ⟨f1_4, f2_4, f9_4, f10_4, f13_4, f14_4, f72_4, f73_4, f78_4, f79_4, f80_4, f85_4, f86_4, -⟩ := hFr
  try simp (disch := first | omega | (simp; done) | fail) [wrap64c, if_pos, if_neg, opAnd, opOr, opXor, opDiff, opShr, opBit, lA, gc0, gz0, c1, gc1, gz1, hf', hfr, lu1, nt1, c2, lu3, lx, e1, e2, e5, e9, e10, e44, e45, e46, lp, ntp, ntq, hlt, gc4, csp, ntP, gc8, e13, e14, e72, e73, gc, gb, hlj', lT, e78, e79, e80, gb2, hle, y3q, y1', y4, y5, y6, y7, y8, hj3, nty, csy, ntz, csz, lY, hxl, gb13, lq13, hsl13] at f1_4 f2_4 f9_4 f10_4 f13_4 f14_4 f72_4 f73_4 f78_4 f79_4 f80_4 f85_4 f86_4
  have e1 := f1_4
  have e2 := f2_4
  have e9 := f9_4
  have e10 := f10_4
  have e13 := f13_4
  have e14 := f14_4
  have e72 := f72_4
  have e73 := f73_4
  have e78 := f78_4
  have e79 := f79_4
  have e80 := f80_4
  have e85 := f85_4
  have e86 := f86_4
  by_cases hkl : k < A.length
  · have hkx : k < x.length := by omega
    obtain ⟨o_u, i_u, c_u, cs_u, own_u, ex_u, es_u, q_u, b_u, g_u, l_u, r_u⟩ := (hy13.ints).open ((by omega))
    have z_u : ∀ h2 : i_u < cs_u.length, cs_u[i_u] = _ := fun h2 => r_u 0 ((by omega)) h2
    obtain ⟨o_s, i_s, c_s, cs_s, own_s, ex_s, es_s, q_s, b_s, g_s, l_s, r_s⟩ := (hq13.ints).open ((by simp; omega))
    have z_s : ∀ h2 : i_s < cs_s.length, cs_s[i_s] = _ := fun h2 => r_s 0 ((by simp; omega)) h2
    have hxk := hxb _ (List.getElem_mem hkx)
    have hxk7 := le_sum (fun y hy => (hxb y hy).1) (List.getElem_mem hkx)
    obtain ⟨c, hc⟩ : ∃ c : Nat, x[k] = (c : Int) := ⟨x[k].toNat, by omega⟩
    have hcc := hc
    have hc7 : c ≤ 7 := by omega
    have hs7 := hstn k (by omega)
    have hbb := bit7 hc7
    have hsh := shl_op c (startN F k) hc7 hs7
    have hsg := startsL_get F A.length k (by simp; omega)
    have hsk := hsv k (by omega)
    have hsl2 : shN c (startN F k) < 2 ^ 20 := Nat.lt_of_lt_of_le (shl_lt c (startN F k)) (bit_mono (by omega))
    try simp (disch := first | omega | (simp; done) | fail) [wrap64c, if_pos, if_neg, opAnd, opOr, opXor, opDiff, opShr, opBit, lA, gc0, gz0, c1, gc1, gz1, hf', hfr, lu1, nt1, c2, lu3, lx, e1, e2, e5, e9, e10, e44, e45, e46, lp, ntp, ntq, hlt, gc4, csp, ntP, gc8, e13, e14, e72, e73, gc, gb, hlj', lT, e78, e79, e80, gb2, hle, y3q, y1', y4, y5, y6, y7, y8, hj3, nty, csy, ntz, csz, lY, hxl, gb13, lq13, hsl13, e17, e85, e86, e87, hkl, hkx, q_u, g_u, l_u, r_u, z_u, q_s, g_s, l_s, r_s, z_s, hcc, hsh, hsg]
    refine WD_drawC 9 rfl (by kernel_rfl) ?_
    try simp (disch := first | omega | (simp; done) | fail) [wrap64c, if_pos, if_neg, opAnd, opOr, opXor, opDiff, opShr, opBit, lA, gc0, gz0, c1, gc1, gz1, hf', hfr, lu1, nt1, c2, lu3, lx, e1, e2, e5, e9, e10, e44, e45, e46, lp, ntp, ntq, hlt, gc4, csp, ntP, gc8, e13, e14, e72, e73, gc, gb, hlj', lT, e78, e79, e80, gb2, hle, y3q, y1', y4, y5, y6, y7, y8, hj3, nty, csy, ntz, csz, lY, hxl, gb13, lq13, hsl13, e17, e85, e86, e87, hkl, hkx, q_u, g_u, l_u, r_u, z_u, q_s, g_s, l_s, r_s, z_s, hcc, hsh, hsg]
    refine loopK_next _ ?hm ?hf ⟨k + 1, rfl, rfl, (by rw [setN, getD_at hkx, hc, Int.toNat_natCast]; simp), (by simp (disch := first | omega | (simp; done) | fail) [wrap64c, if_pos, if_neg, opAnd, opOr, opXor, opDiff, opShr, opBit, lA, gc0, gz0, c1, gc1, gz1, hf', hfr, lu1, nt1, c2, lu3, lx, e1, e2, e5, e9, e10, e44, e45, e46, lp, ntp, ntq, hlt, gc4, csp, ntP, gc8, e13, e14, e72, e73, gc, gb, hlj', lT, e78, e79, e80, gb2, hle, y3q, y1', y4, y5, y6, y7, y8, hj3, nty, csy, ntz, csz, lY, hxl, gb13, lq13, hsl13, e17, e85, e86, e87, hkl, hkx, q_u, g_u, l_u, r_u, z_u, q_s, g_s, l_s, r_s, z_s, hcc, hsh, hsg] <;> omega), (by first | omega | assumption | (simp (disch := first | omega | (simp; done) | fail) [wrap64c, if_pos, if_neg, opAnd, opOr, opXor, opDiff, opShr, opBit, lA, gc0, gz0, c1, gc1, gz1, hf', hfr, lu1, nt1, c2, lu3, lx, e1, e2, e5, e9, e10, e44, e45, e46, lp, ntp, ntq, hlt, gc4, csp, ntP, gc8, e13, e14, e72, e73, gc, gb, hlj', lT, e78, e79, e80, gb2, hle, y3q, y1', y4, y5, y6, y7, y8, hj3, nty, csy, ntz, csz, lY, hxl, gb13, lq13, hsl13, e17, e85, e86, e87, hkl, hkx, q_u, g_u, l_u, r_u, z_u, q_s, g_s, l_s, r_s, z_s, hcc, hsh, hsg] <;> omega))⟩
    (case hm => first | omega | (simp; omega))
    (case hf => simp [FrameL, lA, gc0, gz0, c1, gc1, gz1, hf', hfr, lu1, nt1, c2, lu3, lx, e1, e2, e5, e9, e10, e44, e45, e46, lp, ntp, ntq, hlt, gc4, csp, ntP, gc8, e13, e14, e72, e73, gc, gb, hlj', lT, e78, e79, e80, gb2, hle, y3q, y1', y4, y5, y6, y7, y8, hj3, nty, csy, ntz, csz, lY, hxl, gb13, lq13, hsl13, e17, e85, e86, e87, hkl, hkx, q_u, g_u, l_u, r_u, z_u, q_s, g_s, l_s, r_s, z_s, hcc, hsh, hsg, f1_4, f2_4, f9_4, f10_4, f13_4, f14_4, f72_4, f73_4, f78_4, f79_4, f80_4, f85_4, f86_4])
  · have hke : k = A.length := by omega
    obtain ⟨a0, ha0⟩ : ∃ a, a = setN F x A.length := ⟨_, rfl⟩
    have ha0l : a0 < 128 := by rw [ha0]; exact hsv _ (Nat.le_refl _)
    rw [hke, ← ha0] at e17
    have hl2l : l2.length ≤ 128 := by
      have := srt_len (lo := 0) (m := 128) hls2 fun a ha => ⟨Nat.zero_le _, (hl12 a ha).1⟩
      omega
    obtain ⟨w14, h14, hc14, ha14, hw14⟩ := l1Put_ok h13 h4.next w2 l2 a0 (ia_keep hw2 k13.1) hls2 (by omega) (by omega)
    have hput := spPut_of h13 w2 w14 _ h14 hc14
    have n14 := ha14.1.1
    have gb14 : h14.get (h4.next + 1) = .cells [.int .i64 (run.length : Int), w2] true true 1 := by rw [ha14.1.2 _ (by omega)]; exact gb13
    have A14 := A13.trans ha14
    obtain ⟨wp2, wi2, wc2, hwf2⟩ := ia_form hw2
    have hno := ia_box hw14 gb14 hwf2
    have ntw2 : notTup w2 = true := by rw [hwf2]; rfl
    have csw2 : w2.cells = #[w2] := by rw [hwf2]; rfl
    obtain ⟨wp4, wi4, wc4, hwf4⟩ := ia_form hw14
    have ntw4 : notTup w14 = true := by rw [hwf4]; rfl
    have csw4 : w14.cells = #[w14] := by rw [hwf4]; rfl
    try simp (disch := first | omega | (simp; done) | fail) [wrap64c, if_pos, if_neg, opAnd, opOr, opXor, opDiff, opShr, opBit, lA, gc0, gz0, c1, gc1, gz1, hf', hfr, lu1, nt1, c2, lu3, lx, e1, e2, e5, e9, e10, e44, e45, e46, lp, ntp, ntq, hlt, gc4, csp, ntP, gc8, e13, e14, e72, e73, gc, gb, hlj', lT, e78, e79, e80, gb2, hle, y3q, y1', y4, y5, y6, y7, y8, hj3, nty, csy, ntz, csz, lY, hxl, gb13, lq13, hsl13, e17, e85, e86, e87, hkl, gb14, ntw2, csw2, ntw4, csw4]
    refine callG_c (by simp) (by simp) ?ha (hput) ?_
    (case ha => simp (disch := first | omega | (simp; done) | fail) [wrap64c, if_pos, if_neg, opAnd, opOr, opXor, opDiff, opShr, opBit, lA, gc0, gz0, c1, gc1, gz1, hf', hfr, lu1, nt1, c2, lu3, lx, e1, e2, e5, e9, e10, e44, e45, e46, lp, ntp, ntq, hlt, gc4, csp, ntP, gc8, e13, e14, e72, e73, gc, gb, hlj', lT, e78, e79, e80, gb2, hle, y3q, y1', y4, y5, y6, y7, y8, hj3, nty, csy, ntz, csz, lY, hxl, gb13, lq13, hsl13, e17, e85, e86, e87, hkl, gb14, ntw2, csw2, ntw4, csw4])
    try simp (disch := first | omega | (simp; done) | fail) [wrap64c, if_pos, if_neg, opAnd, opOr, opXor, opDiff, opShr, opBit, lA, gc0, gz0, c1, gc1, gz1, hf', hfr, lu1, nt1, c2, lu3, lx, e1, e2, e5, e9, e10, e44, e45, e46, lp, ntp, ntq, hlt, gc4, csp, ntP, gc8, e13, e14, e72, e73, gc, gb, hlj', lT, e78, e79, e80, gb2, hle, y3q, y1', y4, y5, y6, y7, y8, hj3, nty, csy, ntz, csz, lY, hxl, gb13, lq13, hsl13, e17, e85, e86, e87, hkl, gb14, ntw2, csw2, ntw4, csw4, putCells]
    refine loopK_next _ ?hm ?hf ⟨e + 1, w14, putL l2 a0, rfl, (by simp (disch := first | omega | (simp; done) | fail) [wrap64c, if_pos, if_neg, opAnd, opOr, opXor, opDiff, opShr, opBit, lA, gc0, gz0, c1, gc1, gz1, hf', hfr, lu1, nt1, c2, lu3, lx, e1, e2, e5, e9, e10, e44, e45, e46, lp, ntp, ntq, hlt, gc4, csp, ntP, gc8, e13, e14, e72, e73, gc, gb, hlj', lT, e78, e79, e80, gb2, hle, y3q, y1', y4, y5, y6, y7, y8, hj3, nty, csy, ntz, csz, lY, hxl, gb13, lq13, hsl13, e17, e85, e86, e87, hkl, gb14, ntw2, csw2, ntw4, csw4] <;> omega), (by first | omega | assumption | (simp (disch := first | omega | (simp; done) | fail) [wrap64c, if_pos, if_neg, opAnd, opOr, opXor, opDiff, opShr, opBit, lA, gc0, gz0, c1, gc1, gz1, hf', hfr, lu1, nt1, c2, lu3, lx, e1, e2, e5, e9, e10, e44, e45, e46, lp, ntp, ntq, hlt, gc4, csp, ntP, gc8, e13, e14, e72, e73, gc, gb, hlj', lT, e78, e79, e80, gb2, hle, y3q, y1', y4, y5, y6, y7, y8, hj3, nty, csy, ntz, csz, lY, hxl, gb13, lq13, hsl13, e17, e85, e86, e87, hkl, gb14, ntw2, csw2, ntw4, csw4] <;> omega)), (by have := hA10.1.1; exact (by first | exact aK | exact kK)), (by simp; omega), ((hS12.trans (.of_keeps (k13.trans ha14).1)).put (fun q => q rfl) _), (by first | omega | assumption | (simp (disch := first | omega | (simp; done) | fail) [wrap64c, if_pos, if_neg, opAnd, opOr, opXor, opDiff, opShr, opBit, lA, gc0, gz0, c1, gc1, gz1, hf', hfr, lu1, nt1, c2, lu3, lx, e1, e2, e5, e9, e10, e44, e45, e46, lp, ntp, ntq, hlt, gc4, csp, ntP, gc8, e13, e14, e72, e73, gc, gb, hlj', lT, e78, e79, e80, gb2, hle, y3q, y1', y4, y5, y6, y7, y8, hj3, nty, csy, ntz, csz, lY, hxl, gb13, lq13, hsl13, e17, e85, e86, e87, hkl, gb14, ntw2, csw2, ntw4, csw4] <;> omega)), (ia_same hw14 ((Same.refl _ _).put hno _)), (putL_srt hls2 _), ?c_hl12, (fun a ha => (putL_mem _ _ _).2 (.inr (hl22 a ha))), ?c_hl32⟩
    (case hm => first | omega | (simp; omega))
    (case hf => simp [FrameL, lA, gc0, gz0, c1, gc1, gz1, hf', hfr, lu1, nt1, c2, lu3, lx, e1, e2, e5, e9, e10, e44, e45, e46, lp, ntp, ntq, hlt, gc4, csp, ntP, gc8, e13, e14, e72, e73, gc, gb, hlj', lT, e78, e79, e80, gb2, hle, y3q, y1', y4, y5, y6, y7, y8, hj3, nty, csy, ntz, csz, lY, hxl, gb13, lq13, hsl13, e17, e85, e86, e87, hkl, gb14, ntw2, csw2, ntw4, csw4, f1_3, f2_3, f9_3, f10_3, f13_3, f14_3, f72_3, f73_3, f78_3, f79_3])
    case c_hl12 =>
      exact (fun a ha => by
        rcases (putL_mem _ _ _).1 ha with rfl | ha
        · exact ⟨ha0l, x, _, hrn, ha0.symm⟩
        · exact hl12 a ha)
    case c_hl32 =>
      exact (fun c hc hce => (putL_mem _ _ _).2 (by
        by_cases ec : c = e
        · subst ec; left; rw [ha0, hx]
        · exact .inr (hl32 c hc (by omega))))
end Go.Proofs.Ytnjabaeajjhliaa
