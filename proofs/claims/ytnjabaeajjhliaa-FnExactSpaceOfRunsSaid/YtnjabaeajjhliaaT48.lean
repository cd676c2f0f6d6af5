/- The space of runs, by the program. -/
import Derived.Test.YtnjabaeajjhliaaT47
namespace Go.Proofs.Ytnjabaeajjhliaa
set_option linter.unusedSimpArgs false
set_option linter.unusedVariables false
set_option maxHeartbeats 4000000
open Go Go.Eng
attribute [local irreducible] WD RunD PreD Runs CallOK

theorem ia_box1 {n o : Nat} {h : Hp} {w s : Value} {xs : List Int} {p : Option Addr} {i c : Nat} (hw : IntsA n h w xs) (hg : h.get o = .cells [s] true true 1) (hs : s = .slice p i c) : ¬ ObjIn w o := by
  intro ho
  rcases hw with ⟨_, rfl⟩ | ⟨q, ex, rfl, g1, g2, g3⟩
  · exact ho
  · cases ho
    rw [hg] at g3
    have e := congrArg (fun l => (match l with | AObj.cells c _ _ _ => c[0]? | _ => none)) g3
    simp only [List.getElem?_cons_zero, List.getElem?_map] at e
    rw [hs] at e
    cases h1 : xs[0]? with
    | none => rw [h1] at e; cases e
    | some y => rw [h1] at e; cases e
theorem off_of {n o : Nat} {h : Hp} {v : Value} {xs : List Int} (hv : IntsA n h v xs) (ho : ¬ ObjIn v o) : OffF (fun x => x = o) v := by
  intro p i m c e hf
  rcases hv with ⟨_, e'⟩ | ⟨q, ex, e', _⟩
  · rw [e'] at e; cases e
  · rw [e'] at e; cases e; subst hf; exact ho (by rw [e']; rfl)
theorem off_low {n : Nat} {h : Hp} {v : Value} {xs : List Int} (hv : IntsA n h v xs) : OffF (fun x => x < n) v := by
  intro p i m c e hf
  rcases hv with ⟨_, e'⟩ | ⟨q, ex, e', q1, _⟩
  · rw [e'] at e; cases e
  · rw [e'] at e; cases e; omega

theorem implRS_ok (h : Hp) (v : Value) (L : List (List Int)) (A : List Int) (hv : Chips h v L A) :
    ∃ v' h', CallOK Try.prog 60 #[v] h v' h' ∧ Adds h h' ∧ ∃ u1 u2, v' = .tuple #[u1, u2, .bool (rsB L A)] ∧ SpL h h' u1 u2 (rsN L A) (rsX L A) (rsP L A) := by
  refine callY_L (args := [v]) 56 _ [.cell 2 32, .tmp 3, .tmp 4] Try.func60 rfl rfl rfl ?_
  have hv0 := hv
  obtain ⟨a, b, rfl, hL, hA⟩ := hv
  refine WD_first ?_
  try simp (disch := first | omega | (simp; done) | fail) [wrap64c, if_pos, if_neg, opAnd, opOr, opXor, opDiff, opShr, opBit]
  refine stopK_heap fun h0 q_h0 => ?_
  refine stopK_go ?_
  have k0 : Adds h h0 := by rw [q_h0]; exact (by first | exact aK | exact kK)
  have n0 : h0.next = h.next + 2 := by simp [q_h0]
  have gc0 : h0.get h.next = .cells [a, b] true true 1 := by simp [q_h0]
  have gz0 : h0.get (h.next + 1) = .cells [.int .i64 0, .slice none 0 0] true true 1 := by simp [q_h0]
  try simp (disch := first | omega | (simp; done) | fail) [wrap64c, if_pos, if_neg, opAnd, opOr, opXor, opDiff, opShr, opBit, gc0, gz0]
  obtain ⟨_, h1, hc1, ha1, u1, rfl, hu1⟩ := imMoveCounts_ok h0 (.agg #[a, b]) L A (hv0.keep k0.1)
  refine callG_c (by simp) (by simp) ?ha (hc1) ?_
  (case ha => simp (disch := first | omega | (simp; done) | fail) [wrap64c, if_pos, if_neg, opAnd, opOr, opXor, opDiff, opShr, opBit, gc0, gz0])
  have n1 := ha1.1.1
  have K1 := k0.trans ha1
  have nt1 := hu1.nt
  have cs1 := hu1.cs
  have gc1 : h1.get h.next = .cells [a, b] true true 1 := by rw [ha1.1.2 _ (by omega)]; exact gc0
  have gz1 : h1.get (h.next + 1) = .cells [.int .i64 0, .slice none 0 0] true true 1 := by rw [ha1.1.2 _ (by omega)]; exact gz0
  cases hf : fullR L A [] with
  | none =>
    have hcn : countsR L A = none := by simp [countsR, hf, fst?]
    have hk : rsB L A = false := by simp [rsB, hcn]
    try simp (disch := first | omega | (simp; done) | fail) [wrap64c, if_pos, if_neg, opAnd, opOr, opXor, opDiff, opShr, opBit, gc0, gz0, nt1, cs1, gc1, gz1, hcn, putCells, -wd_region, wd_region 0, wd_region 1, wd_region 2, wd_region 4, wd_region 5, wd_region 6, wd_region 7, wd_region 8, wd_region 9, wd_region 10, wd_region 11, wd_region 12, wd_region 13, wd_region 14, wd_region 15]
    first | refine WY_heap fun h2 q_h2 => ?_ | refine callG_heap fun h2 q_h2 => ?_ | refine callP_heap fun h2 q_h2 => ?_ | refine RY_heap fun h2 q_h2 => ?_ | refine PY_heap fun h2 q_h2 => ?_ | refine doneY_heap fun h2 q_h2 => ?_ | refine loopK_heap fun h2 q_h2 => ?_ | refine thenY_heap fun h2 q_h2 => ?_ | refine thenM_heap fun h2 q_h2 => ?_
    have k2 : Adds h1 h2 := by rw [q_h2]; exact (by first | exact aK | exact kK)
    have K2 := K1.trans k2
    have gz2 : h2.get (h.next + 1) = .cells [.int .i64 0, .slice none 0 0] true true 1 := by rw [k2.1.2 _ (by omega)]; exact gz1
    try simp (disch := first | omega | (simp; done) | fail) [wrap64c, if_pos, if_neg, opAnd, opOr, opXor, opDiff, opShr, opBit, gc0, gz0, nt1, cs1, gc1, gz1, hcn, gz2, putCells]
    refine done_ret (by simp [putCells, gz2]; rfl) ⟨by have := K2; exact (by first | exact aK | exact kK), .agg #[.int .i64 0, .slice none 0 0], .slice none 0 0, by rw [hk]; rfl, _, by have := K2.1.1; simp; omega, Nat.le_refl _, ?_, ?_⟩
    · rw [(rsN_no hk).1, (rsN_no hk).2.1]
      exact .nil _ _
    · rw [(rsN_no hk).2.2]
      exact .nil _ _
  | some p =>
  obtain ⟨run, E⟩ := p
  have f := fullR_fin (by simp) hf
  have hR : run.length ≤ 60 := (fullR_len (by simp) hf).1
  have c1 : goodB L A = true := by
    cases hg : goodB L A with
    | true => rfl
    | false => simp [fullR, hg] at hf
  have ho := (good_of c1).ok
  have h5 := ho.sh.le
  obtain ⟨r1, r2, r3, r4, r5, r6, r7⟩ := rs_full hf ho.sh
  have hcn : countsR L A = some (rsF L A) := by rw [r1]; simp [countsR, hf, fst?]
  rw [hcn] at hu1
  obtain ⟨F, hF⟩ : ∃ F, F = rsF L A := ⟨_, rfl⟩
  replace hu1 : IntsO (Btw h0.next h1.next) h1 u1 F := by rw [hF]; exact hu1
  rw [← hF] at r1 r2 r3 r4 r5 r6
  have lu1 := hu1.lenD
  have lx := r3
  try simp (disch := first | omega | (simp; done) | fail) [wrap64c, if_pos, if_neg, opAnd, opOr, opXor, opDiff, opShr, opBit, gc0, gz0, nt1, cs1, gc1, gz1, hcn, lu1, lx, putCells, -wd_region, wd_region 0, wd_region 1, wd_region 2, wd_region 3, wd_region 5, wd_region 6, wd_region 7, wd_region 8, wd_region 9, wd_region 10, wd_region 11, wd_region 12, wd_region 13, wd_region 14, wd_region 15]
  first | refine WY_heap fun h2 q_h2 => ?_ | refine callG_heap fun h2 q_h2 => ?_ | refine callP_heap fun h2 q_h2 => ?_ | refine RY_heap fun h2 q_h2 => ?_ | refine PY_heap fun h2 q_h2 => ?_ | refine doneY_heap fun h2 q_h2 => ?_ | refine loopK_heap fun h2 q_h2 => ?_ | refine thenY_heap fun h2 q_h2 => ?_ | refine thenM_heap fun h2 q_h2 => ?_
  have k2 : Adds h1 h2 := by rw [q_h2]; exact (by first | exact aK | exact kK)
  have n2 : h2.next = h1.next + 1 := by simp [q_h2]
  have K2 := K1.trans k2
  have m2 := K2.1.1
  have gc2 : h2.get h.next = .cells [a, b] true true 1 := by rw [k2.1.2 _ (by omega)]; exact gc1
  have gz2 : h2.get (h.next + 1) = .cells [.int .i64 0, .slice none 0 0] true true 1 := by rw [k2.1.2 _ (by omega)]; exact gz1
  have g52 : h2.get h1.next = .cells [u1] true true 1 := by simp [q_h2]
  have hu2 := hu1.keep k2.1
  have hz0 : zarr #[Value.int .i64 0] 0 = #[] := by simp [zarr]
  try simp (disch := first | omega | (simp; done) | fail) [wrap64c, if_pos, if_neg, opAnd, opOr, opXor, opDiff, opShr, opBit, gc0, gz0, nt1, cs1, gc1, gz1, hcn, lu1, lx, gc2, gz2, g52, hz0, putCells]
  first | refine WY_heap fun h3 q_h3 => ?_ | refine callG_heap fun h3 q_h3 => ?_ | refine callP_heap fun h3 q_h3 => ?_ | refine RY_heap fun h3 q_h3 => ?_ | refine PY_heap fun h3 q_h3 => ?_ | refine doneY_heap fun h3 q_h3 => ?_ | refine loopK_heap fun h3 q_h3 => ?_ | refine thenY_heap fun h3 q_h3 => ?_ | refine thenM_heap fun h3 q_h3 => ?_
  have k3 : Adds h2 h3 := by rw [q_h3]; exact (by first | exact aK | exact kK)
  have n3 : h3.next = h2.next + 3 := by simp [q_h3]
  have K3 := K2.trans k3
  have hpz : IntsA h2.next h3 (.slice (some ⟨h2.next, 0, none⟩) 0 0) [] := .inr ⟨h2.next, true, rfl, Nat.le_refl _, by omega, by simp [q_h3]⟩
  have hqz : IntsA h2.next h3 (.slice (some ⟨h2.next + 1, 0, none⟩) 0 0) [] := .inr ⟨h2.next + 1, true, rfl, by omega, by omega, by simp [q_h3]⟩
  refine WD_loopC [1, 2, 5, 8, 22, 23] (fun m tm h' => ∃ i p q, m = A.length - i ∧ tm 7 = p ∧ tm 24 = .int .i64 (i : Int) ∧ (i ≤ A.length) ∧ (Keeps h2 h') ∧ (Adds h h') ∧ (IntsA h2.next h' p (placesN F i)) ∧ (IntsA h2.next h' q (startsL F i)) ∧ (OffF (ObjIn p) q) ∧ (h'.get (h2.next + 2) = .cells [q] true true 1) ∧ (h2.next + 2 < h'.next)) _ ⟨0, _, .slice (some ⟨h2.next + 1, 0, none⟩) 0 0, rfl, (by simp (disch := first | omega | (simp; done) | fail) [wrap64c, if_pos, if_neg, opAnd, opOr, opXor, opDiff, opShr, opBit, gc0, gz0, nt1, cs1, gc1, gz1, hcn, lu1, lx, gc2, gz2, g52, hz0]), (by simp (disch := first | omega | (simp; done) | fail) [wrap64c, if_pos, if_neg, opAnd, opOr, opXor, opDiff, opShr, opBit, gc0, gz0, nt1, cs1, gc1, gz1, hcn, lu1, lx, gc2, gz2, g52, hz0]), (by first | omega | assumption | (simp (disch := first | omega | (simp; done) | fail) [wrap64c, if_pos, if_neg, opAnd, opOr, opXor, opDiff, opShr, opBit, gc0, gz0, nt1, cs1, gc1, gz1, hcn, lu1, lx, gc2, gz2, g52, hz0] <;> omega)), k3.1, K3, hpz, hqz, (OffF.mk (fun e => by have : h2.next = h2.next + 1 := e; omega)), (by simp [q_h3]), (by omega)⟩ ?_
  rintro m tm h' hFr ⟨i, p, q, rfl, e7, e24, hi, ha, hA4, hp, hq, hoff, g8, hnb⟩
  simp only [FrameL] at hFr
  obtain ⟨f1_0, f2_0, f5_0, f8_0, f22_0, f23_0, -⟩ := hFr
  try simp (disch := first | omega | (simp; done) | fail) [wrap64c, if_pos, if_neg, opAnd, opOr, opXor, opDiff, opShr, opBit, gc0, gz0, nt1, cs1, gc1, gz1, hcn, lu1, lx, gc2, gz2, g52, hz0] at f1_0 f2_0 f5_0 f8_0 f22_0 f23_0
  have e1 := f1_0
  have e2 := f2_0
  have e5 := f5_0
  have e8 := f8_0
  have e22 := f22_0
  have e23 := f23_0
  rename Hp => h4
  have n4 := ha.1
  have hpl : (placesN F i).length ≤ run.length := by rcases r5 i with h | h; exact h; omega
  have lp := hp.lenD
  have ntp := hp.nt
  have ntq := hq.nt
  obtain ⟨qp, qi, qc, hqf⟩ := ia_form hq
  obtain ⟨pp, pi, pc, hpf⟩ := ia_form hp
  have hnp := ia_box1 hp g8 hqf
  have hnq := ia_box1 hq g8 hqf
  by_cases hlt : i < A.length
  · obtain ⟨o_x, i_x, c_x, cs_x, own_x, ex_x, es_x, q_x, b_x, g_x, l_x, r_x⟩ := ((hu2.keep ha).ints).open ((by omega))
    have z_x : ∀ h2 : i_x < cs_x.length, cs_x[i_x] = _ := fun h2 => r_x 0 ((by omega)) h2
    have hiF : i < F.length := by omega
    have hFi := r4 _ (List.getElem_mem hiF)
    have hpl2 : (placesN F (i + 1)).length ≤ run.length := by rcases r5 (i + 1) with h | h; exact h; omega
    have hsl := startsL_len F i
    rw [placesN_succ, List.length_append, List.length_replicate, getD_at hiF] at hpl2
    have csq : q.cells = #[q] := by rw [hqf]; rfl
    try simp (disch := first | omega | (simp; done) | fail) [wrap64c, if_pos, if_neg, opAnd, opOr, opXor, opDiff, opShr, opBit, gc0, gz0, nt1, cs1, gc1, gz1, hcn, lu1, lx, gc2, gz2, g52, hz0, e1, e2, e5, e7, e8, e22, e23, e24, g8, lp, ntp, ntq, hlt, q_x, g_x, l_x, r_x, z_x, hiF, csq]
    obtain ⟨q2, h5', hap, hq2, hp2, hoff2, hA5, n5, hs5, hb5⟩ := app1of2 hq hp hoff ((placesN F i).length : Int) (by omega) (by omega) hA4 (by have := K3.1.1; omega)
    have g85 : h5'.get (h2.next + 2) = .cells [q] true true 1 := by rw [hb5 _ (by omega) (off_of hq hnq)]; exact g8
    obtain ⟨qp2, qi2, qc2, hqf2⟩ := ia_form hq2
    have ntq2 : notTup q2 = true := by rw [hqf2]; rfl
    have csq2 : q2.cells = #[q2] := by rw [hqf2]; rfl
    have hnp5 := ia_box1 hp2 g85 hqf
    have hnq5 := ia_box1 hq2 g85 hqf
    obtain ⟨c, hc⟩ : ∃ c : Nat, F[i] = (c : Int) := ⟨F[i].toNat, by omega⟩
    have hcc := hc
    try simp (disch := first | omega | (simp; done) | fail) [wrap64c, if_pos, if_neg, opAnd, opOr, opXor, opDiff, opShr, opBit, gc0, gz0, nt1, cs1, gc1, gz1, hcn, lu1, lx, gc2, gz2, g52, hz0, e1, e2, e5, e7, e8, e22, e23, e24, g8, lp, ntp, ntq, hlt, q_x, g_x, l_x, r_x, z_x, hiF, csq, g85, ntq2, csq2, hcc, hap, putCells]
    first | refine WY_heap fun h6 q_h6 => ?_ | refine callG_heap fun h6 q_h6 => ?_ | refine callP_heap fun h6 q_h6 => ?_ | refine RY_heap fun h6 q_h6 => ?_ | refine PY_heap fun h6 q_h6 => ?_ | refine doneY_heap fun h6 q_h6 => ?_ | refine loopK_heap fun h6 q_h6 => ?_ | refine thenY_heap fun h6 q_h6 => ?_ | refine thenM_heap fun h6 q_h6 => ?_
    have k6 : Same (fun x => x ≠ h2.next + 2) h5' h6 := by rw [q_h6]; exact ((Same.refl _ _).put (fun e => e rfl) _).trans (.of_keeps (Keeps.alloc _ _))
    have n6 : h6.next = h5'.next + 1 := by rw [q_h6]; simp
    have hA6 : Adds h h6 := by rw [q_h6]; have := K3.1.1; exact (by first | exact aK | exact kK)
    have g86 : h6.get (h2.next + 2) = .cells [q2] true true 1 := by rw [q_h6]; simp; omega
    have hone : Ints h6 (.slice (some ⟨h5'.next, 0, none⟩) 1 1) [(i : Int)] := (IntsO.mk (S := fun _ => True) (xs := [(i : Int)]) (ex := true) trivial (by omega) (by simp) (by rw [q_h6]; simp)).ints
    have hp6 := ia_same hp2 ⟨k6.1, fun o ho hl => k6.2 o (fun e => hnp5 (e ▸ ho)) hl⟩
    have hq6 := ia_same hq2 ⟨k6.1, fun o ho hl => k6.2 o (fun e => hnq5 (e ▸ ho)) hl⟩
    obtain ⟨u7, h7, hc7, ha7, hu7⟩ := repeat_ok h6 (.slice (some ⟨h5'.next, 0, none⟩) 1 1) (i : Int) c hone (by omega)
    refine callG_c (by simp) (by simp) ?ha (hc7) ?_
    (case ha => simp (disch := first | omega | (simp; done) | fail) [wrap64c, if_pos, if_neg, opAnd, opOr, opXor, opDiff, opShr, opBit, gc0, gz0, nt1, cs1, gc1, gz1, hcn, lu1, lx, gc2, gz2, g52, hz0, e1, e2, e5, e7, e8, e22, e23, e24, g8, lp, ntp, ntq, hlt, q_x, g_x, l_x, r_x, z_x, hiF, csq, g85, ntq2, csq2, hcc])
    have n7 := ha7.1.1
    have hp7 := ia_keep hp6 ha7.1
    have hq7 := ia_keep hq6 ha7.1
    have hqp := off_comm hp2 hq2 hoff2
    obtain ⟨p8, h8, hap8, hp8, hA8, n8, hsm8, hof8⟩ := append_ints2 (P := Try.prog) (t := 30) (t' := 30) hp7 hu7.ints ty_elT_30 ty_szT_3 ty_zeroT_3 ty_byT_3 (by decide) (by decide) (by simp) (by simp; omega) (by omega) (hA6.trans ha7) m2
    have nt7 := hu7.nt
    have g87 : h7.get (h2.next + 2) = .cells [q2] true true 1 := by rw [ha7.1.2 _ (by omega)]; exact g86
    have hnp7 := ia_box1 hp7 g87 hqf2
    have h58 : ∀ o, o < h2.next → h8.get o = h4.get o := fun o hl => by
      rw [(hsm8 (fun x => x < h2.next) (off_low hp7)).2 o hl (by omega), ha7.1.2 o (by omega), k6.2 o (by omega) (by omega), hs5 o hl]
    try simp (disch := first | omega | (simp; done) | fail) [wrap64c, if_pos, if_neg, opAnd, opOr, opXor, opDiff, opShr, opBit, gc0, gz0, nt1, cs1, gc1, gz1, hcn, lu1, lx, gc2, gz2, g52, hz0, e1, e2, e5, e7, e8, e22, e23, e24, g8, lp, ntp, ntq, hlt, q_x, g_x, l_x, r_x, z_x, hiF, csq, g85, ntq2, csq2, hcc, nt7, hap8]
    refine loopK_next _ ?hm ?hf ⟨i + 1, p8, q2, rfl, (by simp (disch := first | omega | (simp; done) | fail) [wrap64c, if_pos, if_neg, opAnd, opOr, opXor, opDiff, opShr, opBit, gc0, gz0, nt1, cs1, gc1, gz1, hcn, lu1, lx, gc2, gz2, g52, hz0, e1, e2, e5, e7, e8, e22, e23, e24, g8, lp, ntp, ntq, hlt, q_x, g_x, l_x, r_x, z_x, hiF, csq, g85, ntq2, csq2, hcc, nt7] <;> omega), (by simp (disch := first | omega | (simp; done) | fail) [wrap64c, if_pos, if_neg, opAnd, opOr, opXor, opDiff, opShr, opBit, gc0, gz0, nt1, cs1, gc1, gz1, hcn, lu1, lx, gc2, gz2, g52, hz0, e1, e2, e5, e7, e8, e22, e23, e24, g8, lp, ntp, ntq, hlt, q_x, g_x, l_x, r_x, z_x, hiF, csq, g85, ntq2, csq2, hcc, nt7] <;> omega), (by first | omega | assumption | (simp (disch := first | omega | (simp; done) | fail) [wrap64c, if_pos, if_neg, opAnd, opOr, opXor, opDiff, opShr, opBit, gc0, gz0, nt1, cs1, gc1, gz1, hcn, lu1, lx, gc2, gz2, g52, hz0, e1, e2, e5, e7, e8, e22, e23, e24, g8, lp, ntp, ntq, hlt, q_x, g_x, l_x, r_x, z_x, hiF, csq, g85, ntq2, csq2, hcc, nt7] <;> omega)), ⟨by omega, fun o hl => by rw [h58 o hl]; exact ha.2 o hl⟩, hA8, (by rw [placesN_succ, getD_at hiF, hc, Int.toNat_natCast]; exact hp8), (by rw [startsL_succ]; exact ia_same hq7 (hsm8 (ObjIn q2) hqp)), (off_comm (ia_same hq7 (hsm8 (ObjIn q2) hqp)) hp8 (hof8 (ObjIn q2) (fun o ho => (ia_obj hq7 o ho).2) hqp)), (by rw [(hsm8 (fun x => x = h2.next + 2) (off_of hp7 hnp7)).2 _ rfl (by omega)]; exact g87), (by first | omega | assumption | (simp (disch := first | omega | (simp; done) | fail) [wrap64c, if_pos, if_neg, opAnd, opOr, opXor, opDiff, opShr, opBit, gc0, gz0, nt1, cs1, gc1, gz1, hcn, lu1, lx, gc2, gz2, g52, hz0, e1, e2, e5, e7, e8, e22, e23, e24, g8, lp, ntp, ntq, hlt, q_x, g_x, l_x, r_x, z_x, hiF, csq, g85, ntq2, csq2, hcc, nt7] <;> omega))⟩
    (case hm => first | omega | (simp; omega))
    (case hf => simp [FrameL, gc0, gz0, nt1, cs1, gc1, gz1, hcn, lu1, lx, gc2, gz2, g52, hz0, e1, e2, e5, e7, e8, e22, e23, e24, g8, lp, ntp, ntq, hlt, q_x, g_x, l_x, r_x, z_x, hiF, csq, g85, ntq2, csq2, hcc, nt7, f1_0, f2_0, f5_0, f8_0, f22_0, f23_0])
  have hie : i = A.length := by omega
  subst hie
  have hplen : (placesN F A.length).length = run.length := r2
  have gz4 : h4.get (h.next + 1) = .cells [.int .i64 0, .slice none 0 0] true true 1 := by rw [ha.2 _ (by omega)]; exact gz2
  have gc4 : h4.get h.next = .cells [a, b] true true 1 := by rw [ha.2 _ (by omega)]; exact gc2
  have gz4' := gz4
  try simp (disch := first | omega | (simp; done) | fail) [wrap64c, if_pos, if_neg, opAnd, opOr, opXor, opDiff, opShr, opBit, gc0, gz0, nt1, cs1, gc1, gz1, hcn, lu1, lx, gc2, gz2, g52, hz0, e1, e2, e5, e7, e8, e22, e23, e24, g8, lp, ntp, ntq, hlt, hplen, gc4, gz4']
  refine callG_c (by simp) (by simp) ?ha (isSize_ok h4 (run.length : Int)) ?_
  (case ha => simp (disch := first | omega | (simp; done) | fail) [wrap64c, if_pos, if_neg, opAnd, opOr, opXor, opDiff, opShr, opBit, gc0, gz0, nt1, cs1, gc1, gz1, hcn, lu1, lx, gc2, gz2, g52, hz0, e1, e2, e5, e7, e8, e22, e23, e24, g8, lp, ntp, ntq, hlt, hplen, gc4, gz4'])
  cases c2 : sizeB (run.length : Int)
  · have hk : rsB L A = false := by rw [r7, c2]
    try simp (disch := first | omega | (simp; done) | fail) [wrap64c, if_pos, if_neg, opAnd, opOr, opXor, opDiff, opShr, opBit, gc0, gz0, nt1, cs1, gc1, gz1, hcn, lu1, lx, gc2, gz2, g52, hz0, e1, e2, e5, e7, e8, e22, e23, e24, g8, lp, ntp, ntq, hlt, hplen, gc4, gz4', c2, putCells]
    refine done_ret (by simp [putCells, gz4, e2]; rfl) ⟨by have := hA4; exact (by first | exact aK | exact kK), .agg #[.int .i64 0, .slice none 0 0], .slice none 0 0, by rw [hk]; rfl, _, by have := hA4.1.1; simp; omega, Nat.le_refl _, ?_, ?_⟩
    · rw [(rsN_no hk).1, (rsN_no hk).2.1]
      exact .nil _ _
    · rw [(rsN_no hk).2.2]
      exact .nil _ _
  have hk : rsB L A = true := by rw [r7, c2]
  have hR7 : 1 ≤ run.length ∧ run.length ≤ 7 := by obtain ⟨m, h1, h2, h3⟩ := sizeB_true c2; omega
  have hP := hp.own (by omega)
  have hQ := hq.own (by simp; omega)
  have ntP := hP.nt
  have csP := hP.cs
  have mA := hA4.1.1
  have g54 : h4.get h1.next = .cells [u1] true true 1 := by rw [ha.2 _ (by omega)]; exact g52
  try simp (disch := first | omega | (simp; done) | fail) [wrap64c, if_pos, if_neg, opAnd, opOr, opXor, opDiff, opShr, opBit, gc0, gz0, nt1, cs1, gc1, gz1, hcn, lu1, lx, gc2, gz2, g52, hz0, e1, e2, e5, e7, e8, e22, e23, e24, g8, lp, ntp, ntq, hlt, hplen, gc4, gz4', c2, ntP, csP, putCells]
  first | refine WY_heap fun h9 q_h9 => ?_ | refine callG_heap fun h9 q_h9 => ?_ | refine callP_heap fun h9 q_h9 => ?_ | refine RY_heap fun h9 q_h9 => ?_ | refine PY_heap fun h9 q_h9 => ?_ | refine doneY_heap fun h9 q_h9 => ?_ | refine loopK_heap fun h9 q_h9 => ?_ | refine thenY_heap fun h9 q_h9 => ?_ | refine thenM_heap fun h9 q_h9 => ?_
  have k9 : Adds h4 h9 := by rw [q_h9]; exact (by first | exact aK | exact kK)
  have n9 : h9.next = h4.next + 2 := by simp [q_h9]
  have gf9 : h9.get h4.next = .cells (famC (fam [])) true true 1 := by rw [← famC_zero]; simp [q_h9]
  have g119 : h9.get (h4.next + 1) = .cells [.pointer (some ⟨h4.next, 0, none⟩)] true true 1 := by simp [q_h9, putCells]
  have gc9 : h9.get h.next = .cells [a, b] true true 1 := by rw [k9.1.2 _ (by omega)]; exact gc4
  have K9 := hA4.trans k9
  have hst : SetSt h9.next h1.next (h2.next + 2) (h4.next + 1) h4.next u1 q F A.length [] h9 := {
    lt := ⟨by omega, by omega, by omega, by omega⟩
    ne := ⟨by omega, by omega, by omega⟩
    g5 := by rw [k9.1.2 _ (by omega)]; exact g54
    g8 := by rw [k9.1.2 _ (by omega)]; exact g8
    g11 := g119
    gf := gf9
    hu := (((hu2.keep ha).keep k9.1).read).sub fun o ho => by have := ho.2; omega
    hq := ((hQ.keep k9.1).read).sub fun o ho => by have := ho.2; omega }
  have D : DoerC L A (fun s hh => SetSt h9.next h1.next (h2.next + 2) (h4.next + 1) h4.next u1 q F A.length s hh) h9.next (fun o => o = h4.next) 113 #[.pointer (some ⟨h1.next, 0, none⟩), .pointer (some ⟨h2.next + 2, 0, none⟩), .pointer (some ⟨h4.next + 1, 0, none⟩)] := {
    stab := fun s h' h'' k hb hn hg => k.stab hn hg
    run := fun s h' x B k hb hr => by
      obtain ⟨u, h'', hc, hW, hk'⟩ := setRun_ok (n := A.length) h5 r3 (fun k hk => by rcases r5 k with h | h <;> omega) s h' x k hb hr.len.2 (r6 x B hr) (hr.small (by have := f.le ho.sh hr; omega)) (by have := f.le ho.sh hr; omega)
      exact ⟨u, h'', hc, hW, hk'⟩
    low := fun o e => by omega
    fn := by simp }
  obtain ⟨u10, h10, hc10, s10, rfl, W10, hs10, hall, hrch⟩ := reached_ok f ho.sh ho hR D h9 a b hst (Nat.le_refl _) ((hL.old.keep K9.1).sub fun o ho => ⟨by have := K9.1.1; omega, by omega⟩) ((hA.old.keep K9.1).sub fun o ho => ⟨by have := K9.1.1; omega, by omega⟩)
  refine callG_c (by simp) (by simp) ?ha (hc10) ?_
  (case ha => simp (disch := first | omega | (simp; done) | fail) [wrap64c, if_pos, if_neg, opAnd, opOr, opXor, opDiff, opShr, opBit, gc0, gz0, nt1, cs1, gc1, gz1, hcn, lu1, lx, gc2, gz2, g52, hz0, e1, e2, e5, e7, e8, e22, e23, e24, g8, lp, ntp, ntq, hlt, hplen, gc4, gz4', c2, ntP, csP, gc9])
  have n10 := W10.upd.1
  have hP10 := (hP.keep k9.1).same (W10.upd.same fun o ho e => by have := ho.2; omega)
  have gz10 : h10.get (h.next + 1) = .cells [.int .i64 0, .slice none 0 0] true true 1 := by rw [W10.upd.2 _ (by omega) (by omega), k9.1.2 _ (by omega)]; exact gz4
  have g1110 := hs10.g11
  obtain ⟨v11, h11, hc11, ha11, hs11⟩ := famSpace_ok h10 h4.next run.length (fam (s10.map fun x => setN F x A.length)) true true 1 (by omega) hs10.gf
  have n11 := ha11.1.1
  have hset : famK (fam (s10.map fun x => setN F x A.length)) 128 = runSets L A F := by
    refine runSets_eq (List.Pairwise.filter _ List.pairwise_lt_range) (fun a ha => ?_) fun x B hr => ?_
    · obtain ⟨h1, h2⟩ := List.mem_filter.1 ha
      refine ⟨by simpa using h1, ?_⟩
      have h3 := of_decide_eq_true (p := a ∈ s10.map fun x => setN F x A.length) h2
      obtain ⟨x, hx, rfl⟩ := List.mem_map.1 h3
      obtain ⟨C, hr⟩ := hrch x hx
      exact ⟨x, C, hr, rfl⟩
    · refine List.mem_filter.2 ⟨List.mem_range.2 ?_, decide_eq_true (List.mem_map.2 ⟨x, hall x B hr, rfl⟩)⟩
      exact Nat.lt_of_lt_of_le (setN_lt (r6 x B hr) _) (bit7 (by rcases r5 A.length with h | h <;> omega)).2
  rw [hset] at hs11
  have hs11' := hs11
  obtain ⟨b11, rfl, hb11⟩ := hs11'
  have ntb := hb11.nt
  have csb := hb11.cs
  have gz11 : h11.get (h.next + 1) = .cells [.int .i64 0, .slice none 0 0] true true 1 := by rw [ha11.1.2 _ (by omega)]; exact gz10
  try simp (disch := first | omega | (simp; done) | fail) [wrap64c, if_pos, if_neg, opAnd, opOr, opXor, opDiff, opShr, opBit, gc0, gz0, nt1, cs1, gc1, gz1, hcn, lu1, lx, gc2, gz2, g52, hz0, e1, e2, e5, e7, e8, e22, e23, e24, g8, lp, ntp, ntq, hlt, hplen, gc4, gz4', c2, ntP, csP, gc9, gz10, g1110, ntb, csb, gz11]
  refine callG_c (by simp) (by simp) ?ha (hc11) ?_
  (case ha => simp (disch := first | omega | (simp; done) | fail) [wrap64c, if_pos, if_neg, opAnd, opOr, opXor, opDiff, opShr, opBit, gc0, gz0, nt1, cs1, gc1, gz1, hcn, lu1, lx, gc2, gz2, g52, hz0, e1, e2, e5, e7, e8, e22, e23, e24, g8, lp, ntp, ntq, hlt, hplen, gc4, gz4', c2, ntP, csP, gc9, gz10, g1110, ntb, csb, gz11])
  try simp (disch := first | omega | (simp; done) | fail) [wrap64c, if_pos, if_neg, opAnd, opOr, opXor, opDiff, opShr, opBit, gc0, gz0, nt1, cs1, gc1, gz1, hcn, lu1, lx, gc2, gz2, g52, hz0, e1, e2, e5, e7, e8, e22, e23, e24, g8, lp, ntp, ntq, hlt, hplen, gc4, gz4', c2, ntP, csP, gc9, gz10, g1110, ntb, csb, gz11, putCells]
  have A10 : Adds h h10 := K9.wr W10 fun o e => by omega
  have A11 := A10.trans ha11
  refine done_ret (by simp [putCells, e2]; rfl) ⟨by have := mA; exact (by first | exact aK | exact kK), .agg #[.int .i64 (run.length : Int), b11], p, by rw [hk]; rfl, h10.next, by omega, by simp; omega, ?_, ?_⟩
  · have y1 : rsN L A = (run.length : Int) := by rw [rsN, if_pos hk, ← hF]; show ((startN F A.length : Nat) : Int) = _; rw [r2]
    have y2 : rsX L A = toN (runSets L A F) := by rw [rsX, if_pos hk, ← hF]
    rw [y1, y2]
    exact ⟨b11, rfl, (hb11.same (Same.put (Same.refl _ _) (by unfold Btw; omega) _)).sub fun o ho => ⟨ho.1, by have := ho.2; simp; omega⟩⟩
  · have y3 : rsP L A = placesN F A.length := by rw [rsP, if_pos hk, ← hF]
    rw [y3]
    exact ((hP10.keep ha11.1).same (Same.put (Same.refl _ _) (by unfold Btw; omega) _)).sub fun o ho => ⟨by have := ho.1; omega, by have := ho.2; omega⟩
theorem rs_len (L : List (List Int)) (A : List Int) : (rsX L A).length ≤ 128 ∧ (rsP L A).length ≤ 7 := by
  constructor
  · unfold rsX
    split
    · rw [toN_length]; exact famK_len _ _
    · simp
  · unfold rsP
    split
    · rename_i h
      simp only [rsB, Bool.and_eq_true] at h
      obtain ⟨m, h1, h2, h3⟩ := sizeB_true h.2
      omega
    · simp
end Go.Proofs.Ytnjabaeajjhliaa
