/- A space with other names. -/
import Derived.Test.YtnjabaeajjhliaaT4
namespace Go.Proofs.Ytnjabaeajjhliaa
set_option linter.unusedSimpArgs false
set_option linter.unusedVariables false
set_option maxHeartbeats 4000000
open Go Go.Eng
attribute [local irreducible] WD RunD PreD Runs CallOK

theorem famK_named {n : Nat} {names xs : List Nat} (hn : n ≤ 7) (h : ∀ k, k < names.length → names.getD k 0 < n) : famK (fam (xs.map (renN names))) 128 = namedN n names xs := by
  have hb := bit7 hn
  refine srt_ext (List.Pairwise.filter _ List.pairwise_lt_range) (namedN_srt _ _ _) fun a => ?_
  rw [namedN_mem h]
  simp only [famK, List.mem_filter, List.mem_range, fam, decide_eq_true_eq]
  constructor
  · exact fun h => h.2
  · intro h1
    refine ⟨?_, h1⟩
    obtain ⟨x, _, rfl⟩ := List.mem_map.1 h1
    have := renK_lt x h _ (Nat.le_refl _)
    unfold renN
    omega

theorem rename_ok (h : Hp) (v w : Value) (n : Nat) (xs names : List Nat) (hv : Space h v n (toN xs)) (hw : Ints h w (toN names)) (hn : n ≤ 7) (hx : ∀ x ∈ xs, x < bit n) (hl : xs.length < 2 ^ 40) (hnl : names.length = n) (hnm : ∀ k, k < names.length → names.getD k 0 < n) :
    ∃ v' h', CallOK Try.prog 83 #[v, w] h v' h' ∧ Adds h h' ∧ SpaceO (Btw h.next h'.next) h' v' n (toN (namedN n names xs)) := by
  refine callY_L (args := [v, w]) 28 _ [.cell 4 32] Try.func83 rfl rfl rfl ?_
  obtain ⟨b, rfl, hX⟩ := hv
  have hL := hX.lenD
  have hgt := toN_get xs
  have hln := toN_length xs
  have hb7 := bit7 hn
  try simp (disch := first | omega | (simp; done) | fail) [wrap64c, if_pos, if_neg, opAnd, opOr, opXor, opDiff, opShr, opBit, hL, hgt]
  refine WD_loopC [1, 2, 4, 5, 11, 12] (fun m tm h' => ∃ j, m = xs.length - j ∧ tm 13 = .int .i64 (j : Int) ∧ (j ≤ xs.length) ∧ (Adds h h') ∧ (h'.next = h.next + 3) ∧ (h'.get h.next = .cells [.int .i64 (n : Int), b] true true 1) ∧ (h'.get (h.next + 1) = .cells [.int .i64 0, .slice none 0 0] true true 1) ∧ (h'.get (h.next + 2) = .cells (famC (fam ((xs.take j).map (renN names)))) true true 1)) _ ⟨0, rfl, (by simp (disch := first | omega | (simp; done) | fail) [wrap64c, if_pos, if_neg, opAnd, opOr, opXor, opDiff, opShr, opBit, hL, hgt]), (by first | omega | assumption | (simp (disch := first | omega | (simp; done) | fail) [wrap64c, if_pos, if_neg, opAnd, opOr, opXor, opDiff, opShr, opBit, hL, hgt] <;> omega)), (by first | exact aK | exact kK), (by simp), (by simp), (by simp), (by simp [← famC_zero])⟩ ?_
  rintro m tm h' hFr ⟨j, rfl, e13, hj, ha, hnx, hg0, hg1, hg⟩
  simp only [FrameL] at hFr
  obtain ⟨f1_0, f2_0, f4_0, f5_0, f11_0, f12_0, -⟩ := hFr
  try simp (disch := first | omega | (simp; done) | fail) [wrap64c, if_pos, if_neg, opAnd, opOr, opXor, opDiff, opShr, opBit, hL, hgt] at f1_0 f2_0 f4_0 f5_0 f11_0 f12_0
  have e1 := f1_0
  have e2 := f2_0
  have e4 := f4_0
  have e5 := f5_0
  have e11 := f11_0
  have e12 := f12_0
  by_cases hlt : j < xs.length
  · obtain ⟨o_x, i_x, c_x, cs_x, own_x, ex_x, es_x, q_x, b_x, g_x, l_x, r_x⟩ := (hX.keep ha.1).open ((by simp; omega))
    have z_x : ∀ h2 : i_x < cs_x.length, cs_x[i_x] = _ := fun h2 => r_x 0 ((by simp; omega)) h2
    have hx1 := hx _ (List.getElem_mem hlt)
    have hr := renK_lt xs[j] hnm _ (Nat.le_refl _)
    have hr1 : renN names xs[j] < 128 := by unfold renN; omega
    try simp (disch := first | omega | (simp; done) | fail) [wrap64c, if_pos, if_neg, opAnd, opOr, opXor, opDiff, opShr, opBit, hL, hgt, e1, e2, e4, e5, e11, e12, e13, hg0, hg1, hg, hlt, q_x, g_x, l_x, r_x, z_x]
    refine WD_drawC 5 rfl (by kernel_rfl) ?_
    try simp (disch := first | omega | (simp; done) | fail) [wrap64c, if_pos, if_neg, opAnd, opOr, opXor, opDiff, opShr, opBit, hL, hgt, e1, e2, e4, e5, e11, e12, e13, hg0, hg1, hg, hlt, q_x, g_x, l_x, r_x, z_x]
    refine callP_c (by simp) (by simp) ?ha (renamed_ok h' w names xs[j] (hw.keep ha.1) (by rw [hnl]; exact hx1) (by omega) (fun k hk => by have := hnm k hk; omega)) ?hadd ?_
    (case ha => simp (disch := first | omega | (simp; done) | fail) [wrap64c, if_pos, if_neg, opAnd, opOr, opXor, opDiff, opShr, opBit, hL, hgt, e1, e2, e4, e5, e11, e12, e13, hg0, hg1, hg, hlt, q_x, g_x, l_x, r_x, z_x])
    (case hadd => first | assumption | exact adds_self _ | (simp; done))
    try simp (disch := first | omega | (simp; done) | fail) [wrap64c, if_pos, if_neg, opAnd, opOr, opXor, opDiff, opShr, opBit, hL, hgt, e1, e2, e4, e5, e11, e12, e13, hg0, hg1, hg, hlt, q_x, g_x, l_x, r_x, z_x]
    refine loopK_next _ ?hm ?hf ⟨j + 1, rfl, (by simp (disch := first | omega | (simp; done) | fail) [wrap64c, if_pos, if_neg, opAnd, opOr, opXor, opDiff, opShr, opBit, hL, hgt, e1, e2, e4, e5, e11, e12, e13, hg0, hg1, hg, hlt, q_x, g_x, l_x, r_x, z_x] <;> omega), (by first | omega | assumption | (simp (disch := first | omega | (simp; done) | fail) [wrap64c, if_pos, if_neg, opAnd, opOr, opXor, opDiff, opShr, opBit, hL, hgt, e1, e2, e4, e5, e11, e12, e13, hg0, hg1, hg, hlt, q_x, g_x, l_x, r_x, z_x] <;> omega)), (by first | exact aK | exact kK), (by simpa using hnx), (by simp [hg0]), (by simp [hg1]), (by rw [List.take_succ_eq_append_getElem hlt, List.map_append, List.map_singleton, ← famC_set _ _ hr1]; simp [putCells_one, hr1])⟩
    (case hm => first | omega | (simp; omega))
    (case hf => simp [FrameL, hL, hgt, e1, e2, e4, e5, e11, e12, e13, hg0, hg1, hg, hlt, q_x, g_x, l_x, r_x, z_x, f1_0, f2_0, f4_0, f5_0, f11_0, f12_0])
  · try simp (disch := first | omega | (simp; done) | fail) [wrap64c, if_pos, if_neg, opAnd, opOr, opXor, opDiff, opShr, opBit, hL, hgt, e1, e2, e4, e5, e11, e12, e13, hg0, hg1, hg, hlt]
    rw [List.take_of_length_le (by omega)] at hg
    obtain ⟨u, h2, hc2, ha2, hi2⟩ := famSpace_ok h' (h.next + 2) n _ true true 1 (by omega) hg
    have hi2' := hi2
    obtain ⟨d, rfl, hd⟩ := hi2'
    have ntd := hd.nt
    have csd := hd.cs
    refine callG_c (by simp) (by simp) ?ha (hc2) ?_
    (case ha => simp (disch := first | omega | (simp; done) | fail) [wrap64c, if_pos, if_neg, opAnd, opOr, opXor, opDiff, opShr, opBit, hL, hgt, e1, e2, e4, e5, e11, e12, e13, hg0, hg1, hg, hlt, ntd, csd])
    have gq1 : h2.get (h.next + 1) = .cells [.int .i64 0, .slice none 0 0] true true 1 := by rw [ha2.1.2 _ (by omega)]; exact hg1
    have A2 := ha.trans ha2
    try simp (disch := first | omega | (simp; done) | fail) [wrap64c, if_pos, if_neg, opAnd, opOr, opXor, opDiff, opShr, opBit, hL, hgt, e1, e2, e4, e5, e11, e12, e13, hg0, hg1, hg, hlt, ntd, csd, gq1, putCells]
    rw [famK_named hn hnm] at hd
    refine done_ret (by simp [putCells, e4]; rfl) ⟨(by first | exact aK | exact kK), d, by simp, ?_⟩
    exact (hd.same (Same.put (Same.refl _ _) (by unfold Btw; omega) _)).sub fun o ho => ⟨by have := ho.1; omega, by have := ho.2; simpa using this⟩
end Go.Proofs.Ytnjabaeajjhliaa
