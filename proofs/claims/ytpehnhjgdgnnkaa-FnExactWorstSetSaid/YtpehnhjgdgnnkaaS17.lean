/- AskRun and WorstSet: what both sides hand back. -/
import Derived.Test.YtpehnhjgdgnnkaaS16
namespace Go.Proofs.Ytpehnhjgdgnnkaa
set_option linter.unusedSimpArgs false
set_option linter.unusedVariables false
set_option maxHeartbeats 4000000
open Go Go.Eng
attribute [local irreducible] WD RunD PreD Runs CallOK

theorem openK_srt (L : List Nat) (k : Nat) : (openK L k).Pairwise (· < ·) := List.pairwise_lt_range.filter _
theorem bestN_before {L : List Nat} {i0 : Nat} (h : bestN L = (i0 : Nat)) : ∀ k, k ∈ openN L → k < i0 → askN L k ≠ worstN L := by
  unfold bestN at h
  cases hf : (openN L).find? (fun i => askN L i == worstN L) with
  | none => rw [hf] at h; exact absurd h (by simp only; omega)
  | some q =>
    rw [hf] at h
    have hq : q = i0 := by simpa using h
    subst hq
    rw [List.find?_eq_some_iff_getElem] at hf
    obtain ⟨_, idx, hidx, e, hbef⟩ := hf
    intro k hk hlt
    obtain ⟨j, hj, rfl⟩ := List.getElem_of_mem hk
    have hji : j < idx := by
      apply Classical.byContradiction
      intro hn
      by_cases ej : idx = j
      · subst ej; omega
      · have := (List.pairwise_iff_getElem.1 (openK_srt L 7)) idx j hidx hj (by omega)
        have e' : (openK L 7)[idx] = q := e
        have e'' : (openN L)[j] = (openK L 7)[j] := rfl
        omega
    have := hbef j hji
    simpa using this

theorem spBest_ok (base ot o1 o2 n wd : Nat) (b : Value) (xs : List Nat) (g : SpGood n xs) (hm2 : wd = 2 * n) (h : Hp) (y z : Nat) (hT : TabOK base ot o1 o2 n wd b xs h) (hb : base ≤ h.next) (hy : y < 128) (hz : z < 128) (hop1 : 1 < (leftN xs y z).length) :
    ∃ v h', CallOK Try.prog 107 #[.pointer (some ⟨ot, 0, none⟩), .int .i64 (y : Int), .int .i64 (z : Int)] h v h' ∧
      v = .int .i64 (bestN (leftN xs y z)) ∧ Wr (fun q => q = o1 ∨ q = o2) h h' ∧ TabOK base ot o1 o2 n wd b xs h' := by
  refine call_L (args := [.pointer (some ⟨ot, 0, none⟩), .int .i64 (y : Int), .int .i64 (z : Int)]) 66 _ [.tmp 6] Try.func107 rfl rfl rfl ?_
  have n7 := g.n7
  have hl7 := g.len7
  have htb := hT.tb
  repeat (first
    | (refine WD_block (fun K hK => ?_))
    | (refine WD_seq (fun K hK => ?_))
    | (refine WD_region (fun K hK => ?_))
    | ((first | refine RunD_o rfl rfl rfl rfl rfl (fun X hX => ?_) | refine RunD_s rfl rfl rfl rfl (fun X hX => ?_) | refine WD_c rfl (fun X Y hX hY => ?_)); (try dsimp only); simp (disch := first | omega | (simp; done) | fail) [wrap64c, if_pos, if_neg, opAnd, opOr, opXor, opDiff, opShr, opBit]; (first | refine hX _ _ ?_ | refine hX ?_ | refine hY ?_); (try clear hX X); try clear hY Y)
    | (refine RunD_nil ?_; refine hK _ _ ?_; clear hK K)
    | (refine RunD_nil ?_)
    | (refine WD_skip ?_)
    | (refine WD_exit ?_)
    | (refine WD_ret ?_)
    | (refine hK.1 _ _ ?_; clear hK K)
    | (refine hK.2.1 _ _ ?_; clear hK K)
    | (refine hK.2 _ _ _ ?hne ?_; (case hne => simp; done); clear hK K)
    | (refine hK.2.2 _ _ _ ?hne ?_; (case hne => simp; done); clear hK K))
  obtain ⟨_, h1, hc1, ha1, u, rfl, hi1⟩ := closed_ok h base ot o1 o2 n wd b xs y z hT hb n7 g.lt7 hl7 hy hz
  refine RunD_c rfl rfl rfl rfl (by simp) (by simp) ?ha (hc1) ?_
  (case ha => simp (disch := first | omega | (simp; done) | fail) [wrap64c, if_pos, if_neg, opAnd, opOr, opXor, opDiff, opShr, opBit])
  have hne : leftN xs y z ≠ [] := by intro e; rw [e] at hop1; simp at hop1
  have hcl := closed_left g.lt hne
  have hT1 := hT.adds hb ha1
  have hn1 := ha1.1.1
  obtain ⟨_, h2, hc2, ⟨t0, rfl, ht0⟩, W2, T2⟩ := spLeast_ok base ot o1 o2 n wd b xs g hm2 ((leftN xs y z).length + 1) h1 y z hT1 (by omega) hy hz hne (by omega)
  obtain ⟨L, hLe⟩ : ∃ L, L = leftN xs y z := ⟨_, rfl⟩
  have hLn : ∀ x ∈ L, x < bit n := fun x hm => g.lt x (left_sub (hLe ▸ hm))
  have hLs : L.Pairwise (· < ·) := hLe ▸ left_srt g.srt y z
  have hLl : L.length ≤ 128 := by have := left_len xs y z; rw [hLe]; omega
  rw [← hLe] at hi1 hcl hne hop1 hc2 ht0
  have hLe' := hLe.symm
  have hn2 := W2.upd.1
  repeat (first
    | (refine WD_block (fun K hK => ?_))
    | (refine WD_seq (fun K hK => ?_))
    | (refine WD_region (fun K hK => ?_))
    | ((first | refine RunD_o rfl rfl rfl rfl rfl (fun X hX => ?_) | refine RunD_s rfl rfl rfl rfl (fun X hX => ?_) | refine WD_c rfl (fun X Y hX hY => ?_)); (try dsimp only); simp (disch := first | omega | (simp; done) | fail) [wrap64c, if_pos, if_neg, opAnd, opOr, opXor, opDiff, opShr, opBit, hLe']; (first | refine hX _ _ ?_ | refine hX ?_ | refine hY ?_); (try clear hX X); try clear hY Y)
    | (refine RunD_nil ?_; refine hK _ _ ?_; clear hK K)
    | (refine RunD_nil ?_)
    | (refine WD_skip ?_)
    | (refine WD_exit ?_)
    | (refine WD_ret ?_)
    | (refine hK.1 _ _ ?_; clear hK K)
    | (refine hK.2.1 _ _ ?_; clear hK K)
    | (refine hK.2 _ _ _ ?hne ?_; (case hne => simp; done); clear hK K)
    | (refine hK.2.2 _ _ _ ?hne ?_; (case hne => simp; done); clear hK K))
  refine RunD_c rfl rfl rfl rfl (by simp) (by simp) ?ha (hc2) ?_
  (case ha => simp (disch := first | omega | (simp; done) | fail) [wrap64c, if_pos, if_neg, opAnd, opOr, opXor, opDiff, opShr, opBit, hLe'])
  have hi2 := inS_lt n L
  have ho2 := outS_lt n L
  have hbn := bit7 n7
  obtain ⟨iN, hiN⟩ : ∃ x, x = inS n L := ⟨_, rfl⟩
  obtain ⟨oN, hoN⟩ : ∃ x, x = outS n L := ⟨_, rfl⟩
  rw [← hiN, ← hoN] at hcl
  rw [← hiN] at hi2
  rw [← hoN] at ho2
  have hiN' := hiN.symm
  have hoN' := hoN.symm
  have hon := (open_ne n7 hLs hLn).2 hop1
  obtain ⟨i0, hb0, hi0, ha0⟩ := bestN_mem hon
  have hi07 := (mem_openK.1 hi0).1
  have hi0n : i0 < n := by
    have := hi0
    rw [← openK_eq n7 hLn] at this
    exact (mem_openK.1 this).1
  have hbef := bestN_before hb0
  have WA : Wr (fun q => q = o1 ∨ q = o2) h h2 := (Wr.of_adds ha1).trans W2
  have hwL := worstN_le L
  repeat (first
    | (refine WD_block (fun K hK => ?_))
    | (refine WD_seq (fun K hK => ?_))
    | (refine WD_region (fun K hK => ?_))
    | ((first | refine RunD_o rfl rfl rfl rfl rfl (fun X hX => ?_) | refine RunD_s rfl rfl rfl rfl (fun X hX => ?_) | refine WD_c rfl (fun X Y hX hY => ?_)); (try dsimp only); simp (disch := first | omega | (simp; done) | fail) [wrap64c, if_pos, if_neg, opAnd, opOr, opXor, opDiff, opShr, opBit, hLe', hiN', hoN']; (first | refine hX _ _ ?_ | refine hX ?_ | refine hY ?_); (try clear hX X); try clear hY Y)
    | (refine RunD_nil ?_; refine hK _ _ ?_; clear hK K)
    | (refine RunD_nil ?_)
    | (refine WD_skip ?_)
    | (refine WD_exit ?_)
    | (refine WD_ret ?_)
    | (refine hK.1 _ _ ?_; clear hK K)
    | (refine hK.2.1 _ _ ?_; clear hK K)
    | (refine hK.2 _ _ _ ?hne ?_; (case hne => simp; done); clear hK K)
    | (refine hK.2.2 _ _ _ ?hne ?_; (case hne => simp; done); clear hK K))
  refine WD_loopF [0, 8, 9, 10] (fun m tm h' => ∃ i, m = 7 - i ∧ tm 12 = .int .i64 (i : Int) ∧ (i ≤ i0) ∧ (Wr (fun q => q = o1 ∨ q = o2) h2 h') ∧ (TabOK base ot o1 o2 n wd b xs h')) _ ⟨0, rfl, (by simp (disch := first | omega | (simp; done) | fail) [wrap64c, if_pos, if_neg, opAnd, opOr, opXor, opDiff, opShr, opBit, hLe', hiN', hoN']), (by first | omega | assumption | (simp (disch := first | omega | (simp; done) | fail) [wrap64c, if_pos, if_neg, opAnd, opOr, opXor, opDiff, opShr, opBit, hLe', hiN', hoN'] <;> omega)), (Wr.refl _ _), T2⟩ ?_
  rintro m tm h' hFr ⟨i, rfl, e12, hi, hW, hTT⟩ K hK
  simp only [FrameL] at hFr
  obtain ⟨f0_0, f8_0, f9_0, f10_0, -⟩ := hFr
  try simp (disch := first | omega | (simp; done) | fail) [wrap64c, if_pos, if_neg, opAnd, opOr, opXor, opDiff, opShr, opBit, hLe', hiN', hoN'] at f0_0 f8_0 f9_0 f10_0
  have e0 := f0_0
  have e8 := f8_0
  have e9 := f9_0
  have e10 := f10_0
  have hn3 := hW.upd.1
  have hkb := known_bit (n := n) (i := i) hne (by omega)
  have hkb1 : (nOr iN oN).testBit i = !opB L i := by rw [hiN, hoN]; exact hkb
  have hor := nOr128 (a := iN) (b := oN) (by omega) (by omega)
  repeat (first
    | (refine WD_block (fun K hK => ?_))
    | (refine WD_seq (fun K hK => ?_))
    | (refine WD_region (fun K hK => ?_))
    | ((first | refine RunD_o rfl rfl rfl rfl rfl (fun X hX => ?_) | refine RunD_s rfl rfl rfl rfl (fun X hX => ?_) | refine WD_c rfl (fun X Y hX hY => ?_)); (try dsimp only); simp (disch := first | omega | (simp; done) | fail) [wrap64c, if_pos, if_neg, opAnd, opOr, opXor, opDiff, opShr, opBit, hLe', hiN', hoN', e0, e8, e9, e10, e12]; (first | refine hX _ _ ?_ | refine hX ?_ | refine hY ?_); (try clear hX X); try clear hY Y)
    | (refine RunD_nil ?_; refine hK _ _ ?_; clear hK K)
    | (refine RunD_nil ?_)
    | (refine WD_skip ?_)
    | (refine WD_exit ?_)
    | (refine WD_ret ?_)
    | (refine hK.1 _ _ ?_; clear hK K)
    | (refine hK.2.1 _ _ ?_; clear hK K)
    | (refine hK.2 _ _ _ ?hne ?_; (case hne => simp; done); clear hK K)
    | (refine hK.2.2 _ _ _ ?hne ?_; (case hne => simp; done); clear hK K))
  refine RunD_c rfl rfl rfl rfl (by simp) (by simp) ?ha (spIn_ok h' (nOr iN oN) i (by omega) (by omega)) ?_
  (case ha => simp (disch := first | omega | (simp; done) | fail) [wrap64c, if_pos, if_neg, opAnd, opOr, opXor, opDiff, opShr, opBit, hLe', hiN', hoN', e0, e8, e9, e10, e12])
  cases hop : opB L i
  · rw [hop] at hkb1
    have hkb1 := hkb1
    have hne0 : i ≠ i0 := by rintro rfl; rw [(mem_openK.1 hi0).2] at hop; cases hop
    repeat (first
      | (refine WD_block (fun K hK => ?_))
      | (refine WD_seq (fun K hK => ?_))
      | (refine WD_region (fun K hK => ?_))
      | ((first | refine RunD_o rfl rfl rfl rfl rfl (fun X hX => ?_) | refine RunD_s rfl rfl rfl rfl (fun X hX => ?_) | refine WD_c rfl (fun X Y hX hY => ?_)); (try dsimp only); simp (disch := first | omega | (simp; done) | fail) [wrap64c, if_pos, if_neg, opAnd, opOr, opXor, opDiff, opShr, opBit, hLe', hiN', hoN', e0, e8, e9, e10, e12, hkb1]; (first | refine hX _ _ ?_ | refine hX ?_ | refine hY ?_); (try clear hX X); try clear hY Y)
      | (refine RunD_nil ?_; refine hK _ _ ?_; clear hK K)
      | (refine RunD_nil ?_)
      | (refine WD_skip ?_)
      | (refine WD_exit ?_)
      | (refine WD_ret ?_)
      | (refine hK.1 _ _ ?_; clear hK K)
      | (refine hK.2.1 _ _ ?_; clear hK K)
      | (refine hK.2 _ _ _ ?hne ?_; (case hne => simp; done); clear hK K)
      | (refine hK.2.2 _ _ _ ?hne ?_; (case hne => simp; done); clear hK K))
    refine hK.1 _ _ _ ?hm ?hf ⟨i + 1, rfl, (by simp (disch := first | omega | (simp; done) | fail) [wrap64c, if_pos, if_neg, opAnd, opOr, opXor, opDiff, opShr, opBit, hLe', hiN', hoN', e0, e8, e9, e10, e12, hkb1] <;> omega), (by first | omega | assumption | (simp (disch := first | omega | (simp; done) | fail) [wrap64c, if_pos, if_neg, opAnd, opOr, opXor, opDiff, opShr, opBit, hLe', hiN', hoN', e0, e8, e9, e10, e12, hkb1] <;> omega)), (by first | omega | assumption | (simp (disch := first | omega | (simp; done) | fail) [wrap64c, if_pos, if_neg, opAnd, opOr, opXor, opDiff, opShr, opBit, hLe', hiN', hoN', e0, e8, e9, e10, e12, hkb1] <;> omega)), (by first | omega | assumption | (simp (disch := first | omega | (simp; done) | fail) [wrap64c, if_pos, if_neg, opAnd, opOr, opXor, opDiff, opShr, opBit, hLe', hiN', hoN', e0, e8, e9, e10, e12, hkb1] <;> omega))⟩
    (case hm => first | omega | (simp; omega))
    (case hf => simp [FrameL, hLe', hiN', hoN', e0, e8, e9, e10, e12, hkb1, f0_0, f8_0, f9_0, f10_0])
  · rw [hop] at hkb1
    have hkb1 := hkb1
    have him : i ∈ openN L := mem_openK.2 ⟨by omega, hop⟩
    have hlen := has_len hop
    have hb7 := bit_lt7 (i := i) (by omega)
    have hy2 := nOr128 (a := iN) (b := bit i) (by omega) (by omega)
    have hz2 := nOr128 (a := oN) (b := bit i) (by omega) (by omega)
    have hly := left_yes xs iN oN i
    have hlz := left_no xs iN oN i
    rw [hcl] at hly hlz
    repeat (first
      | (refine WD_block (fun K hK => ?_))
      | (refine WD_seq (fun K hK => ?_))
      | (refine WD_region (fun K hK => ?_))
      | ((first | refine RunD_o rfl rfl rfl rfl rfl (fun X hX => ?_) | refine RunD_s rfl rfl rfl rfl (fun X hX => ?_) | refine WD_c rfl (fun X Y hX hY => ?_)); (try dsimp only); simp (disch := first | omega | (simp; done) | fail) [wrap64c, if_pos, if_neg, opAnd, opOr, opXor, opDiff, opShr, opBit, hLe', hiN', hoN', e0, e8, e9, e10, e12, hkb1]; (first | refine hX _ _ ?_ | refine hX ?_ | refine hY ?_); (try clear hX X); try clear hY Y)
      | (refine RunD_nil ?_; refine hK _ _ ?_; clear hK K)
      | (refine RunD_nil ?_)
      | (refine WD_skip ?_)
      | (refine WD_exit ?_)
      | (refine WD_ret ?_)
      | (refine hK.1 _ _ ?_; clear hK K)
      | (refine hK.2.1 _ _ ?_; clear hK K)
      | (refine hK.2 _ _ _ ?hne ?_; (case hne => simp; done); clear hK K)
      | (refine hK.2.2 _ _ _ ?hne ?_; (case hne => simp; done); clear hK K))
    obtain ⟨_, h3, hc3, ⟨t1, rfl, ht1'⟩, W3, A3⟩ := spLeast_ok base ot o1 o2 n wd b xs g hm2 (L.length + 1) h' (nOr iN (bit i)) oN hTT (by omega) hy2 (by omega) (by rw [hly]; exact List.length_pos_iff.1 hlen.2.2.1) (by rw [hly]; omega)
    rw [hly] at hc3
    refine RunD_c rfl rfl rfl rfl (by simp) (by simp) ?ha (hc3) ?_
    (case ha => simp (disch := first | omega | (simp; done) | fail) [wrap64c, if_pos, if_neg, opAnd, opOr, opXor, opDiff, opShr, opBit, hLe', hiN', hoN', e0, e8, e9, e10, e12, hkb1])
    have n4 := W3.upd.1
    repeat (first
      | (refine WD_block (fun K hK => ?_))
      | (refine WD_seq (fun K hK => ?_))
      | (refine WD_region (fun K hK => ?_))
      | ((first | refine RunD_o rfl rfl rfl rfl rfl (fun X hX => ?_) | refine RunD_s rfl rfl rfl rfl (fun X hX => ?_) | refine WD_c rfl (fun X Y hX hY => ?_)); (try dsimp only); simp (disch := first | omega | (simp; done) | fail) [wrap64c, if_pos, if_neg, opAnd, opOr, opXor, opDiff, opShr, opBit, hLe', hiN', hoN', e0, e8, e9, e10, e12, hkb1]; (first | refine hX _ _ ?_ | refine hX ?_ | refine hY ?_); (try clear hX X); try clear hY Y)
      | (refine RunD_nil ?_; refine hK _ _ ?_; clear hK K)
      | (refine RunD_nil ?_)
      | (refine WD_skip ?_)
      | (refine WD_exit ?_)
      | (refine WD_ret ?_)
      | (refine hK.1 _ _ ?_; clear hK K)
      | (refine hK.2.1 _ _ ?_; clear hK K)
      | (refine hK.2 _ _ _ ?hne ?_; (case hne => simp; done); clear hK K)
      | (refine hK.2.2 _ _ _ ?hne ?_; (case hne => simp; done); clear hK K))
    obtain ⟨_, h4, hc4, ⟨t2, rfl, ht2'⟩, W4, A4⟩ := spLeast_ok base ot o1 o2 n wd b xs g hm2 (L.length + 1) h3 iN (nOr oN (bit i)) A3 (by omega) (by omega) hz2 (by rw [hlz]; exact List.length_pos_iff.1 hlen.2.2.2.1) (by rw [hlz]; omega)
    rw [hlz] at hc4
    refine RunD_c rfl rfl rfl rfl (by simp) (by simp) ?ha (hc4) ?_
    (case ha => simp (disch := first | omega | (simp; done) | fail) [wrap64c, if_pos, if_neg, opAnd, opOr, opXor, opDiff, opShr, opBit, hLe', hiN', hoN', e0, e8, e9, e10, e12, hkb1])
    have haq : askN L i = 1 + max (worstN (hasL L i)) (worstN (lacksL L i)) := rfl
    have hwb1 := worstN_le (hasL L i)
    have hwb2 := worstN_le (lacksL L i)
    obtain ⟨q, hq⟩ : ∃ q, q = max (worstN (hasL L i)) (worstN (lacksL L i)) := ⟨_, rfl⟩
    have hmc := l1MostN_ok h4 (worstN (hasL L i)) (worstN (lacksL L i))
    rw [← hq] at hmc haq
    repeat (first
      | (refine WD_block (fun K hK => ?_))
      | (refine WD_seq (fun K hK => ?_))
      | (refine WD_region (fun K hK => ?_))
      | ((first | refine RunD_o rfl rfl rfl rfl rfl (fun X hX => ?_) | refine RunD_s rfl rfl rfl rfl (fun X hX => ?_) | refine WD_c rfl (fun X Y hX hY => ?_)); (try dsimp only); simp (disch := first | omega | (simp; done) | fail) [wrap64c, if_pos, if_neg, opAnd, opOr, opXor, opDiff, opShr, opBit, hLe', hiN', hoN', e0, e8, e9, e10, e12, hkb1]; (first | refine hX _ _ ?_ | refine hX ?_ | refine hY ?_); (try clear hX X); try clear hY Y)
      | (refine RunD_nil ?_; refine hK _ _ ?_; clear hK K)
      | (refine RunD_nil ?_)
      | (refine WD_skip ?_)
      | (refine WD_exit ?_)
      | (refine WD_ret ?_)
      | (refine hK.1 _ _ ?_; clear hK K)
      | (refine hK.2.1 _ _ ?_; clear hK K)
      | (refine hK.2 _ _ _ ?hne ?_; (case hne => simp; done); clear hK K)
      | (refine hK.2.2 _ _ _ ?hne ?_; (case hne => simp; done); clear hK K))
    refine RunD_c rfl rfl rfl rfl (by simp) (by simp) ?ha (hmc) ?_
    (case ha => simp (disch := first | omega | (simp; done) | fail) [wrap64c, if_pos, if_neg, opAnd, opOr, opXor, opDiff, opShr, opBit, hLe', hiN', hoN', e0, e8, e9, e10, e12, hkb1])
    by_cases heq : 1 + q = worstN L
    · have heq' : (1 + (q : Int)) = ((worstN L : Nat) : Int) := by omega
      have hii : i = i0 := by
        apply Classical.byContradiction
        intro hn
        exact hbef i him (by omega) (by omega)
      repeat (first
        | (refine WD_block (fun K hK => ?_))
        | (refine WD_seq (fun K hK => ?_))
        | (refine WD_region (fun K hK => ?_))
        | ((first | refine RunD_o rfl rfl rfl rfl rfl (fun X hX => ?_) | refine RunD_s rfl rfl rfl rfl (fun X hX => ?_) | refine WD_c rfl (fun X Y hX hY => ?_)); (try dsimp only); simp (disch := first | omega | (simp; done) | fail) [wrap64c, if_pos, if_neg, opAnd, opOr, opXor, opDiff, opShr, opBit, hLe', hiN', hoN', e0, e8, e9, e10, e12, hkb1, heq']; (first | refine hX _ _ ?_ | refine hX ?_ | refine hY ?_); (try clear hX X); try clear hY Y)
        | (refine RunD_nil ?_; refine hK _ _ ?_; clear hK K)
        | (refine RunD_nil ?_)
        | (refine WD_skip ?_)
        | (refine WD_exit ?_)
        | (refine WD_ret ?_)
        | (refine hK.1 _ _ ?_; clear hK K)
        | (refine hK.2.1 _ _ ?_; clear hK K)
        | (refine hK.2 _ _ _ ?hne ?_; (case hne => simp; done); clear hK K)
        | (refine hK.2.2 _ _ _ ?hne ?_; (case hne => simp; done); clear hK K))
      refine done_ret rfl ⟨?_, WA.trans (hW.trans (W3.trans W4)), A4⟩
      rw [← hLe, hb0, ← hii]; simp
    · have heq' : ¬ (1 + (q : Int)) = ((worstN L : Nat) : Int) := by omega
      have hne0 : i ≠ i0 := by rintro rfl; omega
      repeat (first
        | (refine WD_block (fun K hK => ?_))
        | (refine WD_seq (fun K hK => ?_))
        | (refine WD_region (fun K hK => ?_))
        | ((first | refine RunD_o rfl rfl rfl rfl rfl (fun X hX => ?_) | refine RunD_s rfl rfl rfl rfl (fun X hX => ?_) | refine WD_c rfl (fun X Y hX hY => ?_)); (try dsimp only); simp (disch := first | omega | (simp; done) | fail) [wrap64c, if_pos, if_neg, opAnd, opOr, opXor, opDiff, opShr, opBit, hLe', hiN', hoN', e0, e8, e9, e10, e12, hkb1, heq']; (first | refine hX _ _ ?_ | refine hX ?_ | refine hY ?_); (try clear hX X); try clear hY Y)
        | (refine RunD_nil ?_; refine hK _ _ ?_; clear hK K)
        | (refine RunD_nil ?_)
        | (refine WD_skip ?_)
        | (refine WD_exit ?_)
        | (refine WD_ret ?_)
        | (refine hK.1 _ _ ?_; clear hK K)
        | (refine hK.2.1 _ _ ?_; clear hK K)
        | (refine hK.2 _ _ _ ?hne ?_; (case hne => simp; done); clear hK K)
        | (refine hK.2.2 _ _ _ ?hne ?_; (case hne => simp; done); clear hK K))
      refine hK.1 _ _ _ ?hm ?hf ⟨i + 1, rfl, (by simp (disch := first | omega | (simp; done) | fail) [wrap64c, if_pos, if_neg, opAnd, opOr, opXor, opDiff, opShr, opBit, hLe', hiN', hoN', e0, e8, e9, e10, e12, hkb1, heq'] <;> omega), (by first | omega | assumption | (simp (disch := first | omega | (simp; done) | fail) [wrap64c, if_pos, if_neg, opAnd, opOr, opXor, opDiff, opShr, opBit, hLe', hiN', hoN', e0, e8, e9, e10, e12, hkb1, heq'] <;> omega)), (hW.trans (W3.trans W4)), A4⟩
      (case hm => first | omega | (simp; omega))
      (case hf => simp [FrameL, hLe', hiN', hoN', e0, e8, e9, e10, e12, hkb1, heq', f0_0, f8_0, f9_0, f10_0])

theorem wr_mid1 {S : Nat → Prop} {h h' : Hp} {n : Nat} (k : Wr S h h') (hn : h.next ≤ n) (hn' : n ≤ h'.next) : Adds ⟨h'.get, n⟩ h' := ⟨⟨hn', fun _ _ => rfl⟩, fun o h1 h2 hl => k.new o (Nat.le_trans hn h1) h2 hl⟩
theorem wr_app1 {S : Nat → Prop} {h h' h2 : Hp} {n : Nat} (k : Wr S h h') (hn : h.next ≤ n) (hn' : n ≤ h'.next) (a : Adds ⟨h'.get, n⟩ h2) : Wr S h h2 where
  upd := ⟨Nat.le_trans hn a.1.1, fun o ho hs => (a.1.2 o (Nat.lt_of_lt_of_le ho hn)).trans (k.upd.2 o ho hs)⟩
  own o ho hs hl := by
    have e : h2.get o = h'.get o := a.1.2 o (Nat.lt_of_lt_of_le ho hn)
    rw [e] at hl ⊢
    exact k.own o ho hs hl
  new o h1 h2' hl := by
    by_cases e : o < n
    · have e2 : h2.get o = h'.get o := a.1.2 o e
      rw [e2] at hl ⊢
      exact k.new o h1 (by omega) hl
    · exact a.2 o (Nat.le_of_not_lt e) h2' hl

theorem asRunT_ok (base ot o1 o2 n wd : Nat) (bt : Value) (xs : List Nat) (g : SpGood n xs) (hm2 : wd = 2 * n) (h : Hp) (v : Value) (set : Nat) (hT : TabOK base ot o1 o2 n wd bt xs h) (hb : base ≤ h.next) (hv : Space h v n (toN xs)) (hF : ∃ b, v = .agg #[.int .i64 (n : Int), b] ∧ IntsF (fun x => x < h.next ∧ x ≠ o1 ∧ x ≠ o2) h b (toN xs)) (hset : set ∈ xs) :
    ∃ v' h', CallOK Try.prog 76 #[v, .pointer (some ⟨ot, 0, none⟩), .int .i64 (set : Int), .bool false] h v' h' ∧ Wr (fun q => q = o1 ∨ q = o2) h h' ∧ TabOK base ot o1 o2 n wd bt xs h' ∧ IntsO (Btw h.next h'.next) h' v' (toN (runF bestN set xs.length xs)) := by
  refine call_L (args := [v, .pointer (some ⟨ot, 0, none⟩), .int .i64 (set : Int), .bool false]) 44 _ [.tmp 8] Try.func76 rfl rfl rfl ?_
  obtain ⟨b, rfl, hX⟩ := hF
  have hXi := hX.ints
  have nt := hXi.nt
  have cs := hXi.cs
  repeat (first
    | (refine WD_block (fun K hK => ?_))
    | (refine WD_seq (fun K hK => ?_)))
  refine WD_region (fun K hK => ?_)
  repeat (first
    | ((first | refine RunD_o rfl rfl rfl rfl rfl (fun X hX => ?_) | refine RunD_s rfl rfl rfl rfl (fun X hX => ?_) | refine WD_c rfl (fun X Y hX hY => ?_)); (try dsimp only); simp (disch := first | omega | (simp; done) | fail) [wrap64c, if_pos, if_neg, opAnd, opOr, opXor, opDiff, opShr, opBit, nt, cs]; (first | refine hX _ _ ?_ | refine hX ?_ | refine hY ?_); (try clear hX X); try clear hY Y))
  refine RunD_heap fun h0 q_h0 => ?_
  have g_h0 : h0.get h.next = .cells [.int .i64 (n : Int), b] true true 1 := by simp [q_h0]
  have k_h0 : Adds h h0 := by rw [q_h0]; exact (by repeat (first | exact keep_self _ | exact adds_self _ | assumption | exact Adds.keeps (by assumption) | refine keeps_alloc ?_ _ | refine adds_alloc ?_ _ _ _ | refine adds_allocM ?_ _ | (refine keeps_put ?_ ?hle _; (case hle => first | omega | (simp; done) | (simp; omega))) | (refine adds_put ?_ ?hle _ _ _; (case hle => first | omega | (simp; done) | (simp; omega)))))
  have n_h0 : h.next < h0.next := by simp [q_h0]; try omega
  have hX0 := hX.keep k_h0.1
  have n7 := g.n7
  have hl7 := g.len7
  have hset7 := g.lt7 _ hset
  have hb1 := hT.b1
  have hb2 := hT.b2
  repeat (first
    | (refine WD_block (fun K hK => ?_))
    | (refine WD_seq (fun K hK => ?_))
    | (refine WD_region (fun K hK => ?_))
    | ((first | refine RunD_o rfl rfl rfl rfl rfl (fun X hX => ?_) | refine RunD_s rfl rfl rfl rfl (fun X hX => ?_) | refine WD_c rfl (fun X Y hX hY => ?_)); (try dsimp only); simp (disch := first | omega | (simp; done) | fail) [wrap64c, if_pos, if_neg, opAnd, opOr, opXor, opDiff, opShr, opBit, nt, cs, g_h0]; (first | refine hX _ _ ?_ | refine hX ?_ | refine hY ?_); (try clear hX X); try clear hY Y)
    | (refine RunD_nil ?_; refine hK _ _ ?_; clear hK K)
    | (refine RunD_nil ?_)
    | (refine WD_skip ?_)
    | (refine WD_exit ?_)
    | (refine WD_ret ?_)
    | (refine hK.1 _ _ ?_; clear hK K)
    | (refine hK.2.1 _ _ ?_; clear hK K)
    | (refine hK.2 _ _ _ ?hne ?_; (case hne => simp; done); clear hK K)
    | (refine hK.2.2 _ _ _ ?hne ?_; (case hne => simp; done); clear hK K))
  refine WD_loopF [1, 2, 3, 4] (fun m tm h' => ∃ k y z acc u, m = k + 0 * (leftN xs y z).length ∧ tm 9 = u ∧ tm 10 = .int .i64 (y : Int) ∧ tm 11 = .int .i64 (z : Int) ∧ (y < 128 ∧ z < 128) ∧ (Wr (fun q => q = o1 ∨ q = o2) h h') ∧ (h'.get h.next = .cells [.int .i64 (n : Int), b] true true 1) ∧ (h.next < h'.next) ∧ (IntsF (fun x => x < h.next ∧ x ≠ o1 ∧ x ≠ o2) h' b (toN xs)) ∧ (TabOK base ot o1 o2 n wd bt xs h') ∧ (IntsA (h.next + 1) h' u (toN acc)) ∧ ((leftN xs y z).length ≤ k) ∧ (acc.length + k = xs.length) ∧ (set ∈ leftN xs y z) ∧ (runF bestN set xs.length xs = acc ++ runF bestN set k (leftN xs y z))) _ ⟨xs.length, 0, 0, [], _, rfl, (by simp (disch := first | omega | (simp; done) | fail) [wrap64c, if_pos, if_neg, opAnd, opOr, opXor, opDiff, opShr, opBit, nt, cs, g_h0]), (by simp (disch := first | omega | (simp; done) | fail) [wrap64c, if_pos, if_neg, opAnd, opOr, opXor, opDiff, opShr, opBit, nt, cs, g_h0]), (by simp (disch := first | omega | (simp; done) | fail) [wrap64c, if_pos, if_neg, opAnd, opOr, opXor, opDiff, opShr, opBit, nt, cs, g_h0]), (by first | omega | assumption | (simp (disch := first | omega | (simp; done) | fail) [wrap64c, if_pos, if_neg, opAnd, opOr, opXor, opDiff, opShr, opBit, nt, cs, g_h0] <;> omega)), (Wr.of_adds k_h0), g_h0, n_h0, hX0, (hT.adds hb k_h0), (.nil _ _), (by rw [left_zero]; exact Nat.le_refl _), (by simp), (by rw [left_zero]; exact hset), (by rw [left_zero]; rfl)⟩ ?_
  rintro m tm h' hFr ⟨k, y, z, acc, u, rfl, e9, e10, e11, hyz, hW, hg1, hnx, hX1, hTT, hu, hk, hak, hin, hr⟩ K hK
  simp only [FrameL] at hFr
  obtain ⟨f1_0, f2_0, f3_0, f4_0, -⟩ := hFr
  try simp (disch := first | omega | (simp; done) | fail) [wrap64c, if_pos, if_neg, opAnd, opOr, opXor, opDiff, opShr, opBit, nt, cs, g_h0] at f1_0 f2_0 f3_0 f4_0
  have e1 := f1_0
  have e2 := f2_0
  have e3 := f3_0
  have e4 := f4_0
  have hg1 := hg1
  repeat (first
    | (refine WD_block (fun K hK => ?_))
    | (refine WD_seq (fun K hK => ?_))
    | (refine WD_region (fun K hK => ?_))
    | ((first | refine RunD_o rfl rfl rfl rfl rfl (fun X hX => ?_) | refine RunD_s rfl rfl rfl rfl (fun X hX => ?_) | refine WD_c rfl (fun X Y hX hY => ?_)); (try dsimp only); simp (disch := first | omega | (simp; done) | fail) [wrap64c, if_pos, if_neg, opAnd, opOr, opXor, opDiff, opShr, opBit, nt, cs, g_h0, e1, e2, e3, e4, e9, e10, e11, hg1]; (first | refine hX _ _ ?_ | refine hX ?_ | refine hY ?_); (try clear hX X); try clear hY Y)
    | (refine RunD_nil ?_; refine hK _ _ ?_; clear hK K)
    | (refine RunD_nil ?_)
    | (refine WD_skip ?_)
    | (refine WD_exit ?_)
    | (refine WD_ret ?_)
    | (refine hK.1 _ _ ?_; clear hK K)
    | (refine hK.2.1 _ _ ?_; clear hK K)
    | (refine hK.2 _ _ _ ?hne ?_; (case hne => simp; done); clear hK K)
    | (refine hK.2.2 _ _ _ ?hne ?_; (case hne => simp; done); clear hK K))
  obtain ⟨v1, h1, hc1, ha1, hi1⟩ := spLeft_ok h' (.agg #[.int .i64 (n : Int), b]) n xs y z (.mk hX1.ints) g.lt7 (by omega) hyz.1 hyz.2
  refine RunD_c rfl rfl rfl rfl (by simp) (by simp) ?ha (hc1) ?_
  (case ha => simp (disch := first | omega | (simp; done) | fail) [wrap64c, if_pos, if_neg, opAnd, opOr, opXor, opDiff, opShr, opBit, nt, cs, g_h0, e1, e2, e3, e4, e9, e10, e11, hg1])
  obtain ⟨L, hLe⟩ : ∃ L, L = leftN xs y z := ⟨_, rfl⟩
  have hLn : ∀ x ∈ L, x < bit n := fun x hm => g.lt x (left_sub (hLe ▸ hm))
  have hLs : L.Pairwise (· < ·) := hLe ▸ left_srt g.srt y z
  have hLl : L.length ≤ 128 := by have := left_len xs y z; rw [hLe]; omega
  have hop := open_ne n7 hLs hLn
  rw [← hLe] at hi1 hk hin hr
  have hM1 := hi1.ints.lenD
  have hln1 := toN_length L
  have hg2 : h1.get h.next = .cells [.int .i64 (n : Int), b] true true 1 := by rw [ha1.1.2 _ hnx]; exact hg1
  have hu1 := hu.keep ha1.1
  have W1 := hW.trans (.of_adds ha1)
  have T1 := hTT.adds (by omega) ha1
  have hn1 := ha1.1.1
  have hX2 := hX1.keep ha1.1
  by_cases h1L : 1 < L.length
  · obtain ⟨i, hi1', hi2, _⟩ := bestN_mem (hop.2 h1L)
    have hi7 : i < 7 := (mem_openK.1 hi2).1
    have hlen := has_len (mem_openK.1 hi2).2
    obtain ⟨k1, hk1⟩ : ∃ q, k = q + 1 := ⟨k - 1, by omega⟩
    rw [hk1, runF_cons hi1'] at hr
    have hb7 := bit_lt7 hi7
    have hy2 := nOr128 (b := bit i) hyz.1 (by omega)
    have hz2 := nOr128 (b := bit i) hyz.2 (by omega)
    repeat (first
      | (refine WD_block (fun K hK => ?_))
      | (refine WD_seq (fun K hK => ?_))
      | (refine WD_region (fun K hK => ?_))
      | ((first | refine RunD_o rfl rfl rfl rfl rfl (fun X hX => ?_) | refine RunD_s rfl rfl rfl rfl (fun X hX => ?_) | refine WD_c rfl (fun X Y hX hY => ?_)); (try dsimp only); simp (disch := first | omega | (simp; done) | fail) [wrap64c, if_pos, if_neg, opAnd, opOr, opXor, opDiff, opShr, opBit, nt, cs, g_h0, e1, e2, e3, e4, e9, e10, e11, hg1, hM1, hln1, h1L]; (first | refine hX _ _ ?_ | refine hX ?_ | refine hY ?_); (try clear hX X); try clear hY Y)
      | (refine RunD_nil ?_; refine hK _ _ ?_; clear hK K)
      | (refine RunD_nil ?_)
      | (refine WD_skip ?_)
      | (refine WD_exit ?_)
      | (refine WD_ret ?_)
      | (refine hK.1 _ _ ?_; clear hK K)
      | (refine hK.2.1 _ _ ?_; clear hK K)
      | (refine hK.2 _ _ _ ?hne ?_; (case hne => simp; done); clear hK K)
      | (refine hK.2.2 _ _ _ ?hne ?_; (case hne => simp; done); clear hK K))
    obtain ⟨_, h2, hc2, rfl, W2, T2⟩ := spBest_ok base ot o1 o2 n wd bt xs g hm2 h1 y z T1 (by omega) hyz.1 hyz.2 (by rw [← hLe]; exact h1L)
    rw [← hLe, hi1'] at hc2
    refine RunD_c rfl rfl rfl rfl (by simp) (by simp) ?ha (hc2) ?_
    (case ha => simp (disch := first | omega | (simp; done) | fail) [wrap64c, if_pos, if_neg, opAnd, opOr, opXor, opDiff, opShr, opBit, nt, cs, g_h0, e1, e2, e3, e4, e9, e10, e11, hg1, hM1, hln1, h1L])
    have WW := W1.trans W2
    have hn2 := W2.upd.1
    have hu2 := ia_upd hu1 W2.upd (fun o ho => by rcases ho with rfl | rfl <;> omega)
    have hg3 : h2.get h.next = .cells [.int .i64 (n : Int), b] true true 1 := by rw [W2.upd.2 _ (by omega) (by omega)]; exact hg2
    have hX3 := hX2.same (W2.upd.same fun x hx hx' => by rcases hx' with rfl | rfl <;> simp at hx)
    repeat (first
      | (refine WD_block (fun K hK => ?_))
      | (refine WD_seq (fun K hK => ?_))
      | (refine WD_region (fun K hK => ?_))
      | ((first | refine RunD_o rfl rfl rfl rfl rfl (fun X hX => ?_) | refine RunD_s rfl rfl rfl rfl (fun X hX => ?_) | refine WD_c rfl (fun X Y hX hY => ?_)); (try dsimp only); simp (disch := first | omega | (simp; done) | fail) [wrap64c, if_pos, if_neg, opAnd, opOr, opXor, opDiff, opShr, opBit, nt, cs, g_h0, e1, e2, e3, e4, e9, e10, e11, hg1, hM1, hln1, h1L]; (first | refine hX _ _ ?_ | refine hX ?_ | refine hY ?_); (try clear hX X); try clear hY Y)
      | (refine RunD_nil ?_; refine hK _ _ ?_; clear hK K)
      | (refine RunD_nil ?_)
      | (refine WD_skip ?_)
      | (refine WD_exit ?_)
      | (refine WD_ret ?_)
      | (refine hK.1 _ _ ?_; clear hK K)
      | (refine hK.2.1 _ _ ?_; clear hK K)
      | (refine hK.2 _ _ _ ?hne ?_; (case hne => simp; done); clear hK K)
      | (refine hK.2.2 _ _ _ ?hne ?_; (case hne => simp; done); clear hK K))
    obtain ⟨u3, h3, hap, hu3, ha3, hn3, hs3⟩ := appI hu2 (i : Int) (by simp; omega) (by omega) (wr_mid1 (n := h.next + 1) WW (by omega) (by omega)) (Nat.le_refl _)
    have hsm : ∀ q, q < h.next + 1 → h3.get q = h2.get q := fun q hq => ha3.1.2 q hq
    have W3 := wr_app1 WW (by omega) (by omega) ha3
    have T3 : TabOK base ot o1 o2 n wd bt xs h3 := by
      obtain ⟨W', T', q1, q2, q3, q4, q5⟩ := T2.ent
      have htb := T2.tb
      exact ⟨T2.tb, T2.b1, T2.b2, T2.n1, T2.n2, T2.n12, by rw [hsm _ (by omega)]; exact T2.tab, T2.ints.same ⟨by omega, fun q hq _ => hsm q (by omega)⟩, W', T', q1, q2, by rw [hsm _ (by omega)]; exact q3, by rw [hsm _ (by omega)]; exact q4, q5⟩
    have hg4 : h3.get h.next = .cells [.int .i64 (n : Int), b] true true 1 := by rw [hsm _ (by omega)]; exact hg3
    have hX4 : IntsF (fun x => x < h.next ∧ x ≠ o1 ∧ x ≠ o2) h3 b (toN xs) := hX3.same ⟨by omega, fun q hq _ => hsm q (by omega)⟩
    repeat (first
      | (refine WD_block (fun K hK => ?_))
      | (refine WD_seq (fun K hK => ?_))
      | (refine WD_region (fun K hK => ?_))
      | ((first | refine RunD_o rfl rfl rfl rfl rfl (fun X hX => ?_) | refine RunD_s rfl rfl rfl rfl (fun X hX => ?_) | refine WD_c rfl (fun X Y hX hY => ?_)); (try dsimp only); simp (disch := first | omega | (simp; done) | fail) [wrap64c, if_pos, if_neg, opAnd, opOr, opXor, opDiff, opShr, opBit, nt, cs, g_h0, e1, e2, e3, e4, e9, e10, e11, hg1, hM1, hln1, h1L, hap]; (first | refine hX _ _ ?_ | refine hX ?_ | refine hY ?_); (try clear hX X); try clear hY Y)
      | (refine RunD_nil ?_; refine hK _ _ ?_; clear hK K)
      | (refine RunD_nil ?_)
      | (refine WD_skip ?_)
      | (refine WD_exit ?_)
      | (refine WD_ret ?_)
      | (refine hK.1 _ _ ?_; clear hK K)
      | (refine hK.2.1 _ _ ?_; clear hK K)
      | (refine hK.2 _ _ _ ?hne ?_; (case hne => simp; done); clear hK K)
      | (refine hK.2.2 _ _ _ ?hne ?_; (case hne => simp; done); clear hK K))
    refine RunD_c rfl rfl rfl rfl (by simp) (by simp) ?ha (spIn_ok h3 set i (by omega) (by omega)) ?_
    (case ha => simp (disch := first | omega | (simp; done) | fail) [wrap64c, if_pos, if_neg, opAnd, opOr, opXor, opDiff, opShr, opBit, nt, cs, g_h0, e1, e2, e3, e4, e9, e10, e11, hg1, hM1, hln1, h1L])
    cases hsb : set.testBit i
    · rw [hsb] at hr
      have hin' : set ∈ lacksL L i := List.mem_filter.2 ⟨hin, by simp [hsb]⟩
      repeat (first
        | (refine WD_block (fun K hK => ?_))
        | (refine WD_seq (fun K hK => ?_))
        | (refine WD_region (fun K hK => ?_))
        | ((first | refine RunD_o rfl rfl rfl rfl rfl (fun X hX => ?_) | refine RunD_s rfl rfl rfl rfl (fun X hX => ?_) | refine WD_c rfl (fun X Y hX hY => ?_)); (try dsimp only); simp (disch := first | omega | (simp; done) | fail) [wrap64c, if_pos, if_neg, opAnd, opOr, opXor, opDiff, opShr, opBit, nt, cs, g_h0, e1, e2, e3, e4, e9, e10, e11, hg1, hM1, hln1, h1L, hsb]; (first | refine hX _ _ ?_ | refine hX ?_ | refine hY ?_); (try clear hX X); try clear hY Y)
        | (refine RunD_nil ?_; refine hK _ _ ?_; clear hK K)
        | (refine RunD_nil ?_)
        | (refine WD_skip ?_)
        | (refine WD_exit ?_)
        | (refine WD_ret ?_)
        | (refine hK.1 _ _ ?_; clear hK K)
        | (refine hK.2.1 _ _ ?_; clear hK K)
        | (refine hK.2 _ _ _ ?hne ?_; (case hne => simp; done); clear hK K)
        | (refine hK.2.2 _ _ _ ?hne ?_; (case hne => simp; done); clear hK K))
      refine hK.1 _ _ _ ?hm ?hf ⟨k1, y, nOr z (bit i), acc ++ [i], u3, rfl, (by simp (disch := first | omega | (simp; done) | fail) [wrap64c, if_pos, if_neg, opAnd, opOr, opXor, opDiff, opShr, opBit, nt, cs, g_h0, e1, e2, e3, e4, e9, e10, e11, hg1, hM1, hln1, h1L, hsb] <;> omega), (by simp (disch := first | omega | (simp; done) | fail) [wrap64c, if_pos, if_neg, opAnd, opOr, opXor, opDiff, opShr, opBit, nt, cs, g_h0, e1, e2, e3, e4, e9, e10, e11, hg1, hM1, hln1, h1L, hsb] <;> omega), (by simp (disch := first | omega | (simp; done) | fail) [wrap64c, if_pos, if_neg, opAnd, opOr, opXor, opDiff, opShr, opBit, nt, cs, g_h0, e1, e2, e3, e4, e9, e10, e11, hg1, hM1, hln1, h1L, hsb] <;> omega), (by first | omega | assumption | (simp (disch := first | omega | (simp; done) | fail) [wrap64c, if_pos, if_neg, opAnd, opOr, opXor, opDiff, opShr, opBit, nt, cs, g_h0, e1, e2, e3, e4, e9, e10, e11, hg1, hM1, hln1, h1L, hsb] <;> omega)), W3, hg4, (by first | omega | assumption | (simp (disch := first | omega | (simp; done) | fail) [wrap64c, if_pos, if_neg, opAnd, opOr, opXor, opDiff, opShr, opBit, nt, cs, g_h0, e1, e2, e3, e4, e9, e10, e11, hg1, hM1, hln1, h1L, hsb] <;> omega)), hX4, T3, (by rw [toN_snoc]; exact hu3), (by rw [left_no, ← hLe]; omega), (by simp; omega), (by rw [left_no, ← hLe]; exact hin'), (by rw [left_no, ← hLe, hr]; simp)⟩
      (case hm => first | omega | (simp; omega))
      (case hf => simp [FrameL, nt, cs, g_h0, e1, e2, e3, e4, e9, e10, e11, hg1, hM1, hln1, h1L, hsb, f1_0, f2_0, f3_0, f4_0])
    · rw [hsb] at hr
      have hin' : set ∈ hasL L i := List.mem_filter.2 ⟨hin, hsb⟩
      repeat (first
        | (refine WD_block (fun K hK => ?_))
        | (refine WD_seq (fun K hK => ?_))
        | (refine WD_region (fun K hK => ?_))
        | ((first | refine RunD_o rfl rfl rfl rfl rfl (fun X hX => ?_) | refine RunD_s rfl rfl rfl rfl (fun X hX => ?_) | refine WD_c rfl (fun X Y hX hY => ?_)); (try dsimp only); simp (disch := first | omega | (simp; done) | fail) [wrap64c, if_pos, if_neg, opAnd, opOr, opXor, opDiff, opShr, opBit, nt, cs, g_h0, e1, e2, e3, e4, e9, e10, e11, hg1, hM1, hln1, h1L, hsb]; (first | refine hX _ _ ?_ | refine hX ?_ | refine hY ?_); (try clear hX X); try clear hY Y)
        | (refine RunD_nil ?_; refine hK _ _ ?_; clear hK K)
        | (refine RunD_nil ?_)
        | (refine WD_skip ?_)
        | (refine WD_exit ?_)
        | (refine WD_ret ?_)
        | (refine hK.1 _ _ ?_; clear hK K)
        | (refine hK.2.1 _ _ ?_; clear hK K)
        | (refine hK.2 _ _ _ ?hne ?_; (case hne => simp; done); clear hK K)
        | (refine hK.2.2 _ _ _ ?hne ?_; (case hne => simp; done); clear hK K))
      refine hK.1 _ _ _ ?hm ?hf ⟨k1, nOr y (bit i), z, acc ++ [i], u3, rfl, (by simp (disch := first | omega | (simp; done) | fail) [wrap64c, if_pos, if_neg, opAnd, opOr, opXor, opDiff, opShr, opBit, nt, cs, g_h0, e1, e2, e3, e4, e9, e10, e11, hg1, hM1, hln1, h1L, hsb] <;> omega), (by simp (disch := first | omega | (simp; done) | fail) [wrap64c, if_pos, if_neg, opAnd, opOr, opXor, opDiff, opShr, opBit, nt, cs, g_h0, e1, e2, e3, e4, e9, e10, e11, hg1, hM1, hln1, h1L, hsb] <;> omega), (by simp (disch := first | omega | (simp; done) | fail) [wrap64c, if_pos, if_neg, opAnd, opOr, opXor, opDiff, opShr, opBit, nt, cs, g_h0, e1, e2, e3, e4, e9, e10, e11, hg1, hM1, hln1, h1L, hsb] <;> omega), (by first | omega | assumption | (simp (disch := first | omega | (simp; done) | fail) [wrap64c, if_pos, if_neg, opAnd, opOr, opXor, opDiff, opShr, opBit, nt, cs, g_h0, e1, e2, e3, e4, e9, e10, e11, hg1, hM1, hln1, h1L, hsb] <;> omega)), W3, hg4, (by first | omega | assumption | (simp (disch := first | omega | (simp; done) | fail) [wrap64c, if_pos, if_neg, opAnd, opOr, opXor, opDiff, opShr, opBit, nt, cs, g_h0, e1, e2, e3, e4, e9, e10, e11, hg1, hM1, hln1, h1L, hsb] <;> omega)), hX4, T3, (by rw [toN_snoc]; exact hu3), (by rw [left_yes, ← hLe]; omega), (by simp; omega), (by rw [left_yes, ← hLe]; exact hin'), (by rw [left_yes, ← hLe, hr]; simp)⟩
      (case hm => first | omega | (simp; omega))
      (case hf => simp [FrameL, nt, cs, g_h0, e1, e2, e3, e4, e9, e10, e11, hg1, hM1, hln1, h1L, hsb, f1_0, f2_0, f3_0, f4_0])
  · have hon : openN L = [] := by
      apply Classical.byContradiction
      intro hn
      exact h1L (hop.1 hn)
    rw [runF_nil (L := L) (by rw [bestN_nil hon]; omega), List.append_nil] at hr
    repeat (first
      | (refine WD_block (fun K hK => ?_))
      | (refine WD_seq (fun K hK => ?_))
      | (refine WD_region (fun K hK => ?_))
      | ((first | refine RunD_o rfl rfl rfl rfl rfl (fun X hX => ?_) | refine RunD_s rfl rfl rfl rfl (fun X hX => ?_) | refine WD_c rfl (fun X Y hX hY => ?_)); (try dsimp only); simp (disch := first | omega | (simp; done) | fail) [wrap64c, if_pos, if_neg, opAnd, opOr, opXor, opDiff, opShr, opBit, nt, cs, g_h0, e1, e2, e3, e4, e9, e10, e11, hg1, hM1, hln1, h1L]; (first | refine hX _ _ ?_ | refine hX ?_ | refine hY ?_); (try clear hX X); try clear hY Y)
      | (refine RunD_nil ?_; refine hK _ _ ?_; clear hK K)
      | (refine RunD_nil ?_)
      | (refine WD_skip ?_)
      | (refine WD_exit ?_)
      | (refine WD_ret ?_)
      | (refine hK.1 _ _ ?_; clear hK K)
      | (refine hK.2.1 _ _ ?_; clear hK K)
      | (refine hK.2 _ _ _ ?hne ?_; (case hne => simp; done); clear hK K)
      | (refine hK.2.2 _ _ _ ?hne ?_; (case hne => simp; done); clear hK K))
    refine done_ret rfl ⟨W1, T1, ?_⟩
    rw [hr]
    exact (hu1.own (by simp; omega)).sub fun o ho => ⟨by have := ho.1; omega, ho.2⟩

noncomputable def askR (N : Int) (X : List Int) (a : Int) : List Int := if oneB N X a = true then toN (runF bestN a.toNat X.length (natsOf X)) else []
theorem askR_len (N : Int) (X : List Int) (a : Int) : (askR N X a).length ≤ 128 := by
  unfold askR
  split
  · rename_i h
    obtain ⟨n, xs, x, rfl, rfl, rfl, g, hx⟩ := oneB_true h
    have h1 := runF_len bestN x (toN xs).length xs
    have h2 := g.len7
    simp at h1 ⊢; omega
  · simp

theorem specAsk_ok (h : Hp) (v : Value) (N : Int) (X : List Int) (a : Int) (hv : Space h v N X) (hl : X.length < 2 ^ 40) :
    ∃ v' h', CallOK Try.prog 48 #[v, .int .i64 a] h v' h' ∧ Adds h h' ∧ ∃ u, v' = .tuple #[u, .bool (oneB N X a)] ∧ IntsO (Btw h.next h'.next) h' u (askR N X a) := by
  refine call_L (args := [v, .int .i64 a]) 15 _ [.tmp 4, .tmp 5] Try.func48 rfl rfl rfl ?_
  obtain ⟨b, rfl, hX⟩ := hv
  repeat (first
    | (refine WD_block (fun K hK => ?_))
    | (refine WD_seq (fun K hK => ?_)))
  refine WD_region (fun K hK => ?_)
  repeat (first
    | ((first | refine RunD_o rfl rfl rfl rfl rfl (fun X hX => ?_) | refine RunD_s rfl rfl rfl rfl (fun X hX => ?_) | refine PreD_o rfl rfl rfl rfl rfl (fun X hX => ?_) | refine WD_c rfl (fun X Y hX hY => ?_)); (try dsimp only); simp (disch := first | omega | (simp; done) | fail) [wrap64c, if_pos, if_neg, opAnd, opOr, opXor, opDiff, opShr, opBit]; (first | (refine hX _ _ ?hadd ?_; (case hadd => simp; done)) | refine hX _ _ ?_ | refine hX ?_ | refine hY ?_); (try clear hX X); try clear hY Y))
  refine RunD_heap fun h0 q_h0 => ?_
  have g_h0 : h0.get h.next = .cells [.int .i64 N, b] true true 1 := by simp [q_h0]
  have k_h0 : Adds h h0 := by rw [q_h0]; exact (by repeat (first | exact keep_self _ | exact adds_self _ | assumption | exact Adds.keeps (by assumption) | refine keeps_alloc ?_ _ | refine adds_alloc ?_ _ _ _ | refine adds_allocM ?_ _ | (refine keeps_put ?_ ?hle _; (case hle => first | omega | (simp; done) | (simp; omega))) | (refine adds_put ?_ ?hle _ _ _; (case hle => first | omega | (simp; done) | (simp; omega)))))
  have n_h0 : h.next < h0.next := by simp [q_h0]; try omega
  have hX0 := hX.keep k_h0.1
  repeat (first
    | (refine WD_block (fun K hK => ?_))
    | (refine WD_seq (fun K hK => ?_))
    | (refine WD_region (fun K hK => ?_))
    | ((first | refine RunD_o rfl rfl rfl rfl rfl (fun X hX => ?_) | refine RunD_s rfl rfl rfl rfl (fun X hX => ?_) | refine PreD_o rfl rfl rfl rfl rfl (fun X hX => ?_) | refine WD_c rfl (fun X Y hX hY => ?_)); (try dsimp only); simp (disch := first | omega | (simp; done) | fail) [wrap64c, if_pos, if_neg, opAnd, opOr, opXor, opDiff, opShr, opBit, g_h0]; (first | (refine hX _ _ ?hadd ?_; (case hadd => simp; done)) | refine hX _ _ ?_ | refine hX ?_ | refine hY ?_); (try clear hX X); try clear hY Y)
    | (refine RunD_nil ?_; refine hK _ _ ?_; clear hK K)
    | (refine RunD_nil ?_)
    | (refine PreD_nil ?_; refine hK _ _ ?_; clear hK K)
    | (refine WD_skip ?_)
    | (refine WD_exit ?_)
    | (refine WD_ret ?_)
    | (refine hK.1 _ _ ?_; clear hK K)
    | (refine hK.2.1 _ _ ?_; clear hK K)
    | (refine hK.2 _ _ _ ?hne ?_; (case hne => simp; done); clear hK K)
    | (refine hK.2.2 _ _ _ ?hne ?_; (case hne => simp; done); clear hK K))
  refine RunD_c rfl rfl rfl rfl (by simp) (by simp) ?ha (spOne_ok h0 (.agg #[.int .i64 N, b]) N X a (.mk hX0) hl) ?_
  (case ha => simp (disch := first | omega | (simp; done) | fail) [wrap64c, if_pos, if_neg, opAnd, opOr, opXor, opDiff, opShr, opBit, g_h0])
  cases c1 : oneB N X a
  · repeat (first
      | (refine WD_block (fun K hK => ?_))
      | (refine WD_seq (fun K hK => ?_))
      | (refine WD_region (fun K hK => ?_))
      | ((first | refine RunD_o rfl rfl rfl rfl rfl (fun X hX => ?_) | refine RunD_s rfl rfl rfl rfl (fun X hX => ?_) | refine PreD_o rfl rfl rfl rfl rfl (fun X hX => ?_) | refine WD_c rfl (fun X Y hX hY => ?_)); (try dsimp only); simp (disch := first | omega | (simp; done) | fail) [wrap64c, if_pos, if_neg, opAnd, opOr, opXor, opDiff, opShr, opBit, g_h0, c1]; (first | (refine hX _ _ ?hadd ?_; (case hadd => simp; done)) | refine hX _ _ ?_ | refine hX ?_ | refine hY ?_); (try clear hX X); try clear hY Y)
      | (refine RunD_nil ?_; refine hK _ _ ?_; clear hK K)
      | (refine RunD_nil ?_)
      | (refine PreD_nil ?_; refine hK _ _ ?_; clear hK K)
      | (refine WD_skip ?_)
      | (refine WD_exit ?_)
      | (refine WD_ret ?_)
      | (refine hK.1 _ _ ?_; clear hK K)
      | (refine hK.2.1 _ _ ?_; clear hK K)
      | (refine hK.2 _ _ _ ?hne ?_; (case hne => simp; done); clear hK K)
      | (refine hK.2.2 _ _ _ ?hne ?_; (case hne => simp; done); clear hK K))
    refine done_ret rfl ⟨k_h0, _, by simp [c1]; rfl, ?_⟩
    rw [askR, if_neg (by simp [c1])]
    exact .nil _ _
  · obtain ⟨n, xs, x, hN, hXe, hae, g, hx⟩ := oneB_true c1
    have hNt : N = (n : Int) := hN
    have hat : a = (x : Int) := hae
    have hX1 : Ints h0 b (toN xs) := hXe ▸ hX0
    repeat (first
      | (refine WD_block (fun K hK => ?_))
      | (refine WD_seq (fun K hK => ?_))
      | (refine WD_region (fun K hK => ?_))
      | ((first | refine RunD_o rfl rfl rfl rfl rfl (fun X hX => ?_) | refine RunD_s rfl rfl rfl rfl (fun X hX => ?_) | refine PreD_o rfl rfl rfl rfl rfl (fun X hX => ?_) | refine WD_c rfl (fun X Y hX hY => ?_)); (try dsimp only); simp (disch := first | omega | (simp; done) | fail) [wrap64c, if_pos, if_neg, opAnd, opOr, opXor, opDiff, opShr, opBit, g_h0, c1, hNt, hat]; (first | (refine hX _ _ ?hadd ?_; (case hadd => simp; done)) | refine hX _ _ ?_ | refine hX ?_ | refine hY ?_); (try clear hX X); try clear hY Y)
      | (refine RunD_nil ?_; refine hK _ _ ?_; clear hK K)
      | (refine RunD_nil ?_)
      | (refine PreD_nil ?_; refine hK _ _ ?_; clear hK K)
      | (refine WD_skip ?_)
      | (refine WD_exit ?_)
      | (refine WD_ret ?_)
      | (refine hK.1 _ _ ?_; clear hK K)
      | (refine hK.2.1 _ _ ?_; clear hK K)
      | (refine hK.2 _ _ _ ?hne ?_; (case hne => simp; done); clear hK K)
      | (refine hK.2.2 _ _ _ ?hne ?_; (case hne => simp; done); clear hK K))
    refine WD_draw 4 rfl (by kernel_rfl) (fun K hK => ?_)
    repeat (first
      | (refine WD_block (fun K hK => ?_))
      | (refine WD_seq (fun K hK => ?_))
      | (refine WD_region (fun K hK => ?_))
      | ((first | refine RunD_o rfl rfl rfl rfl rfl (fun X hX => ?_) | refine RunD_s rfl rfl rfl rfl (fun X hX => ?_) | refine PreD_o rfl rfl rfl rfl rfl (fun X hX => ?_) | refine WD_c rfl (fun X Y hX hY => ?_)); (try dsimp only); simp (disch := first | omega | (simp; done) | fail) [wrap64c, if_pos, if_neg, opAnd, opOr, opXor, opDiff, opShr, opBit, g_h0, c1, hNt, hat]; (first | (refine hX _ _ ?hadd ?_; (case hadd => simp; done)) | refine hX _ _ ?_ | refine hX ?_ | refine hY ?_); (try clear hX X); try clear hY Y)
      | (refine RunD_nil ?_; refine hK _ _ ?_; clear hK K)
      | (refine RunD_nil ?_)
      | (refine PreD_nil ?_; refine hK _ _ ?_; clear hK K)
      | (refine WD_skip ?_)
      | (refine WD_exit ?_)
      | (refine WD_ret ?_)
      | (refine hK.1 _ _ ?_; clear hK K)
      | (refine hK.2.1 _ _ ?_; clear hK K)
      | (refine hK.2 _ _ _ ?hne ?_; (case hne => simp; done); clear hK K)
      | (refine hK.2.2 _ _ _ ?hne ?_; (case hne => simp; done); clear hK K))
    obtain ⟨_, h1, hc1, ot, o1, o2, b1, rfl, ha1, hlo, hT⟩ := asNew_ok h0 (.agg #[.int .i64 (n : Int), b]) n xs (.mk hX1) g.n7
    refine PreD_c rfl rfl rfl rfl (by simp) (by simp) ?ha (hc1) ?hadd ?_
    (case ha => simp (disch := first | omega | (simp; done) | fail) [wrap64c, if_pos, if_neg, opAnd, opOr, opXor, opDiff, opShr, opBit, g_h0, c1, hNt, hat])
    (case hadd => first | assumption | exact adds_self _ | (simp; done))
    repeat (first
      | (refine WD_block (fun K hK => ?_))
      | (refine WD_seq (fun K hK => ?_))
      | (refine WD_region (fun K hK => ?_))
      | ((first | refine RunD_o rfl rfl rfl rfl rfl (fun X hX => ?_) | refine RunD_s rfl rfl rfl rfl (fun X hX => ?_) | refine PreD_o rfl rfl rfl rfl rfl (fun X hX => ?_) | refine WD_c rfl (fun X Y hX hY => ?_)); (try dsimp only); simp (disch := first | omega | (simp; done) | fail) [wrap64c, if_pos, if_neg, opAnd, opOr, opXor, opDiff, opShr, opBit, g_h0, c1, hNt, hat]; (first | (refine hX _ _ ?hadd ?_; (case hadd => simp; done)) | refine hX _ _ ?_ | refine hX ?_ | refine hY ?_); (try clear hX X); try clear hY Y)
      | (refine RunD_nil ?_; refine hK _ _ ?_; clear hK K)
      | (refine RunD_nil ?_)
      | (refine PreD_nil ?_; refine hK _ _ ?_; clear hK K)
      | (refine WD_skip ?_)
      | (refine WD_exit ?_)
      | (refine WD_ret ?_)
      | (refine hK.1 _ _ ?_; clear hK K)
      | (refine hK.2.1 _ _ ?_; clear hK K)
      | (refine hK.2 _ _ _ ?hne ?_; (case hne => simp; done); clear hK K)
      | (refine hK.2.2 _ _ _ ?hne ?_; (case hne => simp; done); clear hK K))
    have hF : IntsF (fun x => x < h1.next ∧ x ≠ o1 ∧ x ≠ o2) h1 b (toN xs) := (hX1.old.keep ha1.1).sub fun q hq => by have := ha1.1.1; omega
    obtain ⟨u, h2, hc2, W2, T2, hi2⟩ := asRunT_ok h1.next ot o1 o2 n (2 * n) b1 xs g rfl h1 (.agg #[.int .i64 (n : Int), b]) x hT (Nat.le_refl _) (.mk hF.ints) ⟨b, rfl, hF⟩ hx
    refine RunD_c rfl rfl rfl rfl (by simp) (by simp) ?ha (hc2) ?_
    (case ha => simp (disch := first | omega | (simp; done) | fail) [wrap64c, if_pos, if_neg, opAnd, opOr, opXor, opDiff, opShr, opBit, g_h0, c1, hNt, hat])
    have A2 : Adds h0 h2 := ha1.wr W2 fun o ho => by rcases ho with rfl | rfl <;> omega
    repeat (first
      | (refine WD_block (fun K hK => ?_))
      | (refine WD_seq (fun K hK => ?_))
      | (refine WD_region (fun K hK => ?_))
      | ((first | refine RunD_o rfl rfl rfl rfl rfl (fun X hX => ?_) | refine RunD_s rfl rfl rfl rfl (fun X hX => ?_) | refine PreD_o rfl rfl rfl rfl rfl (fun X hX => ?_) | refine WD_c rfl (fun X Y hX hY => ?_)); (try dsimp only); simp (disch := first | omega | (simp; done) | fail) [wrap64c, if_pos, if_neg, opAnd, opOr, opXor, opDiff, opShr, opBit, g_h0, c1, hNt, hat]; (first | (refine hX _ _ ?hadd ?_; (case hadd => simp; done)) | refine hX _ _ ?_ | refine hX ?_ | refine hY ?_); (try clear hX X); try clear hY Y)
      | (refine RunD_nil ?_; refine hK _ _ ?_; clear hK K)
      | (refine RunD_nil ?_)
      | (refine PreD_nil ?_; refine hK _ _ ?_; clear hK K)
      | (refine WD_skip ?_)
      | (refine WD_exit ?_)
      | (refine WD_ret ?_)
      | (refine hK.1 _ _ ?_; clear hK K)
      | (refine hK.2.1 _ _ ?_; clear hK K)
      | (refine hK.2 _ _ _ ?hne ?_; (case hne => simp; done); clear hK K)
      | (refine hK.2.2 _ _ _ ?hne ?_; (case hne => simp; done); clear hK K))
    refine done_ret rfl ⟨k_h0.trans A2, _, by simp [c1]; rfl, ?_⟩
    rw [askR, if_pos c1, hXe, hae, natsOf_toN, toN_length, Int.toNat_natCast]
    exact hi2.sub fun o ho => ⟨by have := ho.1; have := ha1.1.1; omega, ho.2⟩

theorem askBest (L : List Nat) : bestN L < 0 ∨ ∃ i, bestN L = (i : Nat) ∧ i ∈ openN L := by
  by_cases he : openN L = []
  · left; rw [bestN_nil he]; omega
  · right
    obtain ⟨i, h1, h2, _⟩ := bestN_mem he
    exact ⟨i, h1, h2⟩

theorem runBest_ok (base o p : Nat) (N : Int) (b m2 : Value) (xs : List Nat) (hx : ∀ x ∈ xs, x < 128) (hl : xs.length < 2 ^ 39) (h : Hp) (hA : AskOK base o p N b m2 xs h) (hb : base ≤ h.next) (set : Nat) (hset : set < 128) :
    ∃ v' h', CallOK Try.prog 77 #[.int .i64 (set : Int), .func (.func 81) #[.pointer (some ⟨o, 0, none⟩)] #[]] h v' h' ∧ Wr (fun q => q = p) h h' ∧ AskOK base o p N b m2 xs h' ∧ IntsO (Btw h.next h'.next) h' v' (toN (runF bestN set xs.length xs)) :=
  run_ok bestN askBest 81 (.pointer (some ⟨o, 0, none⟩)) (fun q => q = p) (AskOK base o p N b m2 xs) base xs
    (fun h h' hp _ h2 hs => hp.stab h2 hs) (fun h y z hp hb hy hz => best_ok base o p N b m2 xs hx hl h y z hp hb hy hz) (fun o ho => by have := hA.pb; omega) (by simp) h hA hb set hset hl

theorem implAsk_ok (h : Hp) (v : Value) (N : Int) (X : List Int) (a : Int) (hv : Space h v N X) (hl : X.length < 2 ^ 40) :
    ∃ v' h', CallOK Try.prog 49 #[v, .int .i64 a] h v' h' ∧ Adds h h' ∧ ∃ u, v' = .tuple #[u, .bool (oneB N X a)] ∧ IntsO (Btw h.next h'.next) h' u (askR N X a) := by
  refine call_L (args := [v, .int .i64 a]) 15 _ [.tmp 4, .tmp 5] Try.func49 rfl rfl rfl ?_
  obtain ⟨b, rfl, hX⟩ := hv
  repeat (first
    | (refine WD_block (fun K hK => ?_))
    | (refine WD_seq (fun K hK => ?_)))
  refine WD_region (fun K hK => ?_)
  repeat (first
    | ((first | refine RunD_o rfl rfl rfl rfl rfl (fun X hX => ?_) | refine RunD_s rfl rfl rfl rfl (fun X hX => ?_) | refine WD_c rfl (fun X Y hX hY => ?_)); (try dsimp only); simp (disch := first | omega | (simp; done) | fail) [wrap64c, if_pos, if_neg, opAnd, opOr, opXor, opDiff, opShr, opBit]; (first | refine hX _ _ ?_ | refine hX ?_ | refine hY ?_); (try clear hX X); try clear hY Y))
  refine RunD_heap fun h0 q_h0 => ?_
  have g_h0 : h0.get h.next = .cells [.int .i64 N, b] true true 1 := by simp [q_h0]
  have k_h0 : Adds h h0 := by rw [q_h0]; exact (by repeat (first | exact keep_self _ | exact adds_self _ | assumption | exact Adds.keeps (by assumption) | refine keeps_alloc ?_ _ | refine adds_alloc ?_ _ _ _ | refine adds_allocM ?_ _ | (refine keeps_put ?_ ?hle _; (case hle => first | omega | (simp; done) | (simp; omega))) | (refine adds_put ?_ ?hle _ _ _; (case hle => first | omega | (simp; done) | (simp; omega)))))
  have n_h0 : h.next < h0.next := by simp [q_h0]; try omega
  have hX0 := hX.keep k_h0.1
  repeat (first
    | (refine WD_block (fun K hK => ?_))
    | (refine WD_seq (fun K hK => ?_))
    | (refine WD_region (fun K hK => ?_))
    | ((first | refine RunD_o rfl rfl rfl rfl rfl (fun X hX => ?_) | refine RunD_s rfl rfl rfl rfl (fun X hX => ?_) | refine WD_c rfl (fun X Y hX hY => ?_)); (try dsimp only); simp (disch := first | omega | (simp; done) | fail) [wrap64c, if_pos, if_neg, opAnd, opOr, opXor, opDiff, opShr, opBit, g_h0]; (first | refine hX _ _ ?_ | refine hX ?_ | refine hY ?_); (try clear hX X); try clear hY Y)
    | (refine RunD_nil ?_; refine hK _ _ ?_; clear hK K)
    | (refine RunD_nil ?_)
    | (refine WD_skip ?_)
    | (refine WD_exit ?_)
    | (refine WD_ret ?_)
    | (refine hK.1 _ _ ?_; clear hK K)
    | (refine hK.2.1 _ _ ?_; clear hK K)
    | (refine hK.2 _ _ _ ?hne ?_; (case hne => simp; done); clear hK K)
    | (refine hK.2.2 _ _ _ ?hne ?_; (case hne => simp; done); clear hK K))
  refine RunD_c rfl rfl rfl rfl (by simp) (by simp) ?ha (isKnown_ok h0 (.agg #[.int .i64 N, b]) N X a (.mk hX0) hl) ?_
  (case ha => simp (disch := first | omega | (simp; done) | fail) [wrap64c, if_pos, if_neg, opAnd, opOr, opXor, opDiff, opShr, opBit, g_h0])
  cases c1 : oneB N X a
  · repeat (first
      | (refine WD_block (fun K hK => ?_))
      | (refine WD_seq (fun K hK => ?_))
      | (refine WD_region (fun K hK => ?_))
      | ((first | refine RunD_o rfl rfl rfl rfl rfl (fun X hX => ?_) | refine RunD_s rfl rfl rfl rfl (fun X hX => ?_) | refine WD_c rfl (fun X Y hX hY => ?_)); (try dsimp only); simp (disch := first | omega | (simp; done) | fail) [wrap64c, if_pos, if_neg, opAnd, opOr, opXor, opDiff, opShr, opBit, g_h0, c1]; (first | refine hX _ _ ?_ | refine hX ?_ | refine hY ?_); (try clear hX X); try clear hY Y)
      | (refine RunD_nil ?_; refine hK _ _ ?_; clear hK K)
      | (refine RunD_nil ?_)
      | (refine WD_skip ?_)
      | (refine WD_exit ?_)
      | (refine WD_ret ?_)
      | (refine hK.1 _ _ ?_; clear hK K)
      | (refine hK.2.1 _ _ ?_; clear hK K)
      | (refine hK.2 _ _ _ ?hne ?_; (case hne => simp; done); clear hK K)
      | (refine hK.2.2 _ _ _ ?hne ?_; (case hne => simp; done); clear hK K))
    refine done_ret rfl ⟨k_h0, _, by simp [c1]; rfl, ?_⟩
    rw [askR, if_neg (by simp [c1])]
    exact .nil _ _
  · obtain ⟨n, xs, x, hN, hXe, hae, g, hx⟩ := oneB_true c1
    have hNt : N = (n : Int) := hN
    have hat : a = (x : Int) := hae
    have hX1 : Ints h0 b (toN xs) := hXe ▸ hX0
    have hl7 := g.len7
    repeat (first
      | (refine WD_block (fun K hK => ?_))
      | (refine WD_seq (fun K hK => ?_))
      | (refine WD_region (fun K hK => ?_))
      | ((first | refine RunD_o rfl rfl rfl rfl rfl (fun X hX => ?_) | refine RunD_s rfl rfl rfl rfl (fun X hX => ?_) | refine WD_c rfl (fun X Y hX hY => ?_)); (try dsimp only); simp (disch := first | omega | (simp; done) | fail) [wrap64c, if_pos, if_neg, opAnd, opOr, opXor, opDiff, opShr, opBit, g_h0, c1, hNt, hat]; (first | refine hX _ _ ?_ | refine hX ?_ | refine hY ?_); (try clear hX X); try clear hY Y)
      | (refine RunD_nil ?_; refine hK _ _ ?_; clear hK K)
      | (refine RunD_nil ?_)
      | (refine WD_skip ?_)
      | (refine WD_exit ?_)
      | (refine WD_ret ?_)
      | (refine hK.1 _ _ ?_; clear hK K)
      | (refine hK.2.1 _ _ ?_; clear hK K)
      | (refine hK.2 _ _ _ ?hne ?_; (case hne => simp; done); clear hK K)
      | (refine hK.2.2 _ _ _ ?hne ?_; (case hne => simp; done); clear hK K))
    obtain ⟨_, h1, hc1, o, p, q, b1, rfl, ha1, hopq, hgo, hgp, hgq, hb1⟩ := newAsker_ok h0 (.agg #[.int .i64 (n : Int), b]) n (toN xs) (.mk hX1)
    refine RunD_c rfl rfl rfl rfl (by simp) (by simp) ?ha (hc1) ?_
    (case ha => simp (disch := first | omega | (simp; done) | fail) [wrap64c, if_pos, if_neg, opAnd, opOr, opXor, opDiff, opShr, opBit, g_h0, c1, hNt, hat])
    repeat (first
      | (refine WD_block (fun K hK => ?_))
      | (refine WD_seq (fun K hK => ?_))
      | (refine WD_region (fun K hK => ?_))
      | ((first | refine RunD_o rfl rfl rfl rfl rfl (fun X hX => ?_) | refine RunD_s rfl rfl rfl rfl (fun X hX => ?_) | refine WD_c rfl (fun X Y hX hY => ?_)); (try dsimp only); simp (disch := first | omega | (simp; done) | fail) [wrap64c, if_pos, if_neg, opAnd, opOr, opXor, opDiff, opShr, opBit, g_h0, c1, hNt, hat]; (first | refine hX _ _ ?_ | refine hX ?_ | refine hY ?_); (try clear hX X); try clear hY Y)
      | (refine RunD_nil ?_; refine hK _ _ ?_; clear hK K)
      | (refine RunD_nil ?_)
      | (refine WD_skip ?_)
      | (refine WD_exit ?_)
      | (refine WD_ret ?_)
      | (refine hK.1 _ _ ?_; clear hK K)
      | (refine hK.2.1 _ _ ?_; clear hK K)
      | (refine hK.2 _ _ _ ?hne ?_; (case hne => simp; done); clear hK K)
      | (refine hK.2.2 _ _ _ ?hne ?_; (case hne => simp; done); clear hK K))
    have hA : AskOK h1.next o p n b1 (.map (some q)) xs h1 := ⟨by omega, by omega, by omega, hgo, hb1.sub fun x hx => by omega, [], hgp, fun e he => by cases he⟩
    obtain ⟨u, h2, hc2, W2, A2, hi2⟩ := runBest_ok h1.next o p n b1 (.map (some q)) xs g.lt7 (by omega) h1 hA (Nat.le_refl _) x (g.lt7 _ hx)
    refine RunD_c rfl rfl rfl rfl (by simp) (by simp) ?ha (hc2) ?_
    (case ha => simp (disch := first | omega | (simp; done) | fail) [wrap64c, if_pos, if_neg, opAnd, opOr, opXor, opDiff, opShr, opBit, g_h0, c1, hNt, hat])
    repeat (first
      | (refine WD_block (fun K hK => ?_))
      | (refine WD_seq (fun K hK => ?_))
      | (refine WD_region (fun K hK => ?_))
      | ((first | refine RunD_o rfl rfl rfl rfl rfl (fun X hX => ?_) | refine RunD_s rfl rfl rfl rfl (fun X hX => ?_) | refine WD_c rfl (fun X Y hX hY => ?_)); (try dsimp only); simp (disch := first | omega | (simp; done) | fail) [wrap64c, if_pos, if_neg, opAnd, opOr, opXor, opDiff, opShr, opBit, g_h0, c1, hNt, hat]; (first | refine hX _ _ ?_ | refine hX ?_ | refine hY ?_); (try clear hX X); try clear hY Y)
      | (refine RunD_nil ?_; refine hK _ _ ?_; clear hK K)
      | (refine RunD_nil ?_)
      | (refine WD_skip ?_)
      | (refine WD_exit ?_)
      | (refine WD_ret ?_)
      | (refine hK.1 _ _ ?_; clear hK K)
      | (refine hK.2.1 _ _ ?_; clear hK K)
      | (refine hK.2 _ _ _ ?hne ?_; (case hne => simp; done); clear hK K)
      | (refine hK.2.2 _ _ _ ?hne ?_; (case hne => simp; done); clear hK K))
    have AA : Adds h0 h2 := ha1.wr W2 fun o ho => by omega
    refine done_ret rfl ⟨k_h0.trans AA, _, by simp [c1]; rfl, ?_⟩
    rw [askR, if_pos c1, hXe, hae, natsOf_toN, toN_length, Int.toNat_natCast]
    exact hi2.sub fun o ho => ⟨by have := ho.1; have := ha1.1.1; omega, ho.2⟩

/-! The first set with the longest run. -/
def runLen (xs : List Nat) (x : Nat) : Nat := (runF bestN x xs.length xs).length
def wsS (xs l : List Nat) : Nat × Int := l.foldl (fun s x => if (runLen xs x : Int) > s.2 then (x, (runLen xs x : Int)) else s) (0, -1)
theorem wsS_take {xs : List Nat} {j : Nat} (hj : j < xs.length) : wsS xs (xs.take (j + 1)) = if (runLen xs xs[j] : Int) > (wsS xs (xs.take j)).2 then (xs[j], (runLen xs xs[j] : Int)) else wsS xs (xs.take j) := by
  rw [List.take_succ_eq_append_getElem hj, wsS, List.foldl_append]; rfl
noncomputable def worstR (N : Int) (X : List Int) : Int := if spB N X = true then (((wsS (natsOf X) (natsOf X)).1 : Nat) : Int) else 0

theorem implWorst_ok (h : Hp) (v : Value) (N : Int) (X : List Int) (hv : Space h v N X) (hl : X.length < 2 ^ 40) :
    CallOK Try.prog 47 #[v] h (.tuple #[.int .i64 (worstR N X), .bool (spB N X)]) h := by
  refine call_P 34 _ [.tmp 2, .tmp 3] Try.func47 rfl rfl rfl (by first | rfl | simp) ?_
  obtain ⟨b, rfl, hX⟩ := hv
  repeat (first
    | (refine WD_block (fun K hK => ?_))
    | (refine WD_seq (fun K hK => ?_)))
  refine WD_region (fun K hK => ?_)
  repeat (first
    | ((first | refine RunD_o rfl rfl rfl rfl rfl (fun X hX => ?_) | refine RunD_s rfl rfl rfl rfl (fun X hX => ?_) | refine WD_c rfl (fun X Y hX hY => ?_)); (try dsimp only); simp (disch := first | omega | (simp; done) | fail) [wrap64c, if_pos, if_neg, opAnd, opOr, opXor, opDiff, opShr, opBit]; (first | refine hX _ _ ?_ | refine hX ?_ | refine hY ?_); (try clear hX X); try clear hY Y))
  refine RunD_heap fun h0 q_h0 => ?_
  have g_h0 : h0.get h.next = .cells [.int .i64 N, b] true true 1 := by simp [q_h0]
  have k_h0 : Adds h h0 := by rw [q_h0]; exact (by repeat (first | exact keep_self _ | exact adds_self _ | assumption | exact Adds.keeps (by assumption) | refine keeps_alloc ?_ _ | refine adds_alloc ?_ _ _ _ | refine adds_allocM ?_ _ | (refine keeps_put ?_ ?hle _; (case hle => first | omega | (simp; done) | (simp; omega))) | (refine adds_put ?_ ?hle _ _ _; (case hle => first | omega | (simp; done) | (simp; omega)))))
  have n_h0 : h.next < h0.next := by simp [q_h0]; try omega
  have hX0 := hX.keep k_h0.1
  have K0 := k_h0.1
  repeat (first
    | (refine WD_block (fun K hK => ?_))
    | (refine WD_seq (fun K hK => ?_))
    | (refine WD_region (fun K hK => ?_))
    | ((first | refine RunD_o rfl rfl rfl rfl rfl (fun X hX => ?_) | refine RunD_s rfl rfl rfl rfl (fun X hX => ?_) | refine WD_c rfl (fun X Y hX hY => ?_)); (try dsimp only); simp (disch := first | omega | (simp; done) | fail) [wrap64c, if_pos, if_neg, opAnd, opOr, opXor, opDiff, opShr, opBit, g_h0]; (first | refine hX _ _ ?_ | refine hX ?_ | refine hY ?_); (try clear hX X); try clear hY Y)
    | (refine RunD_nil ?_; refine hK _ _ ?_; clear hK K)
    | (refine RunD_nil ?_)
    | (refine WD_skip ?_)
    | (refine WD_exit ?_)
    | (refine WD_ret ?_)
    | (refine hK.1 _ _ ?_; clear hK K)
    | (refine hK.2.1 _ _ ?_; clear hK K)
    | (refine hK.2 _ _ _ ?hne ?_; (case hne => simp; done); clear hK K)
    | (refine hK.2.2 _ _ _ ?hne ?_; (case hne => simp; done); clear hK K))
  refine RunD_c rfl rfl rfl rfl (by simp) (by simp) ?ha (isSpace_ok h0 (.agg #[.int .i64 N, b]) N X (.mk hX0) hl) ?_
  (case ha => simp (disch := first | omega | (simp; done) | fail) [wrap64c, if_pos, if_neg, opAnd, opOr, opXor, opDiff, opShr, opBit, g_h0])
  cases c1 : spB N X
  · repeat (first
      | (refine WD_block (fun K hK => ?_))
      | (refine WD_seq (fun K hK => ?_))
      | (refine WD_region (fun K hK => ?_))
      | ((first | refine RunD_o rfl rfl rfl rfl rfl (fun X hX => ?_) | refine RunD_s rfl rfl rfl rfl (fun X hX => ?_) | refine WD_c rfl (fun X Y hX hY => ?_)); (try dsimp only); simp (disch := first | omega | (simp; done) | fail) [wrap64c, if_pos, if_neg, opAnd, opOr, opXor, opDiff, opShr, opBit, g_h0, c1]; (first | refine hX _ _ ?_ | refine hX ?_ | refine hY ?_); (try clear hX X); try clear hY Y)
      | (refine RunD_nil ?_; refine hK _ _ ?_; clear hK K)
      | (refine RunD_nil ?_)
      | (refine WD_skip ?_)
      | (refine WD_exit ?_)
      | (refine WD_ret ?_)
      | (refine hK.1 _ _ ?_; clear hK K)
      | (refine hK.2.1 _ _ ?_; clear hK K)
      | (refine hK.2 _ _ _ ?hne ?_; (case hne => simp; done); clear hK K)
      | (refine hK.2.2 _ _ _ ?hne ?_; (case hne => simp; done); clear hK K))
    exact done_ret rfl (by simp [worstR, c1, K0])
  · obtain ⟨n, xs, hN, hXe, g⟩ := spB_true c1
    have hNt : N = (n : Int) := hN
    have hX1 : Ints h0 b (toN xs) := hXe ▸ hX0
    have hl7 := g.len7
    have hgt := toN_get xs
    have hln := toN_length xs
    have hM0 := hX1.lenD
    repeat (first
      | (refine WD_block (fun K hK => ?_))
      | (refine WD_seq (fun K hK => ?_))
      | (refine WD_region (fun K hK => ?_))
      | ((first | refine RunD_o rfl rfl rfl rfl rfl (fun X hX => ?_) | refine RunD_s rfl rfl rfl rfl (fun X hX => ?_) | refine WD_c rfl (fun X Y hX hY => ?_)); (try dsimp only); simp (disch := first | omega | (simp; done) | fail) [wrap64c, if_pos, if_neg, opAnd, opOr, opXor, opDiff, opShr, opBit, g_h0, c1, hNt, hgt, hM0]; (first | refine hX _ _ ?_ | refine hX ?_ | refine hY ?_); (try clear hX X); try clear hY Y)
      | (refine RunD_nil ?_; refine hK _ _ ?_; clear hK K)
      | (refine RunD_nil ?_)
      | (refine WD_skip ?_)
      | (refine WD_exit ?_)
      | (refine WD_ret ?_)
      | (refine hK.1 _ _ ?_; clear hK K)
      | (refine hK.2.1 _ _ ?_; clear hK K)
      | (refine hK.2 _ _ _ ?hne ?_; (case hne => simp; done); clear hK K)
      | (refine hK.2.2 _ _ _ ?hne ?_; (case hne => simp; done); clear hK K))
    obtain ⟨_, h1, hc1, o, p, q, b1, rfl, ha1, hopq, hgo, hgp, hgq, hb1⟩ := newAsker_ok h0 (.agg #[.int .i64 (n : Int), b]) n (toN xs) (.mk hX1)
    refine RunD_c rfl rfl rfl rfl (by simp) (by simp) ?ha (hc1) ?_
    (case ha => simp (disch := first | omega | (simp; done) | fail) [wrap64c, if_pos, if_neg, opAnd, opOr, opXor, opDiff, opShr, opBit, g_h0, c1, hNt, hgt, hM0])
    have g1 : h1.get h.next = .cells [.int .i64 N, b] true true 1 := by rw [ha1.1.2 _ (by omega)]; exact g_h0
    have hA : AskOK h1.next o p n b1 (.map (some q)) xs h1 := ⟨by omega, by omega, by omega, hgo, hb1.sub fun x hx => by omega, [], hgp, fun e he => by cases he⟩
    have hF1 : IntsF (fun x => x < h0.next) h1 b (toN xs) := hX1.old.keep ha1.1
    have hn1 := ha1.1.1
    repeat (first
      | (refine WD_block (fun K hK => ?_))
      | (refine WD_seq (fun K hK => ?_))
      | (refine WD_region (fun K hK => ?_))
      | ((first | refine RunD_o rfl rfl rfl rfl rfl (fun X hX => ?_) | refine RunD_s rfl rfl rfl rfl (fun X hX => ?_) | refine WD_c rfl (fun X Y hX hY => ?_)); (try dsimp only); simp (disch := first | omega | (simp; done) | fail) [wrap64c, if_pos, if_neg, opAnd, opOr, opXor, opDiff, opShr, opBit, g_h0, c1, hNt, hgt, hM0, g1]; (first | refine hX _ _ ?_ | refine hX ?_ | refine hY ?_); (try clear hX X); try clear hY Y)
      | (refine RunD_nil ?_; refine hK _ _ ?_; clear hK K)
      | (refine RunD_nil ?_)
      | (refine WD_skip ?_)
      | (refine WD_exit ?_)
      | (refine WD_ret ?_)
      | (refine hK.1 _ _ ?_; clear hK K)
      | (refine hK.2.1 _ _ ?_; clear hK K)
      | (refine hK.2 _ _ _ ?hne ?_; (case hne => simp; done); clear hK K)
      | (refine hK.2.2 _ _ _ ?hne ?_; (case hne => simp; done); clear hK K))
    refine WD_loopF [4, 16, 17] (fun m tm h' => ∃ j, m = xs.length - j ∧ tm 5 = .int .i64 (((wsS xs (xs.take j)).1 : Nat) : Int) ∧ tm 6 = .int .i64 (wsS xs (xs.take j)).2 ∧ tm 18 = .int .i64 (j : Int) ∧ (j ≤ xs.length) ∧ (Wr (fun q => q = p) h1 h') ∧ (AskOK h1.next o p n b1 (.map (some q)) xs h')) _ ⟨0, rfl, (by simp [wsS]), (by simp [wsS]), (by simp (disch := first | omega | (simp; done) | fail) [wrap64c, if_pos, if_neg, opAnd, opOr, opXor, opDiff, opShr, opBit, g_h0, c1, hNt, hgt, hM0, g1]), (by first | omega | assumption | (simp (disch := first | omega | (simp; done) | fail) [wrap64c, if_pos, if_neg, opAnd, opOr, opXor, opDiff, opShr, opBit, g_h0, c1, hNt, hgt, hM0, g1] <;> omega)), (Wr.refl _ _), hA⟩ ?_
    rintro m tm h' hFr ⟨j, rfl, e5, e6, e18, hj, hW, hAA⟩ K hK
    simp only [FrameL] at hFr
    obtain ⟨f4_0, f16_0, f17_0, -⟩ := hFr
    try simp (disch := first | omega | (simp; done) | fail) [wrap64c, if_pos, if_neg, opAnd, opOr, opXor, opDiff, opShr, opBit, g_h0, c1, hNt, hgt, hM0, g1] at f4_0 f16_0 f17_0
    have e4 := f4_0
    have e16 := f16_0
    have e17 := f17_0
    have hn2 := hW.upd.1
    have hF := (hF1.same (hW.upd.same fun x hx hx' => by omega)).ints
    by_cases hlt : j < xs.length
    · obtain ⟨o_x, i_x, c_x, cs_x, own_x, ex_x, es_x, q_x, b_x, g_x, l_x, r_x⟩ := hF.open ((by omega))
      have z_x : ∀ h2 : i_x < cs_x.length, cs_x[i_x] = _ := fun h2 => r_x 0 ((by omega)) h2
      have hx7 := g.lt7 _ (List.getElem_mem hlt)
      have hst := wsS_take hlt
      obtain ⟨s2, hs2⟩ : ∃ s2, s2 = (wsS xs (xs.take j)).2 := ⟨_, rfl⟩
      rw [← hs2] at hst e6
      repeat (first
        | (refine WD_block (fun K hK => ?_))
        | (refine WD_seq (fun K hK => ?_))
        | (refine WD_region (fun K hK => ?_))
        | ((first | refine RunD_o rfl rfl rfl rfl rfl (fun X hX => ?_) | refine RunD_s rfl rfl rfl rfl (fun X hX => ?_) | refine WD_c rfl (fun X Y hX hY => ?_)); (try dsimp only); simp (disch := first | omega | (simp; done) | fail) [wrap64c, if_pos, if_neg, opAnd, opOr, opXor, opDiff, opShr, opBit, g_h0, c1, hNt, hgt, hM0, g1, e4, e5, e6, e16, e17, e18, hlt, q_x, g_x, l_x, r_x, z_x]; (first | refine hX _ _ ?_ | refine hX ?_ | refine hY ?_); (try clear hX X); try clear hY Y)
        | (refine RunD_nil ?_; refine hK _ _ ?_; clear hK K)
        | (refine RunD_nil ?_)
        | (refine WD_skip ?_)
        | (refine WD_exit ?_)
        | (refine WD_ret ?_)
        | (refine hK.1 _ _ ?_; clear hK K)
        | (refine hK.2.1 _ _ ?_; clear hK K)
        | (refine hK.2 _ _ _ ?hne ?_; (case hne => simp; done); clear hK K)
        | (refine hK.2.2 _ _ _ ?hne ?_; (case hne => simp; done); clear hK K))
      obtain ⟨u, h2, hc2, W2, A2, hi2⟩ := runBest_ok h1.next o p n b1 (.map (some q)) xs g.lt7 (by omega) h' hAA (by omega) xs[j] hx7
      refine RunD_c rfl rfl rfl rfl (by simp) (by simp) ?ha (hc2) ?_
      (case ha => simp (disch := first | omega | (simp; done) | fail) [wrap64c, if_pos, if_neg, opAnd, opOr, opXor, opDiff, opShr, opBit, g_h0, c1, hNt, hgt, hM0, g1, e4, e5, e6, e16, e17, e18, hlt, q_x, g_x, l_x, r_x, z_x])
      have hMu := hi2.ints.lenD
      have hru : (toN (runF bestN xs[j] xs.length xs)).length = runLen xs xs[j] := by rw [toN_length]; rfl
      by_cases hc : (runLen xs xs[j] : Int) > s2
      · rw [if_pos hc] at hst
        have hc' : s2 < (runLen xs xs[j] : Int) := hc
        repeat (first
          | (refine WD_block (fun K hK => ?_))
          | (refine WD_seq (fun K hK => ?_))
          | (refine WD_region (fun K hK => ?_))
          | ((first | refine RunD_o rfl rfl rfl rfl rfl (fun X hX => ?_) | refine RunD_s rfl rfl rfl rfl (fun X hX => ?_) | refine WD_c rfl (fun X Y hX hY => ?_)); (try dsimp only); simp (disch := first | omega | (simp; done) | fail) [wrap64c, if_pos, if_neg, opAnd, opOr, opXor, opDiff, opShr, opBit, g_h0, c1, hNt, hgt, hM0, g1, e4, e5, e6, e16, e17, e18, hlt, q_x, g_x, l_x, r_x, z_x, hMu, hru, hc']; (first | refine hX _ _ ?_ | refine hX ?_ | refine hY ?_); (try clear hX X); try clear hY Y)
          | (refine RunD_nil ?_; refine hK _ _ ?_; clear hK K)
          | (refine RunD_nil ?_)
          | (refine WD_skip ?_)
          | (refine WD_exit ?_)
          | (refine WD_ret ?_)
          | (refine hK.1 _ _ ?_; clear hK K)
          | (refine hK.2.1 _ _ ?_; clear hK K)
          | (refine hK.2 _ _ _ ?hne ?_; (case hne => simp; done); clear hK K)
          | (refine hK.2.2 _ _ _ ?hne ?_; (case hne => simp; done); clear hK K))
        refine hK.1 _ _ _ ?hm ?hf ⟨j + 1, rfl, (by simp [hst]), (by simp [hst]), (by simp (disch := first | omega | (simp; done) | fail) [wrap64c, if_pos, if_neg, opAnd, opOr, opXor, opDiff, opShr, opBit, g_h0, c1, hNt, hgt, hM0, g1, e4, e5, e6, e16, e17, e18, hlt, q_x, g_x, l_x, r_x, z_x, hMu, hru, hc'] <;> omega), (by first | omega | assumption | (simp (disch := first | omega | (simp; done) | fail) [wrap64c, if_pos, if_neg, opAnd, opOr, opXor, opDiff, opShr, opBit, g_h0, c1, hNt, hgt, hM0, g1, e4, e5, e6, e16, e17, e18, hlt, q_x, g_x, l_x, r_x, z_x, hMu, hru, hc'] <;> omega)), (hW.trans W2), A2⟩
        (case hm => first | omega | (simp; omega))
        (case hf => simp [FrameL, g_h0, c1, hNt, hgt, hM0, g1, e4, e5, e6, e16, e17, e18, hlt, q_x, g_x, l_x, r_x, z_x, hMu, hru, hc', f4_0, f16_0, f17_0])
      · rw [if_neg hc] at hst
        have hc' : ¬ s2 < (runLen xs xs[j] : Int) := hc
        repeat (first
          | (refine WD_block (fun K hK => ?_))
          | (refine WD_seq (fun K hK => ?_))
          | (refine WD_region (fun K hK => ?_))
          | ((first | refine RunD_o rfl rfl rfl rfl rfl (fun X hX => ?_) | refine RunD_s rfl rfl rfl rfl (fun X hX => ?_) | refine WD_c rfl (fun X Y hX hY => ?_)); (try dsimp only); simp (disch := first | omega | (simp; done) | fail) [wrap64c, if_pos, if_neg, opAnd, opOr, opXor, opDiff, opShr, opBit, g_h0, c1, hNt, hgt, hM0, g1, e4, e5, e6, e16, e17, e18, hlt, q_x, g_x, l_x, r_x, z_x, hMu, hru, hc']; (first | refine hX _ _ ?_ | refine hX ?_ | refine hY ?_); (try clear hX X); try clear hY Y)
          | (refine RunD_nil ?_; refine hK _ _ ?_; clear hK K)
          | (refine RunD_nil ?_)
          | (refine WD_skip ?_)
          | (refine WD_exit ?_)
          | (refine WD_ret ?_)
          | (refine hK.1 _ _ ?_; clear hK K)
          | (refine hK.2.1 _ _ ?_; clear hK K)
          | (refine hK.2 _ _ _ ?hne ?_; (case hne => simp; done); clear hK K)
          | (refine hK.2.2 _ _ _ ?hne ?_; (case hne => simp; done); clear hK K))
        refine hK.1 _ _ _ ?hm ?hf ⟨j + 1, rfl, (by simp [hst, e5]), (by simp [hst, e6, hs2]), (by simp (disch := first | omega | (simp; done) | fail) [wrap64c, if_pos, if_neg, opAnd, opOr, opXor, opDiff, opShr, opBit, g_h0, c1, hNt, hgt, hM0, g1, e4, e5, e6, e16, e17, e18, hlt, q_x, g_x, l_x, r_x, z_x, hMu, hru, hc'] <;> omega), (by first | omega | assumption | (simp (disch := first | omega | (simp; done) | fail) [wrap64c, if_pos, if_neg, opAnd, opOr, opXor, opDiff, opShr, opBit, g_h0, c1, hNt, hgt, hM0, g1, e4, e5, e6, e16, e17, e18, hlt, q_x, g_x, l_x, r_x, z_x, hMu, hru, hc'] <;> omega)), (hW.trans W2), A2⟩
        (case hm => first | omega | (simp; omega))
        (case hf => simp [FrameL, g_h0, c1, hNt, hgt, hM0, g1, e4, e5, e6, e16, e17, e18, hlt, q_x, g_x, l_x, r_x, z_x, hMu, hru, hc', f4_0, f16_0, f17_0])
    · have hft : xs.take j = xs := List.take_of_length_le (by omega)
      repeat (first
        | (refine WD_block (fun K hK => ?_))
        | (refine WD_seq (fun K hK => ?_))
        | (refine WD_region (fun K hK => ?_))
        | ((first | refine RunD_o rfl rfl rfl rfl rfl (fun X hX => ?_) | refine RunD_s rfl rfl rfl rfl (fun X hX => ?_) | refine WD_c rfl (fun X Y hX hY => ?_)); (try dsimp only); simp (disch := first | omega | (simp; done) | fail) [wrap64c, if_pos, if_neg, opAnd, opOr, opXor, opDiff, opShr, opBit, g_h0, c1, hNt, hgt, hM0, g1, e4, e5, e6, e16, e17, e18, hlt]; (first | refine hX _ _ ?_ | refine hX ?_ | refine hY ?_); (try clear hX X); try clear hY Y)
        | (refine RunD_nil ?_; refine hK _ _ ?_; clear hK K)
        | (refine RunD_nil ?_)
        | (refine WD_skip ?_)
        | (refine WD_exit ?_)
        | (refine WD_ret ?_)
        | (refine hK.1 _ _ ?_; clear hK K)
        | (refine hK.2.1 _ _ ?_; clear hK K)
        | (refine hK.2 _ _ _ ?hne ?_; (case hne => simp; done); clear hK K)
        | (refine hK.2.2 _ _ _ ?hne ?_; (case hne => simp; done); clear hK K))
      have AA : Adds h0 h' := ha1.wr hW fun o ho => by omega
      have c1' : spB N (toN xs) = true := hXe ▸ c1
      exact done_ret rfl ⟨by simp [worstR, c1', hXe, hft], K0.trans AA.1⟩

theorem specWorst_ok (h : Hp) (v : Value) (N : Int) (X : List Int) (hv : Space h v N X) (hl : X.length < 2 ^ 40) :
    CallOK Try.prog 46 #[v] h (.tuple #[.int .i64 (worstR N X), .bool (spB N X)]) h := by
  refine call_P 34 _ [.tmp 2, .tmp 3] Try.func46 rfl rfl rfl (by first | rfl | simp) ?_
  obtain ⟨b, rfl, hX⟩ := hv
  repeat (first
    | (refine WD_block (fun K hK => ?_))
    | (refine WD_seq (fun K hK => ?_)))
  refine WD_region (fun K hK => ?_)
  repeat (first
    | ((first | refine RunD_o rfl rfl rfl rfl rfl (fun X hX => ?_) | refine RunD_s rfl rfl rfl rfl (fun X hX => ?_) | refine WD_c rfl (fun X Y hX hY => ?_)); (try dsimp only); simp (disch := first | omega | (simp; done) | fail) [wrap64c, if_pos, if_neg, opAnd, opOr, opXor, opDiff, opShr, opBit]; (first | refine hX _ _ ?_ | refine hX ?_ | refine hY ?_); (try clear hX X); try clear hY Y))
  refine RunD_heap fun h0 q_h0 => ?_
  have g_h0 : h0.get h.next = .cells [.int .i64 N, b] true true 1 := by simp [q_h0]
  have k_h0 : Adds h h0 := by rw [q_h0]; exact (by repeat (first | exact keep_self _ | exact adds_self _ | assumption | exact Adds.keeps (by assumption) | refine keeps_alloc ?_ _ | refine adds_alloc ?_ _ _ _ | refine adds_allocM ?_ _ | (refine keeps_put ?_ ?hle _; (case hle => first | omega | (simp; done) | (simp; omega))) | (refine adds_put ?_ ?hle _ _ _; (case hle => first | omega | (simp; done) | (simp; omega)))))
  have n_h0 : h.next < h0.next := by simp [q_h0]; try omega
  have hX0 := hX.keep k_h0.1
  have K0 := k_h0.1
  repeat (first
    | (refine WD_block (fun K hK => ?_))
    | (refine WD_seq (fun K hK => ?_))
    | (refine WD_region (fun K hK => ?_))
    | ((first | refine RunD_o rfl rfl rfl rfl rfl (fun X hX => ?_) | refine RunD_s rfl rfl rfl rfl (fun X hX => ?_) | refine WD_c rfl (fun X Y hX hY => ?_)); (try dsimp only); simp (disch := first | omega | (simp; done) | fail) [wrap64c, if_pos, if_neg, opAnd, opOr, opXor, opDiff, opShr, opBit, g_h0]; (first | refine hX _ _ ?_ | refine hX ?_ | refine hY ?_); (try clear hX X); try clear hY Y)
    | (refine RunD_nil ?_; refine hK _ _ ?_; clear hK K)
    | (refine RunD_nil ?_)
    | (refine WD_skip ?_)
    | (refine WD_exit ?_)
    | (refine WD_ret ?_)
    | (refine hK.1 _ _ ?_; clear hK K)
    | (refine hK.2.1 _ _ ?_; clear hK K)
    | (refine hK.2 _ _ _ ?hne ?_; (case hne => simp; done); clear hK K)
    | (refine hK.2.2 _ _ _ ?hne ?_; (case hne => simp; done); clear hK K))
  refine RunD_c rfl rfl rfl rfl (by simp) (by simp) ?ha (spGood_ok h0 (.agg #[.int .i64 N, b]) N X (.mk hX0) hl) ?_
  (case ha => simp (disch := first | omega | (simp; done) | fail) [wrap64c, if_pos, if_neg, opAnd, opOr, opXor, opDiff, opShr, opBit, g_h0])
  cases c1 : spB N X
  · repeat (first
      | (refine WD_block (fun K hK => ?_))
      | (refine WD_seq (fun K hK => ?_))
      | (refine WD_region (fun K hK => ?_))
      | ((first | refine RunD_o rfl rfl rfl rfl rfl (fun X hX => ?_) | refine RunD_s rfl rfl rfl rfl (fun X hX => ?_) | refine WD_c rfl (fun X Y hX hY => ?_)); (try dsimp only); simp (disch := first | omega | (simp; done) | fail) [wrap64c, if_pos, if_neg, opAnd, opOr, opXor, opDiff, opShr, opBit, g_h0, c1]; (first | refine hX _ _ ?_ | refine hX ?_ | refine hY ?_); (try clear hX X); try clear hY Y)
      | (refine RunD_nil ?_; refine hK _ _ ?_; clear hK K)
      | (refine RunD_nil ?_)
      | (refine WD_skip ?_)
      | (refine WD_exit ?_)
      | (refine WD_ret ?_)
      | (refine hK.1 _ _ ?_; clear hK K)
      | (refine hK.2.1 _ _ ?_; clear hK K)
      | (refine hK.2 _ _ _ ?hne ?_; (case hne => simp; done); clear hK K)
      | (refine hK.2.2 _ _ _ ?hne ?_; (case hne => simp; done); clear hK K))
    exact done_ret rfl (by simp [worstR, c1, K0])
  · obtain ⟨n, xs, hN, hXe, g⟩ := spB_true c1
    have hNt : N = (n : Int) := hN
    have hX1 : Ints h0 b (toN xs) := hXe ▸ hX0
    have hl7 := g.len7
    have hgt := toN_get xs
    have hln := toN_length xs
    have hM0 := hX1.lenD
    repeat (first
      | (refine WD_block (fun K hK => ?_))
      | (refine WD_seq (fun K hK => ?_))
      | (refine WD_region (fun K hK => ?_))
      | ((first | refine RunD_o rfl rfl rfl rfl rfl (fun X hX => ?_) | refine RunD_s rfl rfl rfl rfl (fun X hX => ?_) | refine WD_c rfl (fun X Y hX hY => ?_)); (try dsimp only); simp (disch := first | omega | (simp; done) | fail) [wrap64c, if_pos, if_neg, opAnd, opOr, opXor, opDiff, opShr, opBit, g_h0, c1, hNt, hgt, hM0]; (first | refine hX _ _ ?_ | refine hX ?_ | refine hY ?_); (try clear hX X); try clear hY Y)
      | (refine RunD_nil ?_; refine hK _ _ ?_; clear hK K)
      | (refine RunD_nil ?_)
      | (refine WD_skip ?_)
      | (refine WD_exit ?_)
      | (refine WD_ret ?_)
      | (refine hK.1 _ _ ?_; clear hK K)
      | (refine hK.2.1 _ _ ?_; clear hK K)
      | (refine hK.2 _ _ _ ?hne ?_; (case hne => simp; done); clear hK K)
      | (refine hK.2.2 _ _ _ ?hne ?_; (case hne => simp; done); clear hK K))
    obtain ⟨_, h1, hc1, ot, o1, o2, b1, rfl, ha1, hlo, hT⟩ := asNew_ok h0 (.agg #[.int .i64 (n : Int), b]) n xs (.mk hX1) g.n7
    refine RunD_c rfl rfl rfl rfl (by simp) (by simp) ?ha (hc1) ?_
    (case ha => simp (disch := first | omega | (simp; done) | fail) [wrap64c, if_pos, if_neg, opAnd, opOr, opXor, opDiff, opShr, opBit, g_h0, c1, hNt, hgt, hM0])
    have g1 : h1.get h.next = .cells [.int .i64 N, b] true true 1 := by rw [ha1.1.2 _ (by omega)]; exact g_h0
    have hF1 : IntsF (fun x => x < h0.next) h1 b (toN xs) := hX1.old.keep ha1.1
    have hn1 := ha1.1.1
    repeat (first
      | (refine WD_block (fun K hK => ?_))
      | (refine WD_seq (fun K hK => ?_))
      | (refine WD_region (fun K hK => ?_))
      | ((first | refine RunD_o rfl rfl rfl rfl rfl (fun X hX => ?_) | refine RunD_s rfl rfl rfl rfl (fun X hX => ?_) | refine WD_c rfl (fun X Y hX hY => ?_)); (try dsimp only); simp (disch := first | omega | (simp; done) | fail) [wrap64c, if_pos, if_neg, opAnd, opOr, opXor, opDiff, opShr, opBit, g_h0, c1, hNt, hgt, hM0, g1]; (first | refine hX _ _ ?_ | refine hX ?_ | refine hY ?_); (try clear hX X); try clear hY Y)
      | (refine RunD_nil ?_; refine hK _ _ ?_; clear hK K)
      | (refine RunD_nil ?_)
      | (refine WD_skip ?_)
      | (refine WD_exit ?_)
      | (refine WD_ret ?_)
      | (refine hK.1 _ _ ?_; clear hK K)
      | (refine hK.2.1 _ _ ?_; clear hK K)
      | (refine hK.2 _ _ _ ?hne ?_; (case hne => simp; done); clear hK K)
      | (refine hK.2.2 _ _ _ ?hne ?_; (case hne => simp; done); clear hK K))
    refine WD_loopF [1, 4, 16, 17] (fun m tm h' => ∃ j, m = xs.length - j ∧ tm 5 = .int .i64 (((wsS xs (xs.take j)).1 : Nat) : Int) ∧ tm 6 = .int .i64 (wsS xs (xs.take j)).2 ∧ tm 18 = .int .i64 (j : Int) ∧ (j ≤ xs.length) ∧ (Wr (fun q => q = o1 ∨ q = o2) h1 h') ∧ (TabOK h1.next ot o1 o2 n (2 * n) b1 xs h')) _ ⟨0, rfl, (by simp [wsS]), (by simp [wsS]), (by simp (disch := first | omega | (simp; done) | fail) [wrap64c, if_pos, if_neg, opAnd, opOr, opXor, opDiff, opShr, opBit, g_h0, c1, hNt, hgt, hM0, g1]), (by first | omega | assumption | (simp (disch := first | omega | (simp; done) | fail) [wrap64c, if_pos, if_neg, opAnd, opOr, opXor, opDiff, opShr, opBit, g_h0, c1, hNt, hgt, hM0, g1] <;> omega)), (Wr.refl _ _), hT⟩ ?_
    rintro m tm h' hFr ⟨j, rfl, e5, e6, e18, hj, hW, hTT⟩ K hK
    simp only [FrameL] at hFr
    obtain ⟨f1_0, f4_0, f16_0, f17_0, -⟩ := hFr
    try simp (disch := first | omega | (simp; done) | fail) [wrap64c, if_pos, if_neg, opAnd, opOr, opXor, opDiff, opShr, opBit, g_h0, c1, hNt, hgt, hM0, g1] at f1_0 f4_0 f16_0 f17_0
    have e1 := f1_0
    have e4 := f4_0
    have e16 := f16_0
    have e17 := f17_0
    have hn2 := hW.upd.1
    have hF2 := hF1.same (hW.upd.same fun x hx hx' => by rcases hx' with rfl | rfl <;> omega)
    have hF := hF2.ints
    have g2 : h'.get h.next = .cells [.int .i64 N, b] true true 1 := by rw [hW.upd.2 _ (by omega) (by omega)]; exact g1
    by_cases hlt : j < xs.length
    · obtain ⟨o_x, i_x, c_x, cs_x, own_x, ex_x, es_x, q_x, b_x, g_x, l_x, r_x⟩ := hF.open ((by omega))
      have z_x : ∀ h2 : i_x < cs_x.length, cs_x[i_x] = _ := fun h2 => r_x 0 ((by omega)) h2
      have hx7 := g.lt7 _ (List.getElem_mem hlt)
      have hst := wsS_take hlt
      obtain ⟨s2, hs2⟩ : ∃ s2, s2 = (wsS xs (xs.take j)).2 := ⟨_, rfl⟩
      rw [← hs2] at hst e6
      have hF3 : IntsF (fun x => x < h'.next ∧ x ≠ o1 ∧ x ≠ o2) h' b (toN xs) := hF2.sub fun q hq => by omega
      repeat (first
        | (refine WD_block (fun K hK => ?_))
        | (refine WD_seq (fun K hK => ?_))
        | (refine WD_region (fun K hK => ?_))
        | ((first | refine RunD_o rfl rfl rfl rfl rfl (fun X hX => ?_) | refine RunD_s rfl rfl rfl rfl (fun X hX => ?_) | refine WD_c rfl (fun X Y hX hY => ?_)); (try dsimp only); simp (disch := first | omega | (simp; done) | fail) [wrap64c, if_pos, if_neg, opAnd, opOr, opXor, opDiff, opShr, opBit, g_h0, c1, hNt, hgt, hM0, g1, e1, e4, e5, e6, e16, e17, e18, g2, hlt, q_x, g_x, l_x, r_x, z_x]; (first | refine hX _ _ ?_ | refine hX ?_ | refine hY ?_); (try clear hX X); try clear hY Y)
        | (refine RunD_nil ?_; refine hK _ _ ?_; clear hK K)
        | (refine RunD_nil ?_)
        | (refine WD_skip ?_)
        | (refine WD_exit ?_)
        | (refine WD_ret ?_)
        | (refine hK.1 _ _ ?_; clear hK K)
        | (refine hK.2.1 _ _ ?_; clear hK K)
        | (refine hK.2 _ _ _ ?hne ?_; (case hne => simp; done); clear hK K)
        | (refine hK.2.2 _ _ _ ?hne ?_; (case hne => simp; done); clear hK K))
      obtain ⟨u, h2, hc2, W2, A2, hi2⟩ := asRunT_ok h1.next ot o1 o2 n (2 * n) b1 xs g rfl h' (.agg #[.int .i64 (n : Int), b]) xs[j] hTT (by omega) (.mk hF) ⟨b, rfl, hF3⟩ (List.getElem_mem hlt)
      refine RunD_c rfl rfl rfl rfl (by simp) (by simp) ?ha (hc2) ?_
      (case ha => simp (disch := first | omega | (simp; done) | fail) [wrap64c, if_pos, if_neg, opAnd, opOr, opXor, opDiff, opShr, opBit, g_h0, c1, hNt, hgt, hM0, g1, e1, e4, e5, e6, e16, e17, e18, g2, hlt, q_x, g_x, l_x, r_x, z_x])
      have hMu := hi2.ints.lenD
      have hru : (toN (runF bestN xs[j] xs.length xs)).length = runLen xs xs[j] := by rw [toN_length]; rfl
      by_cases hc : (runLen xs xs[j] : Int) > s2
      · rw [if_pos hc] at hst
        have hc' : s2 < (runLen xs xs[j] : Int) := hc
        repeat (first
          | (refine WD_block (fun K hK => ?_))
          | (refine WD_seq (fun K hK => ?_))
          | (refine WD_region (fun K hK => ?_))
          | ((first | refine RunD_o rfl rfl rfl rfl rfl (fun X hX => ?_) | refine RunD_s rfl rfl rfl rfl (fun X hX => ?_) | refine WD_c rfl (fun X Y hX hY => ?_)); (try dsimp only); simp (disch := first | omega | (simp; done) | fail) [wrap64c, if_pos, if_neg, opAnd, opOr, opXor, opDiff, opShr, opBit, g_h0, c1, hNt, hgt, hM0, g1, e1, e4, e5, e6, e16, e17, e18, g2, hlt, q_x, g_x, l_x, r_x, z_x, hMu, hru, hc']; (first | refine hX _ _ ?_ | refine hX ?_ | refine hY ?_); (try clear hX X); try clear hY Y)
          | (refine RunD_nil ?_; refine hK _ _ ?_; clear hK K)
          | (refine RunD_nil ?_)
          | (refine WD_skip ?_)
          | (refine WD_exit ?_)
          | (refine WD_ret ?_)
          | (refine hK.1 _ _ ?_; clear hK K)
          | (refine hK.2.1 _ _ ?_; clear hK K)
          | (refine hK.2 _ _ _ ?hne ?_; (case hne => simp; done); clear hK K)
          | (refine hK.2.2 _ _ _ ?hne ?_; (case hne => simp; done); clear hK K))
        refine hK.1 _ _ _ ?hm ?hf ⟨j + 1, rfl, (by simp [hst]), (by simp [hst]), (by simp (disch := first | omega | (simp; done) | fail) [wrap64c, if_pos, if_neg, opAnd, opOr, opXor, opDiff, opShr, opBit, g_h0, c1, hNt, hgt, hM0, g1, e1, e4, e5, e6, e16, e17, e18, g2, hlt, q_x, g_x, l_x, r_x, z_x, hMu, hru, hc'] <;> omega), (by first | omega | assumption | (simp (disch := first | omega | (simp; done) | fail) [wrap64c, if_pos, if_neg, opAnd, opOr, opXor, opDiff, opShr, opBit, g_h0, c1, hNt, hgt, hM0, g1, e1, e4, e5, e6, e16, e17, e18, g2, hlt, q_x, g_x, l_x, r_x, z_x, hMu, hru, hc'] <;> omega)), (hW.trans W2), A2⟩
        (case hm => first | omega | (simp; omega))
        (case hf => simp [FrameL, g_h0, c1, hNt, hgt, hM0, g1, e1, e4, e5, e6, e16, e17, e18, g2, hlt, q_x, g_x, l_x, r_x, z_x, hMu, hru, hc', f1_0, f4_0, f16_0, f17_0])
      · rw [if_neg hc] at hst
        have hc' : ¬ s2 < (runLen xs xs[j] : Int) := hc
        repeat (first
          | (refine WD_block (fun K hK => ?_))
          | (refine WD_seq (fun K hK => ?_))
          | (refine WD_region (fun K hK => ?_))
          | ((first | refine RunD_o rfl rfl rfl rfl rfl (fun X hX => ?_) | refine RunD_s rfl rfl rfl rfl (fun X hX => ?_) | refine WD_c rfl (fun X Y hX hY => ?_)); (try dsimp only); simp (disch := first | omega | (simp; done) | fail) [wrap64c, if_pos, if_neg, opAnd, opOr, opXor, opDiff, opShr, opBit, g_h0, c1, hNt, hgt, hM0, g1, e1, e4, e5, e6, e16, e17, e18, g2, hlt, q_x, g_x, l_x, r_x, z_x, hMu, hru, hc']; (first | refine hX _ _ ?_ | refine hX ?_ | refine hY ?_); (try clear hX X); try clear hY Y)
          | (refine RunD_nil ?_; refine hK _ _ ?_; clear hK K)
          | (refine RunD_nil ?_)
          | (refine WD_skip ?_)
          | (refine WD_exit ?_)
          | (refine WD_ret ?_)
          | (refine hK.1 _ _ ?_; clear hK K)
          | (refine hK.2.1 _ _ ?_; clear hK K)
          | (refine hK.2 _ _ _ ?hne ?_; (case hne => simp; done); clear hK K)
          | (refine hK.2.2 _ _ _ ?hne ?_; (case hne => simp; done); clear hK K))
        refine hK.1 _ _ _ ?hm ?hf ⟨j + 1, rfl, (by simp [hst, e5]), (by simp [hst, e6, hs2]), (by simp (disch := first | omega | (simp; done) | fail) [wrap64c, if_pos, if_neg, opAnd, opOr, opXor, opDiff, opShr, opBit, g_h0, c1, hNt, hgt, hM0, g1, e1, e4, e5, e6, e16, e17, e18, g2, hlt, q_x, g_x, l_x, r_x, z_x, hMu, hru, hc'] <;> omega), (by first | omega | assumption | (simp (disch := first | omega | (simp; done) | fail) [wrap64c, if_pos, if_neg, opAnd, opOr, opXor, opDiff, opShr, opBit, g_h0, c1, hNt, hgt, hM0, g1, e1, e4, e5, e6, e16, e17, e18, g2, hlt, q_x, g_x, l_x, r_x, z_x, hMu, hru, hc'] <;> omega)), (hW.trans W2), A2⟩
        (case hm => first | omega | (simp; omega))
        (case hf => simp [FrameL, g_h0, c1, hNt, hgt, hM0, g1, e1, e4, e5, e6, e16, e17, e18, g2, hlt, q_x, g_x, l_x, r_x, z_x, hMu, hru, hc', f1_0, f4_0, f16_0, f17_0])
    · have hft : xs.take j = xs := List.take_of_length_le (by omega)
      repeat (first
        | (refine WD_block (fun K hK => ?_))
        | (refine WD_seq (fun K hK => ?_))
        | (refine WD_region (fun K hK => ?_))
        | ((first | refine RunD_o rfl rfl rfl rfl rfl (fun X hX => ?_) | refine RunD_s rfl rfl rfl rfl (fun X hX => ?_) | refine WD_c rfl (fun X Y hX hY => ?_)); (try dsimp only); simp (disch := first | omega | (simp; done) | fail) [wrap64c, if_pos, if_neg, opAnd, opOr, opXor, opDiff, opShr, opBit, g_h0, c1, hNt, hgt, hM0, g1, e1, e4, e5, e6, e16, e17, e18, g2, hlt]; (first | refine hX _ _ ?_ | refine hX ?_ | refine hY ?_); (try clear hX X); try clear hY Y)
        | (refine RunD_nil ?_; refine hK _ _ ?_; clear hK K)
        | (refine RunD_nil ?_)
        | (refine WD_skip ?_)
        | (refine WD_exit ?_)
        | (refine WD_ret ?_)
        | (refine hK.1 _ _ ?_; clear hK K)
        | (refine hK.2.1 _ _ ?_; clear hK K)
        | (refine hK.2 _ _ _ ?hne ?_; (case hne => simp; done); clear hK K)
        | (refine hK.2.2 _ _ _ ?hne ?_; (case hne => simp; done); clear hK K))
      have AA : Adds h0 h' := ha1.wr hW fun o ho => by rcases ho with rfl | rfl <;> omega
      have c1' : spB N (toN xs) = true := hXe ▸ c1
      exact done_ret rfl ⟨by simp [worstR, c1', hXe, hft], K0.trans AA.1⟩
end Go.Proofs.Ytpehnhjgdgnnkaa
