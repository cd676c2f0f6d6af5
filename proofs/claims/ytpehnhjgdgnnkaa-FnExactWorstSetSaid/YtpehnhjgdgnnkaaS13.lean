/- Runs of questions; HalfRun by both sides. -/
import Derived.Test.YtpehnhjgdgnnkaaS12
namespace Go.Proofs.Ytpehnhjgdgnnkaa
set_option linter.unusedSimpArgs false
set_option linter.unusedVariables false
set_option maxHeartbeats 4000000
open Go Go.Eng
attribute [local irreducible] WD RunD PreD Runs CallOK

theorem asHalf_ok (h : Hp) (v : Value) (n : Nat) (xs : List Nat) (y z : Nat) (hv : Space h v n (toN xs)) (g : SpGood n xs) (hy : y < 128) (hz : z < 128) (hne : leftN xs y z ≠ []) :
    CallOK Try.prog 106 #[v, .int .i64 (y : Int), .int .i64 (z : Int)] h (.int .i64 (halfN (leftN xs y z))) h := by
  refine call_P 66 _ [.tmp 6] Try.func106 rfl rfl rfl (by first | rfl | simp) ?_
  obtain ⟨b, rfl, hX⟩ := hv
  repeat (first
    | (refine WD_block (fun K hK => ?_))
    | (refine WD_seq (fun K hK => ?_)))
  refine WD_region (fun K hK => ?_)
  repeat (first
    | ((first | refine RunD_o rfl rfl rfl rfl rfl (fun X hX => ?_) | refine RunD_s rfl rfl rfl rfl (fun X hX => ?_) | refine RunD_g rfl rfl rfl rfl rfl rfl rfl (fun X Y hX hY => ?_) | refine RunD_gc rfl rfl rfl rfl rfl rfl (fun Y hY => ?_) | refine WD_c rfl (fun X Y hX hY => ?_)); (try dsimp only); simp (disch := first | omega | (simp; done) | fail) [wrap64c, if_pos, if_neg, opAnd, opOr, opXor, opDiff, opShr, opBit]; (first | refine hX _ _ ?_ | refine hX ?_ | refine hY ?_); (try clear hX X); try clear hY Y))
  refine RunD_heap fun h0 q_h0 => ?_
  have g_h0 : h0.get h.next = .cells [.int .i64 (n : Int), b] true true 1 := by simp [q_h0]
  have k_h0 : Adds h h0 := by rw [q_h0]; exact (by repeat (first | exact keep_self _ | exact adds_self _ | assumption | exact Adds.keeps (by assumption) | refine keeps_alloc ?_ _ | refine adds_alloc ?_ _ _ _ | refine adds_allocM ?_ _ | (refine keeps_put ?_ ?hle _; (case hle => first | omega | (simp; done) | (simp; omega))) | (refine adds_put ?_ ?hle _ _ _; (case hle => first | omega | (simp; done) | (simp; omega)))))
  have n_h0 : h.next < h0.next := by simp [q_h0]; try omega
  have hX0 := hX.keep k_h0.1
  have n7 := g.n7
  have hl7 := g.len7
  repeat (first
    | (refine WD_block (fun K hK => ?_))
    | (refine WD_seq (fun K hK => ?_))
    | (refine WD_region (fun K hK => ?_))
    | ((first | refine RunD_o rfl rfl rfl rfl rfl (fun X hX => ?_) | refine RunD_s rfl rfl rfl rfl (fun X hX => ?_) | refine RunD_g rfl rfl rfl rfl rfl rfl rfl (fun X Y hX hY => ?_) | refine RunD_gc rfl rfl rfl rfl rfl rfl (fun Y hY => ?_) | refine WD_c rfl (fun X Y hX hY => ?_)); (try dsimp only); simp (disch := first | omega | (simp; done) | fail) [wrap64c, if_pos, if_neg, opAnd, opOr, opXor, opDiff, opShr, opBit, g_h0]; (first | refine hX _ _ ?_ | refine hX ?_ | refine hY ?_); (try clear hX X); try clear hY Y)
    | (refine RunD_nil ?_; refine hK _ _ ?_; clear hK K)
    | (refine RunD_nil ?_)
    | (refine WD_skip ?_)
    | (refine WD_exit ?_)
    | (refine WD_ret ?_)
    | (refine hK.1 _ _ ?_; clear hK K)
    | (refine hK.2.1 _ _ ?_; clear hK K)
    | (refine hK.2 _ _ _ ?hne ?_; (case hne => simp; done); clear hK K)
    | (refine hK.2.2 _ _ _ ?hne ?_; (case hne => simp; done); clear hK K))
  obtain ⟨v1, h1, hc1, ha1, hi1⟩ := spLeft_ok h0 (.agg #[.int .i64 (n : Int), b]) n xs y z (.mk hX0) g.lt7 (by omega) hy hz
  refine RunD_c rfl rfl rfl rfl (by simp) (by simp) ?ha (hc1) ?_
  (case ha => simp (disch := first | omega | (simp; done) | fail) [wrap64c, if_pos, if_neg, opAnd, opOr, opXor, opDiff, opShr, opBit, g_h0])
  obtain ⟨L, hLe⟩ : ∃ L, L = leftN xs y z := ⟨_, rfl⟩
  have hLx : ∀ x ∈ L, x < 128 := fun x hm => g.lt7 x (left_sub (hLe ▸ hm))
  have hLn : ∀ x ∈ L, x < bit n := fun x hm => g.lt x (left_sub (hLe ▸ hm))
  have hLl : L.length ≤ 128 := by have := left_len xs y z; rw [hLe]; omega
  rw [← hLe] at hi1 hne
  have g1 : h1.get h.next = .cells [.int .i64 (n : Int), b] true true 1 := by rw [ha1.1.2 _ (by omega)]; exact g_h0
  have hv1 := hi1.ints
  have hM1 := hv1.lenD
  have hgt1 := toN_get L
  have hln1 := toN_length L
  have K1 := k_h0.1.trans ha1.1
  repeat (first
    | (refine WD_block (fun K hK => ?_))
    | (refine WD_seq (fun K hK => ?_))
    | (refine WD_region (fun K hK => ?_))
    | ((first | refine RunD_o rfl rfl rfl rfl rfl (fun X hX => ?_) | refine RunD_s rfl rfl rfl rfl (fun X hX => ?_) | refine RunD_g rfl rfl rfl rfl rfl rfl rfl (fun X Y hX hY => ?_) | refine RunD_gc rfl rfl rfl rfl rfl rfl (fun Y hY => ?_) | refine WD_c rfl (fun X Y hX hY => ?_)); (try dsimp only); simp (disch := first | omega | (simp; done) | fail) [wrap64c, if_pos, if_neg, opAnd, opOr, opXor, opDiff, opShr, opBit, g_h0, g1, hM1, hgt1]; (first | refine hX _ _ ?_ | refine hX ?_ | refine hY ?_); (try clear hX X); try clear hY Y)
    | (refine RunD_nil ?_; refine hK _ _ ?_; clear hK K)
    | (refine RunD_nil ?_)
    | (refine WD_skip ?_)
    | (refine WD_exit ?_)
    | (refine WD_ret ?_)
    | (refine hK.1 _ _ ?_; clear hK K)
    | (refine hK.2.1 _ _ ?_; clear hK K)
    | (refine hK.2 _ _ _ ?hne ?_; (case hne => simp; done); clear hK K)
    | (refine hK.2.2 _ _ _ ?hne ?_; (case hne => simp; done); clear hK K))
  refine RunD_c rfl rfl rfl rfl (by simp) (by simp) ?ha (asKnown_ok h1 (.agg #[.int .i64 (n : Int), b]) v1 n _ L (.mk (hX0.keep ha1.1)) hv1 n7 hLx (by omega)) ?_
  (case ha => simp (disch := first | omega | (simp; done) | fail) [wrap64c, if_pos, if_neg, opAnd, opOr, opXor, opDiff, opShr, opBit, g_h0, g1, hM1, hgt1])
  have hb := bit7 n7
  have hba := foldAnd_le L (bit n - 1)
  have hbd := foldDiff_lt (L := L) (a := bit n - 1) (by omega)
  repeat (first
    | (refine WD_block (fun K hK => ?_))
    | (refine WD_seq (fun K hK => ?_))
    | (refine WD_region (fun K hK => ?_))
    | ((first | refine RunD_o rfl rfl rfl rfl rfl (fun X hX => ?_) | refine RunD_s rfl rfl rfl rfl (fun X hX => ?_) | refine RunD_g rfl rfl rfl rfl rfl rfl rfl (fun X Y hX hY => ?_) | refine RunD_gc rfl rfl rfl rfl rfl rfl (fun Y hY => ?_) | refine WD_c rfl (fun X Y hX hY => ?_)); (try dsimp only); simp (disch := first | omega | (simp; done) | fail) [wrap64c, if_pos, if_neg, opAnd, opOr, opXor, opDiff, opShr, opBit, g_h0, g1, hM1, hgt1]; (first | refine hX _ _ ?_ | refine hX ?_ | refine hY ?_); (try clear hX X); try clear hY Y)
    | (refine RunD_nil ?_; refine hK _ _ ?_; clear hK K)
    | (refine RunD_nil ?_)
    | (refine WD_skip ?_)
    | (refine WD_exit ?_)
    | (refine WD_ret ?_)
    | (refine hK.1 _ _ ?_; clear hK K)
    | (refine hK.2.1 _ _ ?_; clear hK K)
    | (refine hK.2 _ _ _ ?hne ?_; (case hne => simp; done); clear hK K)
    | (refine hK.2.2 _ _ _ ?hne ?_; (case hne => simp; done); clear hK K))
  refine WD_loopF [3, 7, 8, 9] (fun m tm h' => ∃ i, m = n - i ∧ h1 = h' ∧ tm 10 = .int .i64 (halfS L (openK L i)).1 ∧ tm 11 = .int .i64 ((halfS L (openK L i)).2 : Int) ∧ tm 12 = .int .i64 (i : Int) ∧ (i ≤ n)) _ ⟨0, rfl, rfl, (by simp [halfS, openK]), (by simp [halfS, openK]), (by simp (disch := first | omega | (simp; done) | fail) [wrap64c, if_pos, if_neg, opAnd, opOr, opXor, opDiff, opShr, opBit, g_h0, g1, hM1, hgt1]), (by first | omega | assumption | (simp (disch := first | omega | (simp; done) | fail) [wrap64c, if_pos, if_neg, opAnd, opOr, opXor, opDiff, opShr, opBit, g_h0, g1, hM1, hgt1] <;> omega))⟩ ?_
  rintro m tm h' hFr ⟨i, rfl, rfl, e10, e11, e12, hi⟩ K hK
  simp only [FrameL] at hFr
  obtain ⟨f3_0, f7_0, f8_0, f9_0, -⟩ := hFr
  try simp (disch := first | omega | (simp; done) | fail) [wrap64c, if_pos, if_neg, opAnd, opOr, opXor, opDiff, opShr, opBit, g_h0, g1, hM1, hgt1] at f3_0 f7_0 f8_0 f9_0
  have e3 := f3_0
  have e7 := f7_0
  have e8 := f8_0
  have e9 := f9_0
  by_cases hlt : i < n
  · have hkb := known_bit hne hlt
    have hor := nOr128 (a := L.foldl nAnd (bit n - 1)) (by omega) hbd
    have hos := openK_succ L i
    repeat (first
      | (refine WD_block (fun K hK => ?_))
      | (refine WD_seq (fun K hK => ?_))
      | (refine WD_region (fun K hK => ?_))
      | ((first | refine RunD_o rfl rfl rfl rfl rfl (fun X hX => ?_) | refine RunD_s rfl rfl rfl rfl (fun X hX => ?_) | refine RunD_g rfl rfl rfl rfl rfl rfl rfl (fun X Y hX hY => ?_) | refine RunD_gc rfl rfl rfl rfl rfl rfl (fun Y hY => ?_) | refine WD_c rfl (fun X Y hX hY => ?_)); (try dsimp only); simp (disch := first | omega | (simp; done) | fail) [wrap64c, if_pos, if_neg, opAnd, opOr, opXor, opDiff, opShr, opBit, g_h0, g1, hM1, hgt1, e3, e7, e8, e9, e10, e11, e12, hlt]; (first | refine hX _ _ ?_ | refine hX ?_ | refine hY ?_); (try clear hX X); try clear hY Y)
      | (refine RunD_nil ?_; refine hK _ _ ?_; clear hK K)
      | (refine RunD_nil ?_)
      | (refine WD_skip ?_)
      | (refine WD_exit ?_)
      | (refine WD_ret ?_)
      | (refine hK.1 _ _ ?_; clear hK K)
      | (refine hK.2.1 _ _ ?_; clear hK K)
      | (refine hK.2 _ _ _ ?hne ?_; (case hne => simp; done); clear hK K)
      | (refine hK.2.2 _ _ _ ?hne ?_; (case hne => simp; done); clear hK K))
    refine RunD_c rfl rfl rfl rfl (by simp) (by simp) ?ha (spIn_ok h1 (nOr (L.foldl nAnd (bit n - 1)) (L.foldl ndiff (bit n - 1))) i (by omega) (by omega)) ?_
    (case ha => simp (disch := first | omega | (simp; done) | fail) [wrap64c, if_pos, if_neg, opAnd, opOr, opXor, opDiff, opShr, opBit, g_h0, g1, hM1, hgt1, e3, e7, e8, e9, e10, e11, e12, hlt])
    cases hop : opB L i
    · rw [hop] at hkb hos
      have hkb := hkb
      repeat (first
        | (refine WD_block (fun K hK => ?_))
        | (refine WD_seq (fun K hK => ?_))
        | (refine WD_region (fun K hK => ?_))
        | ((first | refine RunD_o rfl rfl rfl rfl rfl (fun X hX => ?_) | refine RunD_s rfl rfl rfl rfl (fun X hX => ?_) | refine RunD_g rfl rfl rfl rfl rfl rfl rfl (fun X Y hX hY => ?_) | refine RunD_gc rfl rfl rfl rfl rfl rfl (fun Y hY => ?_) | refine WD_c rfl (fun X Y hX hY => ?_)); (try dsimp only); simp (disch := first | omega | (simp; done) | fail) [wrap64c, if_pos, if_neg, opAnd, opOr, opXor, opDiff, opShr, opBit, g_h0, g1, hM1, hgt1, e3, e7, e8, e9, e10, e11, e12, hlt, hkb]; (first | refine hX _ _ ?_ | refine hX ?_ | refine hY ?_); (try clear hX X); try clear hY Y)
        | (refine RunD_nil ?_; refine hK _ _ ?_; clear hK K)
        | (refine RunD_nil ?_)
        | (refine WD_skip ?_)
        | (refine WD_exit ?_)
        | (refine WD_ret ?_)
        | (refine hK.1 _ _ ?_; clear hK K)
        | (refine hK.2.1 _ _ ?_; clear hK K)
        | (refine hK.2 _ _ _ ?hne ?_; (case hne => simp; done); clear hK K)
        | (refine hK.2.2 _ _ _ ?hne ?_; (case hne => simp; done); clear hK K))
      refine hK.1 _ _ _ ?hm ?hf ⟨i + 1, rfl, rfl, (by simp [hos, e10]), (by simp [hos, e11]), (by simp (disch := first | omega | (simp; done) | fail) [wrap64c, if_pos, if_neg, opAnd, opOr, opXor, opDiff, opShr, opBit, g_h0, g1, hM1, hgt1, e3, e7, e8, e9, e10, e11, e12, hlt, hkb] <;> omega), (by first | omega | assumption | (simp (disch := first | omega | (simp; done) | fail) [wrap64c, if_pos, if_neg, opAnd, opOr, opXor, opDiff, opShr, opBit, g_h0, g1, hM1, hgt1, e3, e7, e8, e9, e10, e11, e12, hlt, hkb] <;> omega))⟩
      (case hm => first | omega | (simp; omega))
      (case hf => simp [FrameL, g_h0, g1, hM1, hgt1, e3, e7, e8, e9, e10, e11, e12, hlt, hkb, f3_0, f7_0, f8_0, f9_0])
    · rw [hop] at hkb hos
      have hkb := hkb
      repeat (first
        | (refine WD_block (fun K hK => ?_))
        | (refine WD_seq (fun K hK => ?_))
        | (refine WD_region (fun K hK => ?_))
        | ((first | refine RunD_o rfl rfl rfl rfl rfl (fun X hX => ?_) | refine RunD_s rfl rfl rfl rfl (fun X hX => ?_) | refine RunD_g rfl rfl rfl rfl rfl rfl rfl (fun X Y hX hY => ?_) | refine RunD_gc rfl rfl rfl rfl rfl rfl (fun Y hY => ?_) | refine WD_c rfl (fun X Y hX hY => ?_)); (try dsimp only); simp (disch := first | omega | (simp; done) | fail) [wrap64c, if_pos, if_neg, opAnd, opOr, opXor, opDiff, opShr, opBit, g_h0, g1, hM1, hgt1, e3, e7, e8, e9, e10, e11, e12, hlt, hkb]; (first | refine hX _ _ ?_ | refine hX ?_ | refine hY ?_); (try clear hX X); try clear hY Y)
        | (refine RunD_nil ?_; refine hK _ _ ?_; clear hK K)
        | (refine RunD_nil ?_)
        | (refine WD_skip ?_)
        | (refine WD_exit ?_)
        | (refine WD_ret ?_)
        | (refine hK.1 _ _ ?_; clear hK K)
        | (refine hK.2.1 _ _ ?_; clear hK K)
        | (refine hK.2 _ _ _ ?hne ?_; (case hne => simp; done); clear hK K)
        | (refine hK.2.2 _ _ _ ?hne ?_; (case hne => simp; done); clear hK K))
      refine WD_loopF [3, 7, 8, 9, 10, 11, 12, 38, 39] (fun m tm h' => ∃ k, m = L.length - k ∧ h1 = h' ∧ tm 13 = .int .i64 ((hasL (L.take k) i).length : Int) ∧ tm 40 = .int .i64 (k : Int) ∧ (k ≤ L.length)) _ ⟨0, rfl, rfl, (by simp [hasL]), (by simp (disch := first | omega | (simp; done) | fail) [wrap64c, if_pos, if_neg, opAnd, opOr, opXor, opDiff, opShr, opBit, g_h0, g1, hM1, hgt1, e3, e7, e8, e9, e10, e11, e12, hlt, hkb]), (by first | omega | assumption | (simp (disch := first | omega | (simp; done) | fail) [wrap64c, if_pos, if_neg, opAnd, opOr, opXor, opDiff, opShr, opBit, g_h0, g1, hM1, hgt1, e3, e7, e8, e9, e10, e11, e12, hlt, hkb] <;> omega))⟩ ?_
      rintro m tm h' hFr ⟨k, rfl, rfl, e13, e40, hk⟩ K hK
      simp only [FrameL] at hFr
      obtain ⟨f3_1, f7_1, f8_1, f9_1, f10_1, f11_1, f12_1, f38_1, f39_1, -⟩ := hFr
      try simp (disch := first | omega | (simp; done) | fail) [wrap64c, if_pos, if_neg, opAnd, opOr, opXor, opDiff, opShr, opBit, g_h0, g1, hM1, hgt1, e3, e7, e8, e9, e10, e11, e12, hlt, hkb] at f3_1 f7_1 f8_1 f9_1 f10_1 f11_1 f12_1 f38_1 f39_1
      have e3 := f3_1
      have e7 := f7_1
      have e8 := f8_1
      have e9 := f9_1
      have e10 := f10_1
      have e11 := f11_1
      have e12 := f12_1
      have e38 := f38_1
      have e39 := f39_1
      have hhl := has_take_le L k i
      by_cases hlk : k < L.length
      · obtain ⟨o_w, i_w, c_w, cs_w, own_w, ex_w, es_w, q_w, b_w, g_w, l_w, r_w⟩ := hv1.open ((by omega))
        have z_w : ∀ h2 : i_w < cs_w.length, cs_w[i_w] = _ := fun h2 => r_w 0 ((by omega)) h2
        have hx1 := hLx _ (List.getElem_mem hlk)
        have hht := has_take hlk i
        repeat (first
          | (refine WD_block (fun K hK => ?_))
          | (refine WD_seq (fun K hK => ?_))
          | (refine WD_region (fun K hK => ?_))
          | ((first | refine RunD_o rfl rfl rfl rfl rfl (fun X hX => ?_) | refine RunD_s rfl rfl rfl rfl (fun X hX => ?_) | refine RunD_g rfl rfl rfl rfl rfl rfl rfl (fun X Y hX hY => ?_) | refine RunD_gc rfl rfl rfl rfl rfl rfl (fun Y hY => ?_) | refine WD_c rfl (fun X Y hX hY => ?_)); (try dsimp only); simp (disch := first | omega | (simp; done) | fail) [wrap64c, if_pos, if_neg, opAnd, opOr, opXor, opDiff, opShr, opBit, g_h0, g1, hM1, hgt1, e3, e7, e8, e9, e10, e11, e12, hlt, hkb, e13, e38, e39, e40, hlk, q_w, g_w, l_w, r_w, z_w]; (first | refine hX _ _ ?_ | refine hX ?_ | refine hY ?_); (try clear hX X); try clear hY Y)
          | (refine RunD_nil ?_; refine hK _ _ ?_; clear hK K)
          | (refine RunD_nil ?_)
          | (refine WD_skip ?_)
          | (refine WD_exit ?_)
          | (refine WD_ret ?_)
          | (refine hK.1 _ _ ?_; clear hK K)
          | (refine hK.2.1 _ _ ?_; clear hK K)
          | (refine hK.2 _ _ _ ?hne ?_; (case hne => simp; done); clear hK K)
          | (refine hK.2.2 _ _ _ ?hne ?_; (case hne => simp; done); clear hK K))
        refine RunD_c rfl rfl rfl rfl (by simp) (by simp) ?ha (spIn_ok h1 L[k] i (by omega) (by omega)) ?_
        (case ha => simp (disch := first | omega | (simp; done) | fail) [wrap64c, if_pos, if_neg, opAnd, opOr, opXor, opDiff, opShr, opBit, g_h0, g1, hM1, hgt1, e3, e7, e8, e9, e10, e11, e12, hlt, hkb, e13, e38, e39, e40, hlk, q_w, g_w, l_w, r_w, z_w])
        cases hbk : L[k].testBit i
        · repeat (first
            | (refine WD_block (fun K hK => ?_))
            | (refine WD_seq (fun K hK => ?_))
            | (refine WD_region (fun K hK => ?_))
            | ((first | refine RunD_o rfl rfl rfl rfl rfl (fun X hX => ?_) | refine RunD_s rfl rfl rfl rfl (fun X hX => ?_) | refine RunD_g rfl rfl rfl rfl rfl rfl rfl (fun X Y hX hY => ?_) | refine RunD_gc rfl rfl rfl rfl rfl rfl (fun Y hY => ?_) | refine WD_c rfl (fun X Y hX hY => ?_)); (try dsimp only); simp (disch := first | omega | (simp; done) | fail) [wrap64c, if_pos, if_neg, opAnd, opOr, opXor, opDiff, opShr, opBit, g_h0, g1, hM1, hgt1, e3, e7, e8, e9, e10, e11, e12, hlt, hkb, e13, e38, e39, e40, hlk, q_w, g_w, l_w, r_w, z_w, hbk]; (first | refine hX _ _ ?_ | refine hX ?_ | refine hY ?_); (try clear hX X); try clear hY Y)
            | (refine RunD_nil ?_; refine hK _ _ ?_; clear hK K)
            | (refine RunD_nil ?_)
            | (refine WD_skip ?_)
            | (refine WD_exit ?_)
            | (refine WD_ret ?_)
            | (refine hK.1 _ _ ?_; clear hK K)
            | (refine hK.2.1 _ _ ?_; clear hK K)
            | (refine hK.2 _ _ _ ?hne ?_; (case hne => simp; done); clear hK K)
            | (refine hK.2.2 _ _ _ ?hne ?_; (case hne => simp; done); clear hK K))
          refine hK.1 _ _ _ ?hm ?hf ⟨k + 1, rfl, rfl, (by simp [hht, hbk, e13]), (by simp (disch := first | omega | (simp; done) | fail) [wrap64c, if_pos, if_neg, opAnd, opOr, opXor, opDiff, opShr, opBit, g_h0, g1, hM1, hgt1, e3, e7, e8, e9, e10, e11, e12, hlt, hkb, e13, e38, e39, e40, hlk, q_w, g_w, l_w, r_w, z_w, hbk] <;> omega), (by first | omega | assumption | (simp (disch := first | omega | (simp; done) | fail) [wrap64c, if_pos, if_neg, opAnd, opOr, opXor, opDiff, opShr, opBit, g_h0, g1, hM1, hgt1, e3, e7, e8, e9, e10, e11, e12, hlt, hkb, e13, e38, e39, e40, hlk, q_w, g_w, l_w, r_w, z_w, hbk] <;> omega))⟩
          (case hm => first | omega | (simp; omega))
          (case hf => simp [FrameL, g_h0, g1, hM1, hgt1, e3, e7, e8, e9, e10, e11, e12, hlt, hkb, e13, e38, e39, e40, hlk, q_w, g_w, l_w, r_w, z_w, hbk, f3_1, f7_1, f8_1, f9_1, f10_1, f11_1, f12_1, f38_1, f39_1])
        · repeat (first
            | (refine WD_block (fun K hK => ?_))
            | (refine WD_seq (fun K hK => ?_))
            | (refine WD_region (fun K hK => ?_))
            | ((first | refine RunD_o rfl rfl rfl rfl rfl (fun X hX => ?_) | refine RunD_s rfl rfl rfl rfl (fun X hX => ?_) | refine RunD_g rfl rfl rfl rfl rfl rfl rfl (fun X Y hX hY => ?_) | refine RunD_gc rfl rfl rfl rfl rfl rfl (fun Y hY => ?_) | refine WD_c rfl (fun X Y hX hY => ?_)); (try dsimp only); simp (disch := first | omega | (simp; done) | fail) [wrap64c, if_pos, if_neg, opAnd, opOr, opXor, opDiff, opShr, opBit, g_h0, g1, hM1, hgt1, e3, e7, e8, e9, e10, e11, e12, hlt, hkb, e13, e38, e39, e40, hlk, q_w, g_w, l_w, r_w, z_w, hbk]; (first | refine hX _ _ ?_ | refine hX ?_ | refine hY ?_); (try clear hX X); try clear hY Y)
            | (refine RunD_nil ?_; refine hK _ _ ?_; clear hK K)
            | (refine RunD_nil ?_)
            | (refine WD_skip ?_)
            | (refine WD_exit ?_)
            | (refine WD_ret ?_)
            | (refine hK.1 _ _ ?_; clear hK K)
            | (refine hK.2.1 _ _ ?_; clear hK K)
            | (refine hK.2 _ _ _ ?hne ?_; (case hne => simp; done); clear hK K)
            | (refine hK.2.2 _ _ _ ?hne ?_; (case hne => simp; done); clear hK K))
          refine hK.1 _ _ _ ?hm ?hf ⟨k + 1, rfl, rfl, (by simp [hht, hbk]), (by simp (disch := first | omega | (simp; done) | fail) [wrap64c, if_pos, if_neg, opAnd, opOr, opXor, opDiff, opShr, opBit, g_h0, g1, hM1, hgt1, e3, e7, e8, e9, e10, e11, e12, hlt, hkb, e13, e38, e39, e40, hlk, q_w, g_w, l_w, r_w, z_w, hbk] <;> omega), (by first | omega | assumption | (simp (disch := first | omega | (simp; done) | fail) [wrap64c, if_pos, if_neg, opAnd, opOr, opXor, opDiff, opShr, opBit, g_h0, g1, hM1, hgt1, e3, e7, e8, e9, e10, e11, e12, hlt, hkb, e13, e38, e39, e40, hlk, q_w, g_w, l_w, r_w, z_w, hbk] <;> omega))⟩
          (case hm => first | omega | (simp; omega))
          (case hf => simp [FrameL, g_h0, g1, hM1, hgt1, e3, e7, e8, e9, e10, e11, e12, hlt, hkb, e13, e38, e39, e40, hlk, q_w, g_w, l_w, r_w, z_w, hbk, f3_1, f7_1, f8_1, f9_1, f10_1, f11_1, f12_1, f38_1, f39_1])
      · have hft : L.take k = L := List.take_of_length_le (by omega)
        rw [hft] at e13 hhl
        have hdn : (2 * ((hasL L i).length : Int) - (L.length : Int)).natAbs = distN L i := rfl
        obtain ⟨s1, hs1⟩ : ∃ s1, s1 = (halfS L (openK L i)).1 := ⟨_, rfl⟩
        obtain ⟨s2, hs2⟩ : ∃ s2, s2 = (halfS L (openK L i)).2 := ⟨_, rfl⟩
        have hsn : halfS L (openK L (i + 1)) = if s1 < 0 ∨ distN L i < s2 then ((i : Int), distN L i) else halfS L (openK L i) := by
          rw [hos, if_pos rfl, halfS_snoc, hs1, hs2]
        rw [← hs1] at e10
        rw [← hs2] at e11
        repeat (first
          | (refine WD_block (fun K hK => ?_))
          | (refine WD_seq (fun K hK => ?_))
          | (refine WD_region (fun K hK => ?_))
          | ((first | refine RunD_o rfl rfl rfl rfl rfl (fun X hX => ?_) | refine RunD_s rfl rfl rfl rfl (fun X hX => ?_) | refine RunD_g rfl rfl rfl rfl rfl rfl rfl (fun X Y hX hY => ?_) | refine RunD_gc rfl rfl rfl rfl rfl rfl (fun Y hY => ?_) | refine WD_c rfl (fun X Y hX hY => ?_)); (try dsimp only); simp (disch := first | omega | (simp; done) | fail) [wrap64c, if_pos, if_neg, opAnd, opOr, opXor, opDiff, opShr, opBit, g_h0, g1, hM1, hgt1, e3, e7, e8, e9, e10, e11, e12, hlt, hkb, e13, e38, e39, e40, hlk, hdn]; (first | refine hX _ _ ?_ | refine hX ?_ | refine hY ?_); (try clear hX X); try clear hY Y)
          | (refine RunD_nil ?_; refine hK _ _ ?_; clear hK K)
          | (refine RunD_nil ?_)
          | (refine WD_skip ?_)
          | (refine WD_exit ?_)
          | (refine WD_ret ?_)
          | (refine hK.1 _ _ ?_; clear hK K)
          | (refine hK.2.1 _ _ ?_; clear hK K)
          | (refine hK.2 _ _ _ ?hne ?_; (case hne => simp; done); clear hK K)
          | (refine hK.2.2 _ _ _ ?hne ?_; (case hne => simp; done); clear hK K))
        refine RunD_c rfl rfl rfl rfl (by simp) (by simp) ?ha (l1Abs_ok h1 (2 * ((hasL L i).length : Int) - (L.length : Int)) (by omega) (by omega)) ?_
        (case ha => simp (disch := first | omega | (simp; done) | fail) [wrap64c, if_pos, if_neg, opAnd, opOr, opXor, opDiff, opShr, opBit, g_h0, g1, hM1, hgt1, e3, e7, e8, e9, e10, e11, e12, hlt, hkb, e13, e38, e39, e40, hlk, hdn])
        by_cases c1 : s1 < 0
        · rw [if_pos (.inl c1)] at hsn
          repeat (first
            | (refine WD_block (fun K hK => ?_))
            | (refine WD_seq (fun K hK => ?_))
            | (refine WD_region (fun K hK => ?_))
            | ((first | refine RunD_o rfl rfl rfl rfl rfl (fun X hX => ?_) | refine RunD_s rfl rfl rfl rfl (fun X hX => ?_) | refine RunD_g rfl rfl rfl rfl rfl rfl rfl (fun X Y hX hY => ?_) | refine RunD_gc rfl rfl rfl rfl rfl rfl (fun Y hY => ?_) | refine WD_c rfl (fun X Y hX hY => ?_)); (try dsimp only); simp (disch := first | omega | (simp; done) | fail) [wrap64c, if_pos, if_neg, opAnd, opOr, opXor, opDiff, opShr, opBit, g_h0, g1, hM1, hgt1, e3, e7, e8, e9, e10, e11, e12, hlt, hkb, e13, e38, e39, e40, hlk, hdn, c1]; (first | refine hX _ _ ?_ | refine hX ?_ | refine hY ?_); (try clear hX X); try clear hY Y)
            | (refine RunD_nil ?_; refine hK _ _ ?_; clear hK K)
            | (refine RunD_nil ?_)
            | (refine WD_skip ?_)
            | (refine WD_exit ?_)
            | (refine WD_ret ?_)
            | (refine hK.1 _ _ ?_; clear hK K)
            | (refine hK.2.1 _ _ ?_; clear hK K)
            | (refine hK.2 _ _ _ ?hne ?_; (case hne => simp; done); clear hK K)
            | (refine hK.2.2 _ _ _ ?hne ?_; (case hne => simp; done); clear hK K))
          refine hK.1 _ _ _ ?hm ?hf ⟨i + 1, rfl, rfl, (by simp [hsn]), (by simp [hsn]), (by simp (disch := first | omega | (simp; done) | fail) [wrap64c, if_pos, if_neg, opAnd, opOr, opXor, opDiff, opShr, opBit, g_h0, g1, hM1, hgt1, e3, e7, e8, e9, e10, e11, e12, hlt, hkb, e13, e38, e39, e40, hlk, hdn, c1] <;> omega), (by first | omega | assumption | (simp (disch := first | omega | (simp; done) | fail) [wrap64c, if_pos, if_neg, opAnd, opOr, opXor, opDiff, opShr, opBit, g_h0, g1, hM1, hgt1, e3, e7, e8, e9, e10, e11, e12, hlt, hkb, e13, e38, e39, e40, hlk, hdn, c1] <;> omega))⟩
          (case hm => first | omega | (simp; omega))
          (case hf => simp [FrameL, g_h0, g1, hM1, hgt1, e3, e7, e8, e9, e10, e11, e12, hlt, hkb, e13, e38, e39, e40, hlk, hdn, c1, f3_0, f7_0, f8_0, f9_0])
        · by_cases c2 : distN L i < s2
          · rw [if_pos (.inr c2)] at hsn
            repeat (first
              | (refine WD_block (fun K hK => ?_))
              | (refine WD_seq (fun K hK => ?_))
              | (refine WD_region (fun K hK => ?_))
              | ((first | refine RunD_o rfl rfl rfl rfl rfl (fun X hX => ?_) | refine RunD_s rfl rfl rfl rfl (fun X hX => ?_) | refine RunD_g rfl rfl rfl rfl rfl rfl rfl (fun X Y hX hY => ?_) | refine RunD_gc rfl rfl rfl rfl rfl rfl (fun Y hY => ?_) | refine WD_c rfl (fun X Y hX hY => ?_)); (try dsimp only); simp (disch := first | omega | (simp; done) | fail) [wrap64c, if_pos, if_neg, opAnd, opOr, opXor, opDiff, opShr, opBit, g_h0, g1, hM1, hgt1, e3, e7, e8, e9, e10, e11, e12, hlt, hkb, e13, e38, e39, e40, hlk, hdn, c1, c2]; (first | refine hX _ _ ?_ | refine hX ?_ | refine hY ?_); (try clear hX X); try clear hY Y)
              | (refine RunD_nil ?_; refine hK _ _ ?_; clear hK K)
              | (refine RunD_nil ?_)
              | (refine WD_skip ?_)
              | (refine WD_exit ?_)
              | (refine WD_ret ?_)
              | (refine hK.1 _ _ ?_; clear hK K)
              | (refine hK.2.1 _ _ ?_; clear hK K)
              | (refine hK.2 _ _ _ ?hne ?_; (case hne => simp; done); clear hK K)
              | (refine hK.2.2 _ _ _ ?hne ?_; (case hne => simp; done); clear hK K))
            refine hK.1 _ _ _ ?hm ?hf ⟨i + 1, rfl, rfl, (by simp [hsn]), (by simp [hsn]), (by simp (disch := first | omega | (simp; done) | fail) [wrap64c, if_pos, if_neg, opAnd, opOr, opXor, opDiff, opShr, opBit, g_h0, g1, hM1, hgt1, e3, e7, e8, e9, e10, e11, e12, hlt, hkb, e13, e38, e39, e40, hlk, hdn, c1, c2] <;> omega), (by first | omega | assumption | (simp (disch := first | omega | (simp; done) | fail) [wrap64c, if_pos, if_neg, opAnd, opOr, opXor, opDiff, opShr, opBit, g_h0, g1, hM1, hgt1, e3, e7, e8, e9, e10, e11, e12, hlt, hkb, e13, e38, e39, e40, hlk, hdn, c1, c2] <;> omega))⟩
            (case hm => first | omega | (simp; omega))
            (case hf => simp [FrameL, g_h0, g1, hM1, hgt1, e3, e7, e8, e9, e10, e11, e12, hlt, hkb, e13, e38, e39, e40, hlk, hdn, c1, c2, f3_0, f7_0, f8_0, f9_0])
          · rw [if_neg (by omega)] at hsn
            repeat (first
              | (refine WD_block (fun K hK => ?_))
              | (refine WD_seq (fun K hK => ?_))
              | (refine WD_region (fun K hK => ?_))
              | ((first | refine RunD_o rfl rfl rfl rfl rfl (fun X hX => ?_) | refine RunD_s rfl rfl rfl rfl (fun X hX => ?_) | refine RunD_g rfl rfl rfl rfl rfl rfl rfl (fun X Y hX hY => ?_) | refine RunD_gc rfl rfl rfl rfl rfl rfl (fun Y hY => ?_) | refine WD_c rfl (fun X Y hX hY => ?_)); (try dsimp only); simp (disch := first | omega | (simp; done) | fail) [wrap64c, if_pos, if_neg, opAnd, opOr, opXor, opDiff, opShr, opBit, g_h0, g1, hM1, hgt1, e3, e7, e8, e9, e10, e11, e12, hlt, hkb, e13, e38, e39, e40, hlk, hdn, c1, c2]; (first | refine hX _ _ ?_ | refine hX ?_ | refine hY ?_); (try clear hX X); try clear hY Y)
              | (refine RunD_nil ?_; refine hK _ _ ?_; clear hK K)
              | (refine RunD_nil ?_)
              | (refine WD_skip ?_)
              | (refine WD_exit ?_)
              | (refine WD_ret ?_)
              | (refine hK.1 _ _ ?_; clear hK K)
              | (refine hK.2.1 _ _ ?_; clear hK K)
              | (refine hK.2 _ _ _ ?hne ?_; (case hne => simp; done); clear hK K)
              | (refine hK.2.2 _ _ _ ?hne ?_; (case hne => simp; done); clear hK K))
            refine hK.1 _ _ _ ?hm ?hf ⟨i + 1, rfl, rfl, (by simp [hsn, e10, hs1]), (by simp [hsn, e11, hs2]), (by simp (disch := first | omega | (simp; done) | fail) [wrap64c, if_pos, if_neg, opAnd, opOr, opXor, opDiff, opShr, opBit, g_h0, g1, hM1, hgt1, e3, e7, e8, e9, e10, e11, e12, hlt, hkb, e13, e38, e39, e40, hlk, hdn, c1, c2] <;> omega), (by first | omega | assumption | (simp (disch := first | omega | (simp; done) | fail) [wrap64c, if_pos, if_neg, opAnd, opOr, opXor, opDiff, opShr, opBit, g_h0, g1, hM1, hgt1, e3, e7, e8, e9, e10, e11, e12, hlt, hkb, e13, e38, e39, e40, hlk, hdn, c1, c2] <;> omega))⟩
            (case hm => first | omega | (simp; omega))
            (case hf => simp [FrameL, g_h0, g1, hM1, hgt1, e3, e7, e8, e9, e10, e11, e12, hlt, hkb, e13, e38, e39, e40, hlk, hdn, c1, c2, f3_0, f7_0, f8_0, f9_0])
  · have hie : i = n := by omega
    repeat (first
      | (refine WD_block (fun K hK => ?_))
      | (refine WD_seq (fun K hK => ?_))
      | (refine WD_region (fun K hK => ?_))
      | ((first | refine RunD_o rfl rfl rfl rfl rfl (fun X hX => ?_) | refine RunD_s rfl rfl rfl rfl (fun X hX => ?_) | refine RunD_g rfl rfl rfl rfl rfl rfl rfl (fun X Y hX hY => ?_) | refine RunD_gc rfl rfl rfl rfl rfl rfl (fun Y hY => ?_) | refine WD_c rfl (fun X Y hX hY => ?_)); (try dsimp only); simp (disch := first | omega | (simp; done) | fail) [wrap64c, if_pos, if_neg, opAnd, opOr, opXor, opDiff, opShr, opBit, g_h0, g1, hM1, hgt1, e3, e7, e8, e9, e10, e11, e12, hlt]; (first | refine hX _ _ ?_ | refine hX ?_ | refine hY ?_); (try clear hX X); try clear hY Y)
      | (refine RunD_nil ?_; refine hK _ _ ?_; clear hK K)
      | (refine RunD_nil ?_)
      | (refine WD_skip ?_)
      | (refine WD_exit ?_)
      | (refine WD_ret ?_)
      | (refine hK.1 _ _ ?_; clear hK K)
      | (refine hK.2.1 _ _ ?_; clear hK K)
      | (refine hK.2 _ _ _ ?hne ?_; (case hne => simp; done); clear hK K)
      | (refine hK.2.2 _ _ _ ?hne ?_; (case hne => simp; done); clear hK K))
    exact done_ret rfl (by simp [← hLe, halfN, hie, openK_eq n7 hLn, K1])

theorem runF_nil {ask : List Nat → Int} {set : Nat} {L : List Nat} (h : ask L < 0) : ∀ k, runF ask set k L = []
  | 0 => rfl
  | k + 1 => by rw [runF, if_pos h]
theorem runF_cons {ask : List Nat → Int} {set : Nat} {L : List Nat} {i k : Nat} (h : ask L = (i : Nat)) : runF ask set (k + 1) L = i :: runF ask set k (if set.testBit i = true then hasL L i else lacksL L i) := by
  rw [runF, if_neg (by omega), h, Int.toNat_natCast]
theorem runF_len (ask : List Nat → Int) (set : Nat) : ∀ k L, (runF ask set k L).length ≤ k
  | 0, _ => Nat.le_refl _
  | k + 1, L => by
    rw [runF]
    split
    · simp
    · have := runF_len ask set k (if set.testBit (ask L).toNat = true then hasL L (ask L).toNat else lacksL L (ask L).toNat)
      simp only [List.length_cons]; omega

theorem asRunH_ok (h : Hp) (v : Value) (n : Nat) (xs : List Nat) (set : Nat) (hv : Space h v n (toN xs)) (g : SpGood n xs) (hset : set ∈ xs) :
    ∃ v' h', CallOK Try.prog 76 #[v, .pointer none, .int .i64 (set : Int), .bool true] h v' h' ∧ Adds h h' ∧ IntsO (Btw h.next h'.next) h' v' (toN (runF halfN set xs.length xs)) := by
  refine call_L (args := [v, .pointer none, .int .i64 (set : Int), .bool true]) 44 _ [.tmp 8] Try.func76 rfl rfl rfl ?_
  obtain ⟨b, rfl, hX⟩ := hv
  repeat (first
    | (refine WD_block (fun K hK => ?_))
    | (refine WD_seq (fun K hK => ?_)))
  refine WD_region (fun K hK => ?_)
  repeat (first
    | ((first | refine RunD_o rfl rfl rfl rfl rfl (fun X hX => ?_) | refine RunD_s rfl rfl rfl rfl (fun X hX => ?_) | refine WD_c rfl (fun X Y hX hY => ?_)); (try dsimp only); simp (disch := first | omega | (simp; done) | fail) [wrap64c, if_pos, if_neg, opAnd, opOr, opXor, opDiff, opShr, opBit]; (first | refine hX _ _ ?_ | refine hX ?_ | refine hY ?_); (try clear hX X); try clear hY Y))
  refine RunD_heap fun h0 q_h0 => ?_
  have g_h0 : h0.get h.next = .cells [.int .i64 (n : Int), b] true true 1 := by simp [q_h0]
  have k_h0 : Adds h h0 := by rw [q_h0]; exact (by repeat (first | exact keep_self _ | exact adds_self _ | assumption | exact Adds.keeps (by assumption) | refine keeps_alloc ?_ _ | refine adds_alloc ?_ _ _ _ | refine adds_allocM ?_ _ | (refine keeps_put ?_ ?hle _; (case hle => first | omega | (simp; done) | (simp; omega))) | (refine adds_put ?_ ?hle _ _ _; (case hle => first | omega | (simp; done) | (simp; omega)))))
  have n_h0 : h.next < h0.next := by simp [q_h0]; try omega
  have hX0 := hX.keep k_h0.1
  have n7 := g.n7
  have hl7 := g.len7
  have hset7 := g.lt7 _ hset
  repeat (first
    | (refine WD_block (fun K hK => ?_))
    | (refine WD_seq (fun K hK => ?_))
    | (refine WD_region (fun K hK => ?_))
    | ((first | refine RunD_o rfl rfl rfl rfl rfl (fun X hX => ?_) | refine RunD_s rfl rfl rfl rfl (fun X hX => ?_) | refine WD_c rfl (fun X Y hX hY => ?_)); (try dsimp only); simp (disch := first | omega | (simp; done) | fail) [wrap64c, if_pos, if_neg, opAnd, opOr, opXor, opDiff, opShr, opBit, g_h0]; (first | refine hX _ _ ?_ | refine hX ?_ | refine hY ?_); (try clear hX X); try clear hY Y)
    | (refine RunD_nil ?_; refine hK _ _ ?_; clear hK K)
    | (refine RunD_nil ?_)
    | (refine WD_skip ?_)
    | (refine WD_exit ?_)
    | (refine WD_ret ?_)
    | (refine hK.1 _ _ ?_; clear hK K)
    | (refine hK.2.1 _ _ ?_; clear hK K)
    | (refine hK.2 _ _ _ ?hne ?_; (case hne => simp; done); clear hK K)
    | (refine hK.2.2 _ _ _ ?hne ?_; (case hne => simp; done); clear hK K))
  refine WD_loopF [1, 2, 3, 4] (fun m tm h' => ∃ k y z acc u, m = k + 0 * (leftN xs y z).length ∧ tm 9 = u ∧ tm 10 = .int .i64 (y : Int) ∧ tm 11 = .int .i64 (z : Int) ∧ (y < 128 ∧ z < 128) ∧ (Adds h0 h') ∧ (IntsA h0.next h' u (toN acc)) ∧ ((leftN xs y z).length ≤ k) ∧ (acc.length + k = xs.length) ∧ (set ∈ leftN xs y z) ∧ (runF halfN set xs.length xs = acc ++ runF halfN set k (leftN xs y z))) _ ⟨xs.length, 0, 0, [], _, rfl, (by simp (disch := first | omega | (simp; done) | fail) [wrap64c, if_pos, if_neg, opAnd, opOr, opXor, opDiff, opShr, opBit, g_h0]), (by simp (disch := first | omega | (simp; done) | fail) [wrap64c, if_pos, if_neg, opAnd, opOr, opXor, opDiff, opShr, opBit, g_h0]), (by simp (disch := first | omega | (simp; done) | fail) [wrap64c, if_pos, if_neg, opAnd, opOr, opXor, opDiff, opShr, opBit, g_h0]), (by first | omega | assumption | (simp (disch := first | omega | (simp; done) | fail) [wrap64c, if_pos, if_neg, opAnd, opOr, opXor, opDiff, opShr, opBit, g_h0] <;> omega)), (adds_self _), (.nil _ _), (by rw [left_zero]; exact Nat.le_refl _), (by simp), (by rw [left_zero]; exact hset), (by rw [left_zero]; rfl)⟩ ?_
  rintro m tm h' hFr ⟨k, y, z, acc, u, rfl, e9, e10, e11, hyz, ha, hu, hk, hak, hin, hr⟩ K hK
  simp only [FrameL] at hFr
  obtain ⟨f1_0, f2_0, f3_0, f4_0, -⟩ := hFr
  try simp (disch := first | omega | (simp; done) | fail) [wrap64c, if_pos, if_neg, opAnd, opOr, opXor, opDiff, opShr, opBit, g_h0] at f1_0 f2_0 f3_0 f4_0
  have e1 := f1_0
  have e2 := f2_0
  have e3 := f3_0
  have e4 := f4_0
  have g1 : h'.get h.next = .cells [.int .i64 (n : Int), b] true true 1 := by rw [ha.1.2 _ (by omega)]; exact g_h0
  have hXh := hX0.keep ha.1
  repeat (first
    | (refine WD_block (fun K hK => ?_))
    | (refine WD_seq (fun K hK => ?_))
    | (refine WD_region (fun K hK => ?_))
    | ((first | refine RunD_o rfl rfl rfl rfl rfl (fun X hX => ?_) | refine RunD_s rfl rfl rfl rfl (fun X hX => ?_) | refine WD_c rfl (fun X Y hX hY => ?_)); (try dsimp only); simp (disch := first | omega | (simp; done) | fail) [wrap64c, if_pos, if_neg, opAnd, opOr, opXor, opDiff, opShr, opBit, g_h0, e1, e2, e3, e4, e9, e10, e11, g1]; (first | refine hX _ _ ?_ | refine hX ?_ | refine hY ?_); (try clear hX X); try clear hY Y)
    | (refine RunD_nil ?_; refine hK _ _ ?_; clear hK K)
    | (refine RunD_nil ?_)
    | (refine WD_skip ?_)
    | (refine WD_exit ?_)
    | (refine WD_ret ?_)
    | (refine hK.1 _ _ ?_; clear hK K)
    | (refine hK.2.1 _ _ ?_; clear hK K)
    | (refine hK.2 _ _ _ ?hne ?_; (case hne => simp; done); clear hK K)
    | (refine hK.2.2 _ _ _ ?hne ?_; (case hne => simp; done); clear hK K))
  obtain ⟨v1, h1, hc1, ha1, hi1⟩ := spLeft_ok h' (.agg #[.int .i64 (n : Int), b]) n xs y z (.mk hXh) g.lt7 (by omega) hyz.1 hyz.2
  refine RunD_c rfl rfl rfl rfl (by simp) (by simp) ?ha (hc1) ?_
  (case ha => simp (disch := first | omega | (simp; done) | fail) [wrap64c, if_pos, if_neg, opAnd, opOr, opXor, opDiff, opShr, opBit, g_h0, e1, e2, e3, e4, e9, e10, e11, g1])
  obtain ⟨L, hLe⟩ : ∃ L, L = leftN xs y z := ⟨_, rfl⟩
  have hLn : ∀ x ∈ L, x < bit n := fun x hm => g.lt x (left_sub (hLe ▸ hm))
  have hLs : L.Pairwise (· < ·) := hLe ▸ left_srt g.srt y z
  have hLl : L.length ≤ 128 := by have := left_len xs y z; rw [hLe]; omega
  have hop := open_ne n7 hLs hLn
  rw [← hLe] at hi1 hk hin hr
  have hM1 := hi1.ints.lenD
  have hln1 := toN_length L
  have g2 : h1.get h.next = .cells [.int .i64 (n : Int), b] true true 1 := by rw [ha1.1.2 _ (by have := ha.1.1; omega)]; exact g1
  have hu1 := hu.keep ha1.1
  have A1 := ha.trans ha1
  have hXh1 := hXh.keep ha1.1
  have hn1 := A1.1.1
  by_cases h1L : 1 < L.length
  · obtain ⟨i, hi1', hi2⟩ := halfN_mem (hop.2 h1L)
    have hi7 : i < 7 := (mem_openK.1 hi2).1
    have hlen := has_len (mem_openK.1 hi2).2
    obtain ⟨k1, hk1⟩ : ∃ q, k = q + 1 := ⟨k - 1, by omega⟩
    rw [hk1, runF_cons hi1'] at hr
    have hb7 := bit_lt7 hi7
    have hy2 := nOr128 (b := bit i) hyz.1 (by omega)
    have hz2 := nOr128 (b := bit i) hyz.2 (by omega)
    repeat (first
      | (refine WD_block (fun K hK => ?_))
      | (refine WD_seq (fun K hK => ?_))
      | (refine WD_region (fun K hK => ?_))
      | ((first | refine RunD_o rfl rfl rfl rfl rfl (fun X hX => ?_) | refine RunD_s rfl rfl rfl rfl (fun X hX => ?_) | refine WD_c rfl (fun X Y hX hY => ?_)); (try dsimp only); simp (disch := first | omega | (simp; done) | fail) [wrap64c, if_pos, if_neg, opAnd, opOr, opXor, opDiff, opShr, opBit, g_h0, e1, e2, e3, e4, e9, e10, e11, g1, hM1, hln1, g2, h1L]; (first | refine hX _ _ ?_ | refine hX ?_ | refine hY ?_); (try clear hX X); try clear hY Y)
      | (refine RunD_nil ?_; refine hK _ _ ?_; clear hK K)
      | (refine RunD_nil ?_)
      | (refine WD_skip ?_)
      | (refine WD_exit ?_)
      | (refine WD_ret ?_)
      | (refine hK.1 _ _ ?_; clear hK K)
      | (refine hK.2.1 _ _ ?_; clear hK K)
      | (refine hK.2 _ _ _ ?hne ?_; (case hne => simp; done); clear hK K)
      | (refine hK.2.2 _ _ _ ?hne ?_; (case hne => simp; done); clear hK K))
    have hah := asHalf_ok h1 (.agg #[.int .i64 (n : Int), b]) n xs y z (.mk hXh1) g hyz.1 hyz.2 (by rw [← hLe]; intro e; rw [e] at h1L; simp at h1L)
    rw [← hLe, hi1'] at hah
    refine RunD_c rfl rfl rfl rfl (by simp) (by simp) ?ha (hah) ?_
    (case ha => simp (disch := first | omega | (simp; done) | fail) [wrap64c, if_pos, if_neg, opAnd, opOr, opXor, opDiff, opShr, opBit, g_h0, e1, e2, e3, e4, e9, e10, e11, g1, hM1, hln1, g2, h1L])
    repeat (first
      | (refine WD_block (fun K hK => ?_))
      | (refine WD_seq (fun K hK => ?_))
      | (refine WD_region (fun K hK => ?_))
      | ((first | refine RunD_o rfl rfl rfl rfl rfl (fun X hX => ?_) | refine RunD_s rfl rfl rfl rfl (fun X hX => ?_) | refine WD_c rfl (fun X Y hX hY => ?_)); (try dsimp only); simp (disch := first | omega | (simp; done) | fail) [wrap64c, if_pos, if_neg, opAnd, opOr, opXor, opDiff, opShr, opBit, g_h0, e1, e2, e3, e4, e9, e10, e11, g1, hM1, hln1, g2, h1L]; (first | refine hX _ _ ?_ | refine hX ?_ | refine hY ?_); (try clear hX X); try clear hY Y)
      | (refine RunD_nil ?_; refine hK _ _ ?_; clear hK K)
      | (refine RunD_nil ?_)
      | (refine WD_skip ?_)
      | (refine WD_exit ?_)
      | (refine WD_ret ?_)
      | (refine hK.1 _ _ ?_; clear hK K)
      | (refine hK.2.1 _ _ ?_; clear hK K)
      | (refine hK.2 _ _ _ ?hne ?_; (case hne => simp; done); clear hK K)
      | (refine hK.2.2 _ _ _ ?hne ?_; (case hne => simp; done); clear hK K))
    obtain ⟨u2, h2, hap, hu2, ha2, hn2, hs2⟩ := appI hu1 (i : Int) (by simp; omega) hn1 A1 (Nat.le_refl _)
    repeat (first
      | (refine WD_block (fun K hK => ?_))
      | (refine WD_seq (fun K hK => ?_))
      | (refine WD_region (fun K hK => ?_))
      | ((first | refine RunD_o rfl rfl rfl rfl rfl (fun X hX => ?_) | refine RunD_s rfl rfl rfl rfl (fun X hX => ?_) | refine WD_c rfl (fun X Y hX hY => ?_)); (try dsimp only); simp (disch := first | omega | (simp; done) | fail) [wrap64c, if_pos, if_neg, opAnd, opOr, opXor, opDiff, opShr, opBit, g_h0, e1, e2, e3, e4, e9, e10, e11, g1, hM1, hln1, g2, h1L, hap]; (first | refine hX _ _ ?_ | refine hX ?_ | refine hY ?_); (try clear hX X); try clear hY Y)
      | (refine RunD_nil ?_; refine hK _ _ ?_; clear hK K)
      | (refine RunD_nil ?_)
      | (refine WD_skip ?_)
      | (refine WD_exit ?_)
      | (refine WD_ret ?_)
      | (refine hK.1 _ _ ?_; clear hK K)
      | (refine hK.2.1 _ _ ?_; clear hK K)
      | (refine hK.2 _ _ _ ?hne ?_; (case hne => simp; done); clear hK K)
      | (refine hK.2.2 _ _ _ ?hne ?_; (case hne => simp; done); clear hK K))
    refine RunD_c rfl rfl rfl rfl (by simp) (by simp) ?ha (spIn_ok h2 set i (by omega) (by omega)) ?_
    (case ha => simp (disch := first | omega | (simp; done) | fail) [wrap64c, if_pos, if_neg, opAnd, opOr, opXor, opDiff, opShr, opBit, g_h0, e1, e2, e3, e4, e9, e10, e11, g1, hM1, hln1, g2, h1L])
    cases hsb : set.testBit i
    · rw [hsb] at hr
      have hin' : set ∈ lacksL L i := List.mem_filter.2 ⟨hin, by simp [hsb]⟩
      repeat (first
        | (refine WD_block (fun K hK => ?_))
        | (refine WD_seq (fun K hK => ?_))
        | (refine WD_region (fun K hK => ?_))
        | ((first | refine RunD_o rfl rfl rfl rfl rfl (fun X hX => ?_) | refine RunD_s rfl rfl rfl rfl (fun X hX => ?_) | refine WD_c rfl (fun X Y hX hY => ?_)); (try dsimp only); simp (disch := first | omega | (simp; done) | fail) [wrap64c, if_pos, if_neg, opAnd, opOr, opXor, opDiff, opShr, opBit, g_h0, e1, e2, e3, e4, e9, e10, e11, g1, hM1, hln1, g2, h1L, hsb]; (first | refine hX _ _ ?_ | refine hX ?_ | refine hY ?_); (try clear hX X); try clear hY Y)
        | (refine RunD_nil ?_; refine hK _ _ ?_; clear hK K)
        | (refine RunD_nil ?_)
        | (refine WD_skip ?_)
        | (refine WD_exit ?_)
        | (refine WD_ret ?_)
        | (refine hK.1 _ _ ?_; clear hK K)
        | (refine hK.2.1 _ _ ?_; clear hK K)
        | (refine hK.2 _ _ _ ?hne ?_; (case hne => simp; done); clear hK K)
        | (refine hK.2.2 _ _ _ ?hne ?_; (case hne => simp; done); clear hK K))
      refine hK.1 _ _ _ ?hm ?hf ⟨k1, y, nOr z (bit i), acc ++ [i], u2, rfl, (by simp (disch := first | omega | (simp; done) | fail) [wrap64c, if_pos, if_neg, opAnd, opOr, opXor, opDiff, opShr, opBit, g_h0, e1, e2, e3, e4, e9, e10, e11, g1, hM1, hln1, g2, h1L, hsb] <;> omega), (by simp (disch := first | omega | (simp; done) | fail) [wrap64c, if_pos, if_neg, opAnd, opOr, opXor, opDiff, opShr, opBit, g_h0, e1, e2, e3, e4, e9, e10, e11, g1, hM1, hln1, g2, h1L, hsb] <;> omega), (by simp (disch := first | omega | (simp; done) | fail) [wrap64c, if_pos, if_neg, opAnd, opOr, opXor, opDiff, opShr, opBit, g_h0, e1, e2, e3, e4, e9, e10, e11, g1, hM1, hln1, g2, h1L, hsb] <;> omega), (by first | omega | assumption | (simp (disch := first | omega | (simp; done) | fail) [wrap64c, if_pos, if_neg, opAnd, opOr, opXor, opDiff, opShr, opBit, g_h0, e1, e2, e3, e4, e9, e10, e11, g1, hM1, hln1, g2, h1L, hsb] <;> omega)), ha2, (by rw [toN_snoc]; exact hu2), (by rw [left_no, ← hLe]; omega), (by simp; omega), (by rw [left_no, ← hLe]; exact hin'), (by rw [left_no, ← hLe, hr]; simp)⟩
      (case hm => first | omega | (simp; omega))
      (case hf => simp [FrameL, g_h0, e1, e2, e3, e4, e9, e10, e11, g1, hM1, hln1, g2, h1L, hsb, f1_0, f2_0, f3_0, f4_0])
    · rw [hsb] at hr
      have hin' : set ∈ hasL L i := List.mem_filter.2 ⟨hin, hsb⟩
      repeat (first
        | (refine WD_block (fun K hK => ?_))
        | (refine WD_seq (fun K hK => ?_))
        | (refine WD_region (fun K hK => ?_))
        | ((first | refine RunD_o rfl rfl rfl rfl rfl (fun X hX => ?_) | refine RunD_s rfl rfl rfl rfl (fun X hX => ?_) | refine WD_c rfl (fun X Y hX hY => ?_)); (try dsimp only); simp (disch := first | omega | (simp; done) | fail) [wrap64c, if_pos, if_neg, opAnd, opOr, opXor, opDiff, opShr, opBit, g_h0, e1, e2, e3, e4, e9, e10, e11, g1, hM1, hln1, g2, h1L, hsb]; (first | refine hX _ _ ?_ | refine hX ?_ | refine hY ?_); (try clear hX X); try clear hY Y)
        | (refine RunD_nil ?_; refine hK _ _ ?_; clear hK K)
        | (refine RunD_nil ?_)
        | (refine WD_skip ?_)
        | (refine WD_exit ?_)
        | (refine WD_ret ?_)
        | (refine hK.1 _ _ ?_; clear hK K)
        | (refine hK.2.1 _ _ ?_; clear hK K)
        | (refine hK.2 _ _ _ ?hne ?_; (case hne => simp; done); clear hK K)
        | (refine hK.2.2 _ _ _ ?hne ?_; (case hne => simp; done); clear hK K))
      refine hK.1 _ _ _ ?hm ?hf ⟨k1, nOr y (bit i), z, acc ++ [i], u2, rfl, (by simp (disch := first | omega | (simp; done) | fail) [wrap64c, if_pos, if_neg, opAnd, opOr, opXor, opDiff, opShr, opBit, g_h0, e1, e2, e3, e4, e9, e10, e11, g1, hM1, hln1, g2, h1L, hsb] <;> omega), (by simp (disch := first | omega | (simp; done) | fail) [wrap64c, if_pos, if_neg, opAnd, opOr, opXor, opDiff, opShr, opBit, g_h0, e1, e2, e3, e4, e9, e10, e11, g1, hM1, hln1, g2, h1L, hsb] <;> omega), (by simp (disch := first | omega | (simp; done) | fail) [wrap64c, if_pos, if_neg, opAnd, opOr, opXor, opDiff, opShr, opBit, g_h0, e1, e2, e3, e4, e9, e10, e11, g1, hM1, hln1, g2, h1L, hsb] <;> omega), (by first | omega | assumption | (simp (disch := first | omega | (simp; done) | fail) [wrap64c, if_pos, if_neg, opAnd, opOr, opXor, opDiff, opShr, opBit, g_h0, e1, e2, e3, e4, e9, e10, e11, g1, hM1, hln1, g2, h1L, hsb] <;> omega)), ha2, (by rw [toN_snoc]; exact hu2), (by rw [left_yes, ← hLe]; omega), (by simp; omega), (by rw [left_yes, ← hLe]; exact hin'), (by rw [left_yes, ← hLe, hr]; simp)⟩
      (case hm => first | omega | (simp; omega))
      (case hf => simp [FrameL, g_h0, e1, e2, e3, e4, e9, e10, e11, g1, hM1, hln1, g2, h1L, hsb, f1_0, f2_0, f3_0, f4_0])
  · have hon : openN L = [] := by
      apply Classical.byContradiction
      intro hn
      exact h1L (hop.1 hn)
    rw [runF_nil (L := L) (by rw [halfN_nil hon]; omega), List.append_nil] at hr
    repeat (first
      | (refine WD_block (fun K hK => ?_))
      | (refine WD_seq (fun K hK => ?_))
      | (refine WD_region (fun K hK => ?_))
      | ((first | refine RunD_o rfl rfl rfl rfl rfl (fun X hX => ?_) | refine RunD_s rfl rfl rfl rfl (fun X hX => ?_) | refine WD_c rfl (fun X Y hX hY => ?_)); (try dsimp only); simp (disch := first | omega | (simp; done) | fail) [wrap64c, if_pos, if_neg, opAnd, opOr, opXor, opDiff, opShr, opBit, g_h0, e1, e2, e3, e4, e9, e10, e11, g1, hM1, hln1, g2, h1L]; (first | refine hX _ _ ?_ | refine hX ?_ | refine hY ?_); (try clear hX X); try clear hY Y)
      | (refine RunD_nil ?_; refine hK _ _ ?_; clear hK K)
      | (refine RunD_nil ?_)
      | (refine WD_skip ?_)
      | (refine WD_exit ?_)
      | (refine WD_ret ?_)
      | (refine hK.1 _ _ ?_; clear hK K)
      | (refine hK.2.1 _ _ ?_; clear hK K)
      | (refine hK.2 _ _ _ ?hne ?_; (case hne => simp; done); clear hK K)
      | (refine hK.2.2 _ _ _ ?hne ?_; (case hne => simp; done); clear hK K))
    refine done_ret rfl ⟨k_h0.trans A1, ?_⟩
    rw [hr]
    exact (hu1.own (by simp; omega)).sub fun o ho => ⟨by have := ho.1; omega, ho.2⟩

theorem ia_upd {n : Nat} {S : Nat → Prop} {h h' : Hp} {v : Value} {xs : List Int} (hs : IntsA n h v xs) (hu : Upd S h h') (ho : ∀ o, S o → o < n) : IntsA n h' v xs := by
  rcases hs with ⟨e1, e2⟩ | ⟨o, ex, rfl, q1, q2, q3⟩
  · exact .inl ⟨e1, e2⟩
  · exact .inr ⟨o, ex, rfl, q1, Nat.lt_of_lt_of_le q2 hu.1, by rw [hu.2 o q2 (fun hf => by have := ho o hf; omega)]; exact q3⟩
/-- What is new behind a change is the change's own. -/
theorem wr_mid {S : Nat → Prop} {h h' : Hp} (k : Wr S h h') : Adds ⟨h'.get, h.next⟩ h' := ⟨⟨k.upd.1, fun _ _ => rfl⟩, fun o h1 h2 hl => k.new o h1 h2 hl⟩
theorem wr_app {S : Nat → Prop} {h h' h2 : Hp} (k : Wr S h h') (a : Adds ⟨h'.get, h.next⟩ h2) : Wr S h h2 where
  upd := ⟨a.1.1, fun o ho hs => (a.1.2 o ho).trans (k.upd.2 o ho hs)⟩
  own o ho hs hl := by
    have e : h2.get o = h'.get o := a.1.2 o ho
    rw [e] at hl ⊢
    exact k.own o ho hs hl
  new o h1 h2 hl := a.2 o h1 h2 hl

/-- The program's run of questions, whatever the questions are. -/
theorem run_ok (ask : List Nat → Int) (hask : ∀ L, ask L < 0 ∨ ∃ i, ask L = (i : Nat) ∧ i ∈ openN L) (fid : Nat) (recv : Value) (S : Nat → Prop) (P : Hp → Prop) (base : Nat) (xs : List Nat)
    (hstab : ∀ h h', P h → base ≤ h.next → h.next ≤ h'.next → (∀ o, o < base → h'.get o = h.get o) → P h')
    (hf : ∀ h (y z : Nat), P h → base ≤ h.next → y < 128 → z < 128 → ∃ v h', CallOK Try.prog fid #[recv, .int .i64 (y : Int), .int .i64 (z : Int)] h v h' ∧ v = .int .i64 (ask (leftN xs y z)) ∧ Wr S h h' ∧ P h')
    (hS : ∀ o, S o → o < base) (hfn : fnOK Try.prog fid = true) (h : Hp) (hP : P h) (hb : base ≤ h.next) (set : Nat) (hset : set < 128) (hl : xs.length < 2 ^ 39) :
    ∃ v' h', CallOK Try.prog 77 #[.int .i64 (set : Int), .func (.func fid) #[recv] #[]] h v' h' ∧ Wr S h h' ∧ P h' ∧ IntsO (Btw h.next h'.next) h' v' (toN (runF ask set xs.length xs)) := by
  refine call_L (args := [.int .i64 (set : Int), .func (.func fid) #[recv] #[]]) 38 _ [.tmp 4] Try.func77 rfl rfl rfl ?_
  have hfn1 := hfn
  repeat (first
    | (refine WD_block (fun K hK => ?_))
    | (refine WD_seq (fun K hK => ?_))
    | (refine WD_region (fun K hK => ?_))
    | ((first | refine RunD_o rfl rfl rfl rfl rfl (fun X hX => ?_) | refine RunD_s rfl rfl rfl rfl (fun X hX => ?_) | refine WD_c rfl (fun X Y hX hY => ?_)); (try dsimp only); simp (disch := first | omega | (simp; done) | fail) [wrap64c, if_pos, if_neg, opAnd, opOr, opXor, opDiff, opShr, opBit, hfn1]; (first | refine hX _ _ ?_ | refine hX ?_ | refine hY ?_); (try clear hX X); try clear hY Y)
    | (refine RunD_nil ?_; refine hK _ _ ?_; clear hK K)
    | (refine RunD_nil ?_)
    | (refine WD_skip ?_)
    | (refine WD_exit ?_)
    | (refine WD_ret ?_)
    | (refine hK.1 _ _ ?_; clear hK K)
    | (refine hK.2.1 _ _ ?_; clear hK K)
    | (refine hK.2 _ _ _ ?hne ?_; (case hne => simp; done); clear hK K)
    | (refine hK.2.2 _ _ _ ?hne ?_; (case hne => simp; done); clear hK K))
  first | refine WD_heap fun h0 q_h0 => ?_ | refine RunD_heap fun h0 q_h0 => ?_ | refine PreD_heap fun h0 q_h0 => ?_ | refine Done_heap fun h0 q_h0 => ?_
  have k0 : Adds h h0 := by rw [q_h0]; exact (by repeat (first | exact keep_self _ | exact adds_self _ | assumption | exact Adds.keeps (by assumption) | refine keeps_alloc ?_ _ | refine adds_alloc ?_ _ _ _ | refine adds_allocM ?_ _ | (refine keeps_put ?_ ?hle _; (case hle => first | omega | (simp; done) | (simp; omega))) | (refine adds_put ?_ ?hle _ _ _; (case hle => first | omega | (simp; done) | (simp; omega)))))
  have W0 : Wr S h h0 := .of_adds k0
  have P0 : P h0 := hstab h h0 hP hb k0.1.1 fun o ho => k0.1.2 o (by omega)
  have hn0 : h0.next = h.next + 1 := by rw [q_h0]; simp
  have hgz : h0.get h.next = .cells [] true true 1 := by rw [q_h0]; simp
  obtain ⟨_, h1, hc1, rfl, W1, P1⟩ := hf h0 0 0 P0 (by omega) (by omega) (by omega)
  refine RunD_cf (fst := #[recv]) (cap := #[]) rfl rfl rfl rfl (by simp) (by simp) ?hf ?hk ?ha (hc1) ?_
  (case hf => simp (disch := first | omega | (simp; done) | fail) [wrap64c, if_pos, if_neg, opAnd, opOr, opXor, opDiff, opShr, opBit, hfn1]; try rfl)
  (case hk => simp (disch := first | omega | (simp; done) | fail) [wrap64c, if_pos, if_neg, opAnd, opOr, opXor, opDiff, opShr, opBit, hfn1])
  (case ha => simp (disch := first | omega | (simp; done) | fail) [wrap64c, if_pos, if_neg, opAnd, opOr, opXor, opDiff, opShr, opBit, hfn1])
  have hgz1 : h1.get h.next = .cells [] true true 1 := by rw [W1.upd.2 _ (by rw [q_h0]; simp) (fun hs => by have := hS _ hs; omega)]; exact hgz
  have hn1 := W1.upd.1
  repeat (first
    | (refine WD_block (fun K hK => ?_))
    | (refine WD_seq (fun K hK => ?_))
    | (refine WD_region (fun K hK => ?_))
    | ((first | refine RunD_o rfl rfl rfl rfl rfl (fun X hX => ?_) | refine RunD_s rfl rfl rfl rfl (fun X hX => ?_) | refine WD_c rfl (fun X Y hX hY => ?_)); (try dsimp only); simp (disch := first | omega | (simp; done) | fail) [wrap64c, if_pos, if_neg, opAnd, opOr, opXor, opDiff, opShr, opBit, hfn1]; (first | refine hX _ _ ?_ | refine hX ?_ | refine hY ?_); (try clear hX X); try clear hY Y)
    | (refine RunD_nil ?_; refine hK _ _ ?_; clear hK K)
    | (refine RunD_nil ?_)
    | (refine WD_skip ?_)
    | (refine WD_exit ?_)
    | (refine WD_ret ?_)
    | (refine hK.1 _ _ ?_; clear hK K)
    | (refine hK.2.1 _ _ ?_; clear hK K)
    | (refine hK.2 _ _ _ ?hne ?_; (case hne => simp; done); clear hK K)
    | (refine hK.2.2 _ _ _ ?hne ?_; (case hne => simp; done); clear hK K))
  refine WD_loopF [0, 1] (fun m tm h' => ∃ k y z acc u, m = k + 0 * (leftN xs y z).length ∧ tm 5 = u ∧ tm 6 = .int .i64 (y : Int) ∧ tm 7 = .int .i64 (z : Int) ∧ tm 8 = .int .i64 (ask (leftN xs y z)) ∧ (y < 128 ∧ z < 128) ∧ (Wr S h h') ∧ (P h') ∧ (IntsA h.next h' u (toN acc)) ∧ ((leftN xs y z).length ≤ k) ∧ (acc.length + k = xs.length) ∧ (runF ask set xs.length xs = acc ++ runF ask set k (leftN xs y z))) _ ⟨xs.length, 0, 0, [], _, rfl, (by simp (disch := first | omega | (simp; done) | fail) [wrap64c, if_pos, if_neg, opAnd, opOr, opXor, opDiff, opShr, opBit, hfn1]), (by simp (disch := first | omega | (simp; done) | fail) [wrap64c, if_pos, if_neg, opAnd, opOr, opXor, opDiff, opShr, opBit, hfn1]), (by simp (disch := first | omega | (simp; done) | fail) [wrap64c, if_pos, if_neg, opAnd, opOr, opXor, opDiff, opShr, opBit, hfn1]), (by simp (disch := first | omega | (simp; done) | fail) [wrap64c, if_pos, if_neg, opAnd, opOr, opXor, opDiff, opShr, opBit, hfn1]), (by first | omega | assumption | (simp (disch := first | omega | (simp; done) | fail) [wrap64c, if_pos, if_neg, opAnd, opOr, opXor, opDiff, opShr, opBit, hfn1] <;> omega)), (W0.trans W1), P1, (.lit (ex := true) (Nat.le_refl _) (by omega) hgz1), (by rw [left_zero]; exact Nat.le_refl _), (by simp), (by rw [left_zero]; rfl)⟩ ?_
  rintro m tm h' hFr ⟨k, y, z, acc, u, rfl, e5, e6, e7, e8, hyz, hW, hPP, hu, hk, hak, hr⟩ K hK
  simp only [FrameL] at hFr
  obtain ⟨f0_0, f1_0, -⟩ := hFr
  try simp (disch := first | omega | (simp; done) | fail) [wrap64c, if_pos, if_neg, opAnd, opOr, opXor, opDiff, opShr, opBit, hfn1] at f0_0 f1_0
  have e0 := f0_0
  have e1 := f1_0
  obtain ⟨L, hLe⟩ : ∃ L, L = leftN xs y z := ⟨_, rfl⟩
  rw [← hLe] at hk hr e8
  have hn2 := hW.upd.1
  rcases hask L with hneg | ⟨i, hi1, hi2⟩
  · have hneg' : ¬ (0 ≤ ask L) := by omega
    rw [runF_nil (L := L) hneg, List.append_nil] at hr
    repeat (first
      | (refine WD_block (fun K hK => ?_))
      | (refine WD_seq (fun K hK => ?_))
      | (refine WD_region (fun K hK => ?_))
      | ((first | refine RunD_o rfl rfl rfl rfl rfl (fun X hX => ?_) | refine RunD_s rfl rfl rfl rfl (fun X hX => ?_) | refine WD_c rfl (fun X Y hX hY => ?_)); (try dsimp only); simp (disch := first | omega | (simp; done) | fail) [wrap64c, if_pos, if_neg, opAnd, opOr, opXor, opDiff, opShr, opBit, hfn1, e0, e1, e5, e6, e7, e8, hneg']; (first | refine hX _ _ ?_ | refine hX ?_ | refine hY ?_); (try clear hX X); try clear hY Y)
      | (refine RunD_nil ?_; refine hK _ _ ?_; clear hK K)
      | (refine RunD_nil ?_)
      | (refine WD_skip ?_)
      | (refine WD_exit ?_)
      | (refine WD_ret ?_)
      | (refine hK.1 _ _ ?_; clear hK K)
      | (refine hK.2.1 _ _ ?_; clear hK K)
      | (refine hK.2 _ _ _ ?hne ?_; (case hne => simp; done); clear hK K)
      | (refine hK.2.2 _ _ _ ?hne ?_; (case hne => simp; done); clear hK K))
    refine done_ret rfl ⟨hW, hPP, ?_⟩
    rw [hr]
    exact hu.own (by simp; omega)
  · have hi7 : i < 7 := (mem_openK.1 hi2).1
    have hlen := has_len (mem_openK.1 hi2).2
    obtain ⟨k1, hk1⟩ : ∃ q, k = q + 1 := ⟨k - 1, by omega⟩
    rw [hk1, runF_cons hi1] at hr
    rw [hi1] at e8
    have hb7 := bit_lt7 hi7
    have hy2 := nOr128 (b := bit i) hyz.1 (by omega)
    have hz2 := nOr128 (b := bit i) hyz.2 (by omega)
    have hsl := nShr_le set i
    have h01 := nShr_and01 set i
    repeat (first
      | (refine WD_block (fun K hK => ?_))
      | (refine WD_seq (fun K hK => ?_))
      | (refine WD_region (fun K hK => ?_))
      | ((first | refine RunD_o rfl rfl rfl rfl rfl (fun X hX => ?_) | refine RunD_s rfl rfl rfl rfl (fun X hX => ?_) | refine WD_c rfl (fun X Y hX hY => ?_)); (try dsimp only); simp (disch := first | omega | (simp; done) | fail) [wrap64c, if_pos, if_neg, opAnd, opOr, opXor, opDiff, opShr, opBit, hfn1, e0, e1, e5, e6, e7, e8]; (first | refine hX _ _ ?_ | refine hX ?_ | refine hY ?_); (try clear hX X); try clear hY Y)
      | (refine RunD_nil ?_; refine hK _ _ ?_; clear hK K)
      | (refine RunD_nil ?_)
      | (refine WD_skip ?_)
      | (refine WD_exit ?_)
      | (refine WD_ret ?_)
      | (refine hK.1 _ _ ?_; clear hK K)
      | (refine hK.2.1 _ _ ?_; clear hK K)
      | (refine hK.2 _ _ _ ?hne ?_; (case hne => simp; done); clear hK K)
      | (refine hK.2.2 _ _ _ ?hne ?_; (case hne => simp; done); clear hK K))
    obtain ⟨u2, h2, hap, hu2, ha2, hn3, hs2⟩ := appI hu (i : Int) (by simp; omega) hn2 (wr_mid hW) (Nat.le_refl _)
    have W2 := wr_app hW ha2
    have P2 : P h2 := hstab h' h2 hPP (by omega) (by omega) fun o ho => ha2.1.2 o (by show o < h.next; omega)
    cases hsb : set.testBit i
    · have h3 : nAnd (nShr set i) 1 = 0 := by rw [h01, hsb]; rfl
      rw [hsb] at hr
      repeat (first
        | (refine WD_block (fun K hK => ?_))
        | (refine WD_seq (fun K hK => ?_))
        | (refine WD_region (fun K hK => ?_))
        | ((first | refine RunD_o rfl rfl rfl rfl rfl (fun X hX => ?_) | refine RunD_s rfl rfl rfl rfl (fun X hX => ?_) | refine WD_c rfl (fun X Y hX hY => ?_)); (try dsimp only); simp (disch := first | omega | (simp; done) | fail) [wrap64c, if_pos, if_neg, opAnd, opOr, opXor, opDiff, opShr, opBit, hfn1, e0, e1, e5, e6, e7, e8, h3, hap]; (first | refine hX _ _ ?_ | refine hX ?_ | refine hY ?_); (try clear hX X); try clear hY Y)
        | (refine RunD_nil ?_; refine hK _ _ ?_; clear hK K)
        | (refine RunD_nil ?_)
        | (refine WD_skip ?_)
        | (refine WD_exit ?_)
        | (refine WD_ret ?_)
        | (refine hK.1 _ _ ?_; clear hK K)
        | (refine hK.2.1 _ _ ?_; clear hK K)
        | (refine hK.2 _ _ _ ?hne ?_; (case hne => simp; done); clear hK K)
        | (refine hK.2.2 _ _ _ ?hne ?_; (case hne => simp; done); clear hK K))
      obtain ⟨_, h3', hc3, rfl, W3, P3⟩ := hf h2 y (nOr z (bit i)) P2 (by omega) hyz.1 hz2
      refine RunD_cf (fst := #[recv]) (cap := #[]) rfl rfl rfl rfl (by simp) (by simp) ?hf ?hk ?ha (hc3) ?_
      (case hf => simp (disch := first | omega | (simp; done) | fail) [wrap64c, if_pos, if_neg, opAnd, opOr, opXor, opDiff, opShr, opBit, hfn1, e0, e1, e5, e6, e7, e8, h3]; try rfl)
      (case hk => simp (disch := first | omega | (simp; done) | fail) [wrap64c, if_pos, if_neg, opAnd, opOr, opXor, opDiff, opShr, opBit, hfn1, e0, e1, e5, e6, e7, e8, h3])
      (case ha => simp (disch := first | omega | (simp; done) | fail) [wrap64c, if_pos, if_neg, opAnd, opOr, opXor, opDiff, opShr, opBit, hfn1, e0, e1, e5, e6, e7, e8, h3])
      repeat (first
        | (refine WD_block (fun K hK => ?_))
        | (refine WD_seq (fun K hK => ?_))
        | (refine WD_region (fun K hK => ?_))
        | ((first | refine RunD_o rfl rfl rfl rfl rfl (fun X hX => ?_) | refine RunD_s rfl rfl rfl rfl (fun X hX => ?_) | refine WD_c rfl (fun X Y hX hY => ?_)); (try dsimp only); simp (disch := first | omega | (simp; done) | fail) [wrap64c, if_pos, if_neg, opAnd, opOr, opXor, opDiff, opShr, opBit, hfn1, e0, e1, e5, e6, e7, e8, h3]; (first | refine hX _ _ ?_ | refine hX ?_ | refine hY ?_); (try clear hX X); try clear hY Y)
        | (refine RunD_nil ?_; refine hK _ _ ?_; clear hK K)
        | (refine RunD_nil ?_)
        | (refine WD_skip ?_)
        | (refine WD_exit ?_)
        | (refine WD_ret ?_)
        | (refine hK.1 _ _ ?_; clear hK K)
        | (refine hK.2.1 _ _ ?_; clear hK K)
        | (refine hK.2 _ _ _ ?hne ?_; (case hne => simp; done); clear hK K)
        | (refine hK.2.2 _ _ _ ?hne ?_; (case hne => simp; done); clear hK K))
      refine hK.1 _ _ _ ?hm ?hf ⟨k1, y, nOr z (bit i), acc ++ [i], u2, rfl, (by simp (disch := first | omega | (simp; done) | fail) [wrap64c, if_pos, if_neg, opAnd, opOr, opXor, opDiff, opShr, opBit, hfn1, e0, e1, e5, e6, e7, e8, h3] <;> omega), (by simp (disch := first | omega | (simp; done) | fail) [wrap64c, if_pos, if_neg, opAnd, opOr, opXor, opDiff, opShr, opBit, hfn1, e0, e1, e5, e6, e7, e8, h3] <;> omega), (by simp (disch := first | omega | (simp; done) | fail) [wrap64c, if_pos, if_neg, opAnd, opOr, opXor, opDiff, opShr, opBit, hfn1, e0, e1, e5, e6, e7, e8, h3] <;> omega), (by simp (disch := first | omega | (simp; done) | fail) [wrap64c, if_pos, if_neg, opAnd, opOr, opXor, opDiff, opShr, opBit, hfn1, e0, e1, e5, e6, e7, e8, h3] <;> omega), (by first | omega | assumption | (simp (disch := first | omega | (simp; done) | fail) [wrap64c, if_pos, if_neg, opAnd, opOr, opXor, opDiff, opShr, opBit, hfn1, e0, e1, e5, e6, e7, e8, h3] <;> omega)), (W2.trans W3), P3, (by rw [toN_snoc]; exact ia_upd hu2 W3.upd (fun o ho => by have := hS o ho; omega)), (by rw [left_no, ← hLe]; omega), (by simp; omega), (by rw [left_no, ← hLe, hr]; simp)⟩
      (case hm => first | omega | (simp; omega))
      (case hf => simp [FrameL, hfn1, e0, e1, e5, e6, e7, e8, h3, f0_0, f1_0])
    · have h3 : nAnd (nShr set i) 1 = 1 := by rw [h01, hsb]; rfl
      rw [hsb] at hr
      repeat (first
        | (refine WD_block (fun K hK => ?_))
        | (refine WD_seq (fun K hK => ?_))
        | (refine WD_region (fun K hK => ?_))
        | ((first | refine RunD_o rfl rfl rfl rfl rfl (fun X hX => ?_) | refine RunD_s rfl rfl rfl rfl (fun X hX => ?_) | refine WD_c rfl (fun X Y hX hY => ?_)); (try dsimp only); simp (disch := first | omega | (simp; done) | fail) [wrap64c, if_pos, if_neg, opAnd, opOr, opXor, opDiff, opShr, opBit, hfn1, e0, e1, e5, e6, e7, e8, h3, hap]; (first | refine hX _ _ ?_ | refine hX ?_ | refine hY ?_); (try clear hX X); try clear hY Y)
        | (refine RunD_nil ?_; refine hK _ _ ?_; clear hK K)
        | (refine RunD_nil ?_)
        | (refine WD_skip ?_)
        | (refine WD_exit ?_)
        | (refine WD_ret ?_)
        | (refine hK.1 _ _ ?_; clear hK K)
        | (refine hK.2.1 _ _ ?_; clear hK K)
        | (refine hK.2 _ _ _ ?hne ?_; (case hne => simp; done); clear hK K)
        | (refine hK.2.2 _ _ _ ?hne ?_; (case hne => simp; done); clear hK K))
      obtain ⟨_, h3', hc3, rfl, W3, P3⟩ := hf h2 (nOr y (bit i)) z P2 (by omega) hy2 hyz.2
      refine RunD_cf (fst := #[recv]) (cap := #[]) rfl rfl rfl rfl (by simp) (by simp) ?hf ?hk ?ha (hc3) ?_
      (case hf => simp (disch := first | omega | (simp; done) | fail) [wrap64c, if_pos, if_neg, opAnd, opOr, opXor, opDiff, opShr, opBit, hfn1, e0, e1, e5, e6, e7, e8, h3]; try rfl)
      (case hk => simp (disch := first | omega | (simp; done) | fail) [wrap64c, if_pos, if_neg, opAnd, opOr, opXor, opDiff, opShr, opBit, hfn1, e0, e1, e5, e6, e7, e8, h3])
      (case ha => simp (disch := first | omega | (simp; done) | fail) [wrap64c, if_pos, if_neg, opAnd, opOr, opXor, opDiff, opShr, opBit, hfn1, e0, e1, e5, e6, e7, e8, h3])
      repeat (first
        | (refine WD_block (fun K hK => ?_))
        | (refine WD_seq (fun K hK => ?_))
        | (refine WD_region (fun K hK => ?_))
        | ((first | refine RunD_o rfl rfl rfl rfl rfl (fun X hX => ?_) | refine RunD_s rfl rfl rfl rfl (fun X hX => ?_) | refine WD_c rfl (fun X Y hX hY => ?_)); (try dsimp only); simp (disch := first | omega | (simp; done) | fail) [wrap64c, if_pos, if_neg, opAnd, opOr, opXor, opDiff, opShr, opBit, hfn1, e0, e1, e5, e6, e7, e8, h3]; (first | refine hX _ _ ?_ | refine hX ?_ | refine hY ?_); (try clear hX X); try clear hY Y)
        | (refine RunD_nil ?_; refine hK _ _ ?_; clear hK K)
        | (refine RunD_nil ?_)
        | (refine WD_skip ?_)
        | (refine WD_exit ?_)
        | (refine WD_ret ?_)
        | (refine hK.1 _ _ ?_; clear hK K)
        | (refine hK.2.1 _ _ ?_; clear hK K)
        | (refine hK.2 _ _ _ ?hne ?_; (case hne => simp; done); clear hK K)
        | (refine hK.2.2 _ _ _ ?hne ?_; (case hne => simp; done); clear hK K))
      refine hK.1 _ _ _ ?hm ?hf ⟨k1, nOr y (bit i), z, acc ++ [i], u2, rfl, (by simp (disch := first | omega | (simp; done) | fail) [wrap64c, if_pos, if_neg, opAnd, opOr, opXor, opDiff, opShr, opBit, hfn1, e0, e1, e5, e6, e7, e8, h3] <;> omega), (by simp (disch := first | omega | (simp; done) | fail) [wrap64c, if_pos, if_neg, opAnd, opOr, opXor, opDiff, opShr, opBit, hfn1, e0, e1, e5, e6, e7, e8, h3] <;> omega), (by simp (disch := first | omega | (simp; done) | fail) [wrap64c, if_pos, if_neg, opAnd, opOr, opXor, opDiff, opShr, opBit, hfn1, e0, e1, e5, e6, e7, e8, h3] <;> omega), (by simp (disch := first | omega | (simp; done) | fail) [wrap64c, if_pos, if_neg, opAnd, opOr, opXor, opDiff, opShr, opBit, hfn1, e0, e1, e5, e6, e7, e8, h3] <;> omega), (by first | omega | assumption | (simp (disch := first | omega | (simp; done) | fail) [wrap64c, if_pos, if_neg, opAnd, opOr, opXor, opDiff, opShr, opBit, hfn1, e0, e1, e5, e6, e7, e8, h3] <;> omega)), (W2.trans W3), P3, (by rw [toN_snoc]; exact ia_upd hu2 W3.upd (fun o ho => by have := hS o ho; omega)), (by rw [left_yes, ← hLe]; omega), (by simp; omega), (by rw [left_yes, ← hLe, hr]; simp)⟩
      (case hm => first | omega | (simp; omega))
      (case hf => simp [FrameL, hfn1, e0, e1, e5, e6, e7, e8, h3, f0_0, f1_0])

@[simp] theorem adds_allocM {h h' : Hp} (k : Adds h h') (es : List (Value × Value)) : Adds h (h'.alloc (.map es)) := k.trans (Adds.alloc _ fun _ => rfl)
theorem newAsker_ok (h : Hp) (v : Value) (N : Int) (X : List Int) (hv : Space h v N X) : ∃ v' h', CallOK Try.prog 78 #[v] h v' h' ∧ ∃ o p q b, v' = .pointer (some ⟨o, 0, none⟩) ∧ Adds h h' ∧
    (h.next ≤ p ∧ p < q ∧ q < o ∧ o < h'.next) ∧ h'.get o = .cells [.int .i64 N, b, .map (some p), .map (some q)] true true 1 ∧ h'.get p = .map [] ∧ h'.get q = .map [] ∧ IntsF (fun x => x < h.next) h' b X := by
  refine call_L (args := [v]) 8 _ [.tmp 2] Try.func78 rfl rfl rfl ?_
  obtain ⟨b, rfl, hX⟩ := hv
  have nt := hX.nt
  have cs := hX.cs
  repeat (first
    | (refine WD_block (fun K hK => ?_))
    | (refine WD_seq (fun K hK => ?_))
    | (refine WD_region (fun K hK => ?_))
    | ((first | refine RunD_o rfl rfl rfl rfl rfl (fun X hX => ?_) | refine RunD_s rfl rfl rfl rfl (fun X hX => ?_) | refine WD_c rfl (fun X Y hX hY => ?_)); (try dsimp only); simp (disch := first | omega | (simp; done) | fail) [wrap64c, if_pos, if_neg, opAnd, opOr, opXor, opDiff, opShr, opBit, nt, cs]; (first | refine hX _ _ ?_ | refine hX ?_ | refine hY ?_); (try clear hX X); try clear hY Y)
    | (refine RunD_nil ?_; refine hK _ _ ?_; clear hK K)
    | (refine RunD_nil ?_)
    | (refine WD_skip ?_)
    | (refine WD_exit ?_)
    | (refine WD_ret ?_)
    | (refine hK.1 _ _ ?_; clear hK K)
    | (refine hK.2.1 _ _ ?_; clear hK K)
    | (refine hK.2 _ _ _ ?hne ?_; (case hne => simp; done); clear hK K)
    | (refine hK.2.2 _ _ _ ?hne ?_; (case hne => simp; done); clear hK K))
  first | refine WD_heap fun h1 q_h1 => ?_ | refine RunD_heap fun h1 q_h1 => ?_ | refine PreD_heap fun h1 q_h1 => ?_ | refine Done_heap fun h1 q_h1 => ?_
  have k1 : Adds h h1 := by rw [q_h1]; exact (by repeat (first | exact keep_self _ | exact adds_self _ | assumption | exact Adds.keeps (by assumption) | refine keeps_alloc ?_ _ | refine adds_alloc ?_ _ _ _ | refine adds_allocM ?_ _ | (refine keeps_put ?_ ?hle _; (case hle => first | omega | (simp; done) | (simp; omega))) | (refine adds_put ?_ ?hle _ _ _; (case hle => first | omega | (simp; done) | (simp; omega)))))
  refine done_ret rfl ⟨h.next + 3, h.next + 1, h.next + 2, b, by simp, k1, ⟨by omega, by omega, by omega, by simp [q_h1]⟩, by simp [q_h1], by simp [q_h1], by simp [q_h1], hX.old.keep k1.1⟩

noncomputable def halfR (N : Int) (X : List Int) (a : Int) : List Int := if oneB N X a = true then toN (runF halfN a.toNat X.length (natsOf X)) else []
theorem halfR_len (N : Int) (X : List Int) (a : Int) : (halfR N X a).length ≤ 128 := by
  unfold halfR
  split
  · rename_i h
    obtain ⟨n, xs, x, rfl, rfl, rfl, g, hx⟩ := oneB_true h
    have h1 := runF_len halfN x (toN xs).length xs
    have h2 := g.len7
    simp at h1 ⊢; omega
  · simp

theorem specHalf_ok (h : Hp) (v : Value) (N : Int) (X : List Int) (a : Int) (hv : Space h v N X) (hl : X.length < 2 ^ 40) :
    ∃ v' h', CallOK Try.prog 44 #[v, .int .i64 a] h v' h' ∧ Adds h h' ∧ ∃ u, v' = .tuple #[u, .bool (oneB N X a)] ∧ IntsO (Btw h.next h'.next) h' u (halfR N X a) := by
  refine call_L (args := [v, .int .i64 a]) 13 _ [.tmp 4, .tmp 5] Try.func44 rfl rfl rfl ?_
  obtain ⟨b, rfl, hX⟩ := hv
  repeat (first
    | (refine WD_block (fun K hK => ?_))
    | (refine WD_seq (fun K hK => ?_)))
  refine WD_region (fun K hK => ?_)
  repeat (first
    | ((first | refine RunD_o rfl rfl rfl rfl rfl (fun X hX => ?_) | refine RunD_s rfl rfl rfl rfl (fun X hX => ?_) | refine WD_c rfl (fun X Y hX hY => ?_)); (try dsimp only); simp (disch := first | omega | (simp; done) | fail) [wrap64c, if_pos, if_neg, opAnd, opOr, opXor, opDiff, opShr, opBit]; (first | refine hX _ _ ?_ | refine hX ?_ | refine hY ?_); (try clear hX X); try clear hY Y))
  refine RunD_heap fun h0 q_h0 => ?_
  have g_h0 : h0.get h.next = .cells [.int .i64 N, b] true true 1 := by simp [q_h0]
  have k_h0 : Adds h h0 := by rw [q_h0]; exact (by repeat (first | exact keep_self _ | exact adds_self _ | assumption | exact Adds.keeps (by assumption) | refine keeps_alloc ?_ _ | refine adds_alloc ?_ _ _ _ | refine adds_allocM ?_ _ | (refine keeps_put ?_ ?hle _; (case hle => first | omega | (simp; done) | (simp; omega))) | (refine adds_put ?_ ?hle _ _ _; (case hle => first | omega | (simp; done) | (simp; omega)))))
  have n_h0 : h.next < h0.next := by simp [q_h0]; try omega
  have hX0 := hX.keep k_h0.1
  repeat (first
    | (refine WD_block (fun K hK => ?_))
    | (refine WD_seq (fun K hK => ?_))
    | (refine WD_region (fun K hK => ?_))
    | ((first | refine RunD_o rfl rfl rfl rfl rfl (fun X hX => ?_) | refine RunD_s rfl rfl rfl rfl (fun X hX => ?_) | refine WD_c rfl (fun X Y hX hY => ?_)); (try dsimp only); simp (disch := first | omega | (simp; done) | fail) [wrap64c, if_pos, if_neg, opAnd, opOr, opXor, opDiff, opShr, opBit, g_h0]; (first | refine hX _ _ ?_ | refine hX ?_ | refine hY ?_); (try clear hX X); try clear hY Y)
    | (refine RunD_nil ?_; refine hK _ _ ?_; clear hK K)
    | (refine RunD_nil ?_)
    | (refine WD_skip ?_)
    | (refine WD_exit ?_)
    | (refine WD_ret ?_)
    | (refine hK.1 _ _ ?_; clear hK K)
    | (refine hK.2.1 _ _ ?_; clear hK K)
    | (refine hK.2 _ _ _ ?hne ?_; (case hne => simp; done); clear hK K)
    | (refine hK.2.2 _ _ _ ?hne ?_; (case hne => simp; done); clear hK K))
  refine RunD_c rfl rfl rfl rfl (by simp) (by simp) ?ha (spOne_ok h0 (.agg #[.int .i64 N, b]) N X a (.mk hX0) hl) ?_
  (case ha => simp (disch := first | omega | (simp; done) | fail) [wrap64c, if_pos, if_neg, opAnd, opOr, opXor, opDiff, opShr, opBit, g_h0])
  cases c1 : oneB N X a
  · repeat (first
      | (refine WD_block (fun K hK => ?_))
      | (refine WD_seq (fun K hK => ?_))
      | (refine WD_region (fun K hK => ?_))
      | ((first | refine RunD_o rfl rfl rfl rfl rfl (fun X hX => ?_) | refine RunD_s rfl rfl rfl rfl (fun X hX => ?_) | refine WD_c rfl (fun X Y hX hY => ?_)); (try dsimp only); simp (disch := first | omega | (simp; done) | fail) [wrap64c, if_pos, if_neg, opAnd, opOr, opXor, opDiff, opShr, opBit, g_h0, c1]; (first | refine hX _ _ ?_ | refine hX ?_ | refine hY ?_); (try clear hX X); try clear hY Y)
      | (refine RunD_nil ?_; refine hK _ _ ?_; clear hK K)
      | (refine RunD_nil ?_)
      | (refine WD_skip ?_)
      | (refine WD_exit ?_)
      | (refine WD_ret ?_)
      | (refine hK.1 _ _ ?_; clear hK K)
      | (refine hK.2.1 _ _ ?_; clear hK K)
      | (refine hK.2 _ _ _ ?hne ?_; (case hne => simp; done); clear hK K)
      | (refine hK.2.2 _ _ _ ?hne ?_; (case hne => simp; done); clear hK K))
    refine done_ret rfl ⟨k_h0, _, by simp [c1]; rfl, ?_⟩
    rw [halfR, if_neg (by simp [c1])]
    exact .nil _ _
  · obtain ⟨n, xs, x, hN, hXe, hae, g, hx⟩ := oneB_true c1
    have hNt : N = (n : Int) := hN
    have hat : a = (x : Int) := hae
    have hX1 : Ints h0 b (toN xs) := hXe ▸ hX0
    repeat (first
      | (refine WD_block (fun K hK => ?_))
      | (refine WD_seq (fun K hK => ?_))
      | (refine WD_region (fun K hK => ?_))
      | ((first | refine RunD_o rfl rfl rfl rfl rfl (fun X hX => ?_) | refine RunD_s rfl rfl rfl rfl (fun X hX => ?_) | refine WD_c rfl (fun X Y hX hY => ?_)); (try dsimp only); simp (disch := first | omega | (simp; done) | fail) [wrap64c, if_pos, if_neg, opAnd, opOr, opXor, opDiff, opShr, opBit, g_h0, c1, hNt, hat]; (first | refine hX _ _ ?_ | refine hX ?_ | refine hY ?_); (try clear hX X); try clear hY Y)
      | (refine RunD_nil ?_; refine hK _ _ ?_; clear hK K)
      | (refine RunD_nil ?_)
      | (refine WD_skip ?_)
      | (refine WD_exit ?_)
      | (refine WD_ret ?_)
      | (refine hK.1 _ _ ?_; clear hK K)
      | (refine hK.2.1 _ _ ?_; clear hK K)
      | (refine hK.2 _ _ _ ?hne ?_; (case hne => simp; done); clear hK K)
      | (refine hK.2.2 _ _ _ ?hne ?_; (case hne => simp; done); clear hK K))
    obtain ⟨u, h1, hc1, ha1, hi1⟩ := asRunH_ok h0 (.agg #[.int .i64 (n : Int), b]) n xs x (.mk hX1) g hx
    refine RunD_c rfl rfl rfl rfl (by simp) (by simp) ?ha (hc1) ?_
    (case ha => simp (disch := first | omega | (simp; done) | fail) [wrap64c, if_pos, if_neg, opAnd, opOr, opXor, opDiff, opShr, opBit, g_h0, c1, hNt, hat])
    repeat (first
      | (refine WD_block (fun K hK => ?_))
      | (refine WD_seq (fun K hK => ?_))
      | (refine WD_region (fun K hK => ?_))
      | ((first | refine RunD_o rfl rfl rfl rfl rfl (fun X hX => ?_) | refine RunD_s rfl rfl rfl rfl (fun X hX => ?_) | refine WD_c rfl (fun X Y hX hY => ?_)); (try dsimp only); simp (disch := first | omega | (simp; done) | fail) [wrap64c, if_pos, if_neg, opAnd, opOr, opXor, opDiff, opShr, opBit, g_h0, c1, hNt, hat]; (first | refine hX _ _ ?_ | refine hX ?_ | refine hY ?_); (try clear hX X); try clear hY Y)
      | (refine RunD_nil ?_; refine hK _ _ ?_; clear hK K)
      | (refine RunD_nil ?_)
      | (refine WD_skip ?_)
      | (refine WD_exit ?_)
      | (refine WD_ret ?_)
      | (refine hK.1 _ _ ?_; clear hK K)
      | (refine hK.2.1 _ _ ?_; clear hK K)
      | (refine hK.2 _ _ _ ?hne ?_; (case hne => simp; done); clear hK K)
      | (refine hK.2.2 _ _ _ ?hne ?_; (case hne => simp; done); clear hK K))
    refine done_ret rfl ⟨k_h0.trans ha1, _, by simp [c1]; rfl, ?_⟩
    rw [halfR, if_pos c1, hXe, hae, natsOf_toN, toN_length, Int.toNat_natCast]
    exact hi1.sub fun o ho => ⟨by have := ho.1; omega, ho.2⟩

theorem implHalf_ok (h : Hp) (v : Value) (N : Int) (X : List Int) (a : Int) (hv : Space h v N X) (hl : X.length < 2 ^ 40) :
    ∃ v' h', CallOK Try.prog 45 #[v, .int .i64 a] h v' h' ∧ Adds h h' ∧ ∃ u, v' = .tuple #[u, .bool (oneB N X a)] ∧ IntsO (Btw h.next h'.next) h' u (halfR N X a) := by
  refine call_L (args := [v, .int .i64 a]) 15 _ [.tmp 4, .tmp 5] Try.func45 rfl rfl rfl ?_
  obtain ⟨b, rfl, hX⟩ := hv
  repeat (first
    | (refine WD_block (fun K hK => ?_))
    | (refine WD_seq (fun K hK => ?_)))
  refine WD_region (fun K hK => ?_)
  repeat (first
    | ((first | refine RunD_o rfl rfl rfl rfl rfl (fun X hX => ?_) | refine RunD_s rfl rfl rfl rfl (fun X hX => ?_) | refine WD_c rfl (fun X Y hX hY => ?_)); (try dsimp only); simp (disch := first | omega | (simp; done) | fail) [wrap64c, if_pos, if_neg, opAnd, opOr, opXor, opDiff, opShr, opBit]; (first | refine hX _ _ ?_ | refine hX ?_ | refine hY ?_); (try clear hX X); try clear hY Y))
  refine RunD_heap fun h0 q_h0 => ?_
  have g_h0 : h0.get h.next = .cells [.int .i64 N, b] true true 1 := by simp [q_h0]
  have k_h0 : Adds h h0 := by rw [q_h0]; exact (by repeat (first | exact keep_self _ | exact adds_self _ | assumption | exact Adds.keeps (by assumption) | refine keeps_alloc ?_ _ | refine adds_alloc ?_ _ _ _ | refine adds_allocM ?_ _ | (refine keeps_put ?_ ?hle _; (case hle => first | omega | (simp; done) | (simp; omega))) | (refine adds_put ?_ ?hle _ _ _; (case hle => first | omega | (simp; done) | (simp; omega)))))
  have n_h0 : h.next < h0.next := by simp [q_h0]; try omega
  have hX0 := hX.keep k_h0.1
  repeat (first
    | (refine WD_block (fun K hK => ?_))
    | (refine WD_seq (fun K hK => ?_))
    | (refine WD_region (fun K hK => ?_))
    | ((first | refine RunD_o rfl rfl rfl rfl rfl (fun X hX => ?_) | refine RunD_s rfl rfl rfl rfl (fun X hX => ?_) | refine WD_c rfl (fun X Y hX hY => ?_)); (try dsimp only); simp (disch := first | omega | (simp; done) | fail) [wrap64c, if_pos, if_neg, opAnd, opOr, opXor, opDiff, opShr, opBit, g_h0]; (first | refine hX _ _ ?_ | refine hX ?_ | refine hY ?_); (try clear hX X); try clear hY Y)
    | (refine RunD_nil ?_; refine hK _ _ ?_; clear hK K)
    | (refine RunD_nil ?_)
    | (refine WD_skip ?_)
    | (refine WD_exit ?_)
    | (refine WD_ret ?_)
    | (refine hK.1 _ _ ?_; clear hK K)
    | (refine hK.2.1 _ _ ?_; clear hK K)
    | (refine hK.2 _ _ _ ?hne ?_; (case hne => simp; done); clear hK K)
    | (refine hK.2.2 _ _ _ ?hne ?_; (case hne => simp; done); clear hK K))
  refine RunD_c rfl rfl rfl rfl (by simp) (by simp) ?ha (isKnown_ok h0 (.agg #[.int .i64 N, b]) N X a (.mk hX0) hl) ?_
  (case ha => simp (disch := first | omega | (simp; done) | fail) [wrap64c, if_pos, if_neg, opAnd, opOr, opXor, opDiff, opShr, opBit, g_h0])
  cases c1 : oneB N X a
  · repeat (first
      | (refine WD_block (fun K hK => ?_))
      | (refine WD_seq (fun K hK => ?_))
      | (refine WD_region (fun K hK => ?_))
      | ((first | refine RunD_o rfl rfl rfl rfl rfl (fun X hX => ?_) | refine RunD_s rfl rfl rfl rfl (fun X hX => ?_) | refine WD_c rfl (fun X Y hX hY => ?_)); (try dsimp only); simp (disch := first | omega | (simp; done) | fail) [wrap64c, if_pos, if_neg, opAnd, opOr, opXor, opDiff, opShr, opBit, g_h0, c1]; (first | refine hX _ _ ?_ | refine hX ?_ | refine hY ?_); (try clear hX X); try clear hY Y)
      | (refine RunD_nil ?_; refine hK _ _ ?_; clear hK K)
      | (refine RunD_nil ?_)
      | (refine WD_skip ?_)
      | (refine WD_exit ?_)
      | (refine WD_ret ?_)
      | (refine hK.1 _ _ ?_; clear hK K)
      | (refine hK.2.1 _ _ ?_; clear hK K)
      | (refine hK.2 _ _ _ ?hne ?_; (case hne => simp; done); clear hK K)
      | (refine hK.2.2 _ _ _ ?hne ?_; (case hne => simp; done); clear hK K))
    refine done_ret rfl ⟨k_h0, _, by simp [c1]; rfl, ?_⟩
    rw [halfR, if_neg (by simp [c1])]
    exact .nil _ _
  · obtain ⟨n, xs, x, hN, hXe, hae, g, hx⟩ := oneB_true c1
    have hNt : N = (n : Int) := hN
    have hat : a = (x : Int) := hae
    have hX1 : Ints h0 b (toN xs) := hXe ▸ hX0
    have hl7 := g.len7
    repeat (first
      | (refine WD_block (fun K hK => ?_))
      | (refine WD_seq (fun K hK => ?_))
      | (refine WD_region (fun K hK => ?_))
      | ((first | refine RunD_o rfl rfl rfl rfl rfl (fun X hX => ?_) | refine RunD_s rfl rfl rfl rfl (fun X hX => ?_) | refine WD_c rfl (fun X Y hX hY => ?_)); (try dsimp only); simp (disch := first | omega | (simp; done) | fail) [wrap64c, if_pos, if_neg, opAnd, opOr, opXor, opDiff, opShr, opBit, g_h0, c1, hNt, hat]; (first | refine hX _ _ ?_ | refine hX ?_ | refine hY ?_); (try clear hX X); try clear hY Y)
      | (refine RunD_nil ?_; refine hK _ _ ?_; clear hK K)
      | (refine RunD_nil ?_)
      | (refine WD_skip ?_)
      | (refine WD_exit ?_)
      | (refine WD_ret ?_)
      | (refine hK.1 _ _ ?_; clear hK K)
      | (refine hK.2.1 _ _ ?_; clear hK K)
      | (refine hK.2 _ _ _ ?hne ?_; (case hne => simp; done); clear hK K)
      | (refine hK.2.2 _ _ _ ?hne ?_; (case hne => simp; done); clear hK K))
    obtain ⟨_, h1, hc1, o, p, q, b1, rfl, ha1, hopq, hgo, hgp, hgq, hb1⟩ := newAsker_ok h0 (.agg #[.int .i64 (n : Int), b]) n (toN xs) (.mk hX1)
    refine RunD_c rfl rfl rfl rfl (by simp) (by simp) ?ha (hc1) ?_
    (case ha => simp (disch := first | omega | (simp; done) | fail) [wrap64c, if_pos, if_neg, opAnd, opOr, opXor, opDiff, opShr, opBit, g_h0, c1, hNt, hat])
    repeat (first
      | (refine WD_block (fun K hK => ?_))
      | (refine WD_seq (fun K hK => ?_))
      | (refine WD_region (fun K hK => ?_))
      | ((first | refine RunD_o rfl rfl rfl rfl rfl (fun X hX => ?_) | refine RunD_s rfl rfl rfl rfl (fun X hX => ?_) | refine WD_c rfl (fun X Y hX hY => ?_)); (try dsimp only); simp (disch := first | omega | (simp; done) | fail) [wrap64c, if_pos, if_neg, opAnd, opOr, opXor, opDiff, opShr, opBit, g_h0, c1, hNt, hat]; (first | refine hX _ _ ?_ | refine hX ?_ | refine hY ?_); (try clear hX X); try clear hY Y)
      | (refine RunD_nil ?_; refine hK _ _ ?_; clear hK K)
      | (refine RunD_nil ?_)
      | (refine WD_skip ?_)
      | (refine WD_exit ?_)
      | (refine WD_ret ?_)
      | (refine hK.1 _ _ ?_; clear hK K)
      | (refine hK.2.1 _ _ ?_; clear hK K)
      | (refine hK.2 _ _ _ ?hne ?_; (case hne => simp; done); clear hK K)
      | (refine hK.2.2 _ _ _ ?hne ?_; (case hne => simp; done); clear hK K))
    have hask : ∀ L : List Nat, halfN L < 0 ∨ ∃ i, halfN L = (i : Nat) ∧ i ∈ openN L := fun L => by
      by_cases he : openN L = []
      · left; rw [halfN_nil he]; omega
      · right; exact halfN_mem he
    obtain ⟨u, h2, hc2, W2, P2, hi2⟩ := run_ok halfN hask 79 (.pointer (some ⟨o, 0, none⟩)) (fun _ => False) (fun h' => h'.get o = .cells [.int .i64 (n : Int), b1, .map (some p), .map (some q)] true true 1 ∧ IntsF (fun x => x < h1.next) h' b1 (toN xs)) h1.next xs
      (fun h' h'' hp hb1' hb2 hs => ⟨by rw [hs o hopq.2.2.2]; exact hp.1, hp.2.same ⟨hb2, fun q hq _ => hs q hq⟩⟩)
      (fun h' y z hp hb hy hz => ⟨_, h', half_ok h' o n b1 (.map (some p)) (.map (some q)) true true 1 xs y z (by omega) hp.1 hp.2.ints g.lt7 (by omega) hy hz, rfl, Wr.refl _ _, hp⟩)
      (fun _ hf => hf.elim) (by simp) h1 ⟨hgo, hb1.sub fun x hx => by omega⟩ (Nat.le_refl _) x (g.lt7 _ hx) (by omega)
    refine RunD_c rfl rfl rfl rfl (by simp) (by simp) ?ha (hc2) ?_
    (case ha => simp (disch := first | omega | (simp; done) | fail) [wrap64c, if_pos, if_neg, opAnd, opOr, opXor, opDiff, opShr, opBit, g_h0, c1, hNt, hat])
    repeat (first
      | (refine WD_block (fun K hK => ?_))
      | (refine WD_seq (fun K hK => ?_))
      | (refine WD_region (fun K hK => ?_))
      | ((first | refine RunD_o rfl rfl rfl rfl rfl (fun X hX => ?_) | refine RunD_s rfl rfl rfl rfl (fun X hX => ?_) | refine WD_c rfl (fun X Y hX hY => ?_)); (try dsimp only); simp (disch := first | omega | (simp; done) | fail) [wrap64c, if_pos, if_neg, opAnd, opOr, opXor, opDiff, opShr, opBit, g_h0, c1, hNt, hat]; (first | refine hX _ _ ?_ | refine hX ?_ | refine hY ?_); (try clear hX X); try clear hY Y)
      | (refine RunD_nil ?_; refine hK _ _ ?_; clear hK K)
      | (refine RunD_nil ?_)
      | (refine WD_skip ?_)
      | (refine WD_exit ?_)
      | (refine WD_ret ?_)
      | (refine hK.1 _ _ ?_; clear hK K)
      | (refine hK.2.1 _ _ ?_; clear hK K)
      | (refine hK.2 _ _ _ ?hne ?_; (case hne => simp; done); clear hK K)
      | (refine hK.2.2 _ _ _ ?hne ?_; (case hne => simp; done); clear hK K))
    have A2 : Adds h1 h2 := ⟨⟨W2.upd.1, fun o ho => W2.upd.2 o ho (fun hf => hf)⟩, W2.new⟩
    refine done_ret rfl ⟨(k_h0.trans ha1).trans A2, _, by simp [c1]; rfl, ?_⟩
    rw [halfR, if_pos c1, hXe, hae, natsOf_toN, toN_length, Int.toNat_natCast]
    exact hi2.sub fun o ho => ⟨by have := ho.1; have := ha1.1.1; omega, ho.2⟩
end Go.Proofs.Ytpehnhjgdgnnkaa
