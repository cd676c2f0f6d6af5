/- Questions by halving: by the program and by the reference. -/
import Derived.Test.YtpehnhjgdgnnkaaS10
import Derived.Test.YtpehnhjgdgnnkaaS11
namespace Go.Proofs.Ytpehnhjgdgnnkaa
set_option linter.unusedSimpArgs false
set_option linter.unusedVariables false
set_option maxHeartbeats 4000000
open Go Go.Eng
attribute [local irreducible] WD RunD PreD Runs CallOK

theorem leftN_snoc (xs : List Nat) (x y z : Nat) : leftN (xs ++ [x]) y z = if leftB y z x = true then leftN xs y z ++ [x] else leftN xs y z := by
  unfold leftN
  rw [List.filter_append]
  by_cases h : leftB y z x = true <;> simp [h]
theorem left_take {xs : List Nat} {j : Nat} (hj : j < xs.length) (y z : Nat) : leftN (xs.take (j + 1)) y z = if leftB y z xs[j] = true then leftN (xs.take j) y z ++ [xs[j]] else leftN (xs.take j) y z := by
  rw [List.take_succ_eq_append_getElem hj, leftN_snoc]

theorem part_ok (h : Hp) (a b : Nat) (ha : a < 128) (hb : b < 128) : CallOK Try.prog 138 #[.int .i64 (a : Int), .int .i64 (b : Int)] h (.bool (ndiff a b == 0)) h := by
  refine call_P 9 _ [.tmp 4] Try.func138 rfl rfl rfl (by first | rfl | simp) ?_
  by_cases hd : ndiff a b = 0
  · repeat (first
      | (refine WD_block (fun K hK => ?_))
      | (refine WD_seq (fun K hK => ?_))
      | (refine WD_region (fun K hK => ?_))
      | ((first | refine RunD_o rfl rfl rfl rfl rfl (fun X hX => ?_) | refine RunD_s rfl rfl rfl rfl (fun X hX => ?_) | refine WD_c rfl (fun X Y hX hY => ?_)); (try dsimp only); simp (disch := first | omega | (simp; done) | fail) [wrap64c, if_pos, if_neg, opAnd, opOr, opXor, opDiff, opShr, opBit, hd]; (first | refine hX _ _ ?_ | refine hX ?_ | refine hY ?_); (try clear hX X); try clear hY Y)
      | (refine RunD_nil ?_; refine hK _ _ ?_; clear hK K)
      | (refine RunD_nil ?_)
      | (refine WD_skip ?_)
      | (refine WD_exit ?_)
      | (refine WD_ret ?_)
      | (refine hK.1 _ _ ?_; clear hK K)
      | (refine hK.2.1 _ _ ?_; clear hK K)
      | (refine hK.2 _ _ _ ?hne ?_; (case hne => simp; done); clear hK K)
      | (refine hK.2.2 _ _ _ ?hne ?_; (case hne => simp; done); clear hK K))
    exact done_ret rfl (by simp [hd])
  · have hb1 : (((ndiff a b : Nat) : Int) == 0) = false := by simp [hd]
    have hb2 : (ndiff a b == 0) = false := by simp [hd]
    repeat (first
      | (refine WD_block (fun K hK => ?_))
      | (refine WD_seq (fun K hK => ?_))
      | (refine WD_region (fun K hK => ?_))
      | ((first | refine RunD_o rfl rfl rfl rfl rfl (fun X hX => ?_) | refine RunD_s rfl rfl rfl rfl (fun X hX => ?_) | refine WD_c rfl (fun X Y hX hY => ?_)); (try dsimp only); simp (disch := first | omega | (simp; done) | fail) [wrap64c, if_pos, if_neg, opAnd, opOr, opXor, opDiff, opShr, opBit, hd]; (first | refine hX _ _ ?_ | refine hX ?_ | refine hY ?_); (try clear hX X); try clear hY Y)
      | (refine RunD_nil ?_; refine hK _ _ ?_; clear hK K)
      | (refine RunD_nil ?_)
      | (refine WD_skip ?_)
      | (refine WD_exit ?_)
      | (refine WD_ret ?_)
      | (refine hK.1 _ _ ?_; clear hK K)
      | (refine hK.2.1 _ _ ?_; clear hK K)
      | (refine hK.2 _ _ _ ?hne ?_; (case hne => simp; done); clear hK K)
      | (refine hK.2.2 _ _ _ ?hne ?_; (case hne => simp; done); clear hK K))
    exact done_ret rfl (by simp [hb1, hb2])

theorem imLeft_ok (h : Hp) (v : Value) (N : Int) (xs : List Nat) (y z : Nat) (hv : Space h v N (toN xs)) (hx : ∀ x ∈ xs, x < 128) (hl : xs.length < 2 ^ 39) (hy : y < 128) (hz : z < 128) :
    ∃ v' h', CallOK Try.prog 108 #[v, .int .i64 (y : Int), .int .i64 (z : Int)] h v' h' ∧ Adds h h' ∧ IntsO (Btw h.next h'.next) h' v' (toN (leftN xs y z)) := by
  refine call_L (args := [v, .int .i64 (y : Int), .int .i64 (z : Int)]) 33 _ [.tmp 6] Try.func108 rfl rfl rfl ?_
  obtain ⟨b, rfl, hX⟩ := hv
  have hL := hX.lenD
  have hgt := toN_get xs
  have hln := toN_length xs
  repeat (first
    | (refine WD_block (fun K hK => ?_))
    | (refine WD_seq (fun K hK => ?_))
    | (refine WD_region (fun K hK => ?_))
    | ((first | refine RunD_o rfl rfl rfl rfl rfl (fun X hX => ?_) | refine RunD_s rfl rfl rfl rfl (fun X hX => ?_) | refine RunD_g rfl rfl rfl rfl rfl rfl rfl (fun X Y hX hY => ?_) | refine RunD_gc rfl rfl rfl rfl rfl rfl (fun Y hY => ?_) | refine WD_c rfl (fun X Y hX hY => ?_)); (try dsimp only); simp (disch := first | omega | (simp; done) | fail) [wrap64c, if_pos, if_neg, opAnd, opOr, opXor, opDiff, opShr, opBit, hL, hgt]; (first | refine hX _ _ ?_ | refine hX ?_ | refine hY ?_); (try clear hX X); try clear hY Y)
    | (refine RunD_nil ?_; refine hK _ _ ?_; clear hK K)
    | (refine RunD_nil ?_)
    | (refine WD_skip ?_)
    | (refine WD_exit ?_)
    | (refine WD_ret ?_)
    | (refine hK.1 _ _ ?_; clear hK K)
    | (refine hK.2.1 _ _ ?_; clear hK K)
    | (refine hK.2 _ _ _ ?hne ?_; (case hne => simp; done); clear hK K)
    | (refine hK.2.2 _ _ _ ?hne ?_; (case hne => simp; done); clear hK K))
  refine WD_loopF [1, 2, 12, 13] (fun m tm h' => ∃ j u, m = xs.length - j ∧ tm 7 = u ∧ tm 14 = .int .i64 (j : Int) ∧ (j ≤ xs.length) ∧ (Adds h h') ∧ (h.next < h'.next) ∧ (IntsA (h.next + 1) h' u (toN (leftN (xs.take j) y z)))) _ ⟨0, _, rfl, (by simp (disch := first | omega | (simp; done) | fail) [wrap64c, if_pos, if_neg, opAnd, opOr, opXor, opDiff, opShr, opBit, hL, hgt]), (by simp (disch := first | omega | (simp; done) | fail) [wrap64c, if_pos, if_neg, opAnd, opOr, opXor, opDiff, opShr, opBit, hL, hgt]), (by first | omega | assumption | (simp (disch := first | omega | (simp; done) | fail) [wrap64c, if_pos, if_neg, opAnd, opOr, opXor, opDiff, opShr, opBit, hL, hgt] <;> omega)), (by repeat (first | exact keep_self _ | exact adds_self _ | assumption | exact Adds.keeps (by assumption) | refine keeps_alloc ?_ _ | refine adds_alloc ?_ _ _ _ | refine adds_allocM ?_ _ | (refine keeps_put ?_ ?hle _; (case hle => first | omega | (simp; done) | (simp; omega))) | (refine adds_put ?_ ?hle _ _ _; (case hle => first | omega | (simp; done) | (simp; omega))))), (by simp), (.lit (ex := true) (Nat.le_refl _) (by simp) (by simp))⟩ ?_
  rintro m tm h' hFr ⟨j, u, rfl, e7, e14, hj, ha, hn, hu⟩ K hK
  simp only [FrameL] at hFr
  obtain ⟨f1_0, f2_0, f12_0, f13_0, -⟩ := hFr
  try simp (disch := first | omega | (simp; done) | fail) [wrap64c, if_pos, if_neg, opAnd, opOr, opXor, opDiff, opShr, opBit, hL, hgt] at f1_0 f2_0 f12_0 f13_0
  have e1 := f1_0
  have e2 := f2_0
  have e12 := f12_0
  have e13 := f13_0
  by_cases hlt : j < xs.length
  · obtain ⟨o_x, i_x, c_x, cs_x, own_x, ex_x, es_x, q_x, b_x, g_x, l_x, r_x⟩ := (hX.keep ha.1).open ((by omega))
    have z_x : ∀ h2 : i_x < cs_x.length, cs_x[i_x] = _ := fun h2 => r_x 0 ((by omega)) h2
    have hx1 := hx _ (List.getElem_mem hlt)
    have hs := left_take hlt y z
    have hle := left_len (xs.take j) y z
    have htl : (xs.take j).length ≤ xs.length := by simp; omega
    have hab : nAnd xs[j] z ≤ xs[j] := nAnd_le _ _
    repeat (first
      | (refine WD_block (fun K hK => ?_))
      | (refine WD_seq (fun K hK => ?_))
      | (refine WD_region (fun K hK => ?_))
      | ((first | refine RunD_o rfl rfl rfl rfl rfl (fun X hX => ?_) | refine RunD_s rfl rfl rfl rfl (fun X hX => ?_) | refine RunD_g rfl rfl rfl rfl rfl rfl rfl (fun X Y hX hY => ?_) | refine RunD_gc rfl rfl rfl rfl rfl rfl (fun Y hY => ?_) | refine WD_c rfl (fun X Y hX hY => ?_)); (try dsimp only); simp (disch := first | omega | (simp; done) | fail) [wrap64c, if_pos, if_neg, opAnd, opOr, opXor, opDiff, opShr, opBit, hL, hgt, e1, e2, e7, e12, e13, e14, hlt, q_x, g_x, l_x, r_x, z_x]; (first | refine hX _ _ ?_ | refine hX ?_ | refine hY ?_); (try clear hX X); try clear hY Y)
      | (refine RunD_nil ?_; refine hK _ _ ?_; clear hK K)
      | (refine RunD_nil ?_)
      | (refine WD_skip ?_)
      | (refine WD_exit ?_)
      | (refine WD_ret ?_)
      | (refine hK.1 _ _ ?_; clear hK K)
      | (refine hK.2.1 _ _ ?_; clear hK K)
      | (refine hK.2 _ _ _ ?hne ?_; (case hne => simp; done); clear hK K)
      | (refine hK.2.2 _ _ _ ?hne ?_; (case hne => simp; done); clear hK K))
    refine RunD_c rfl rfl rfl rfl (by simp) (by simp) ?ha (part_ok h' y xs[j] hy hx1) ?_
    (case ha => simp (disch := first | omega | (simp; done) | fail) [wrap64c, if_pos, if_neg, opAnd, opOr, opXor, opDiff, opShr, opBit, hL, hgt, e1, e2, e7, e12, e13, e14, hlt, q_x, g_x, l_x, r_x, z_x])
    cases h1 : (ndiff y xs[j] == 0)
    · have hlb : leftB y z xs[j] = false := by unfold leftB; rw [h1]; rfl
      rw [hlb] at hs
      repeat (first
        | (refine WD_block (fun K hK => ?_))
        | (refine WD_seq (fun K hK => ?_))
        | (refine WD_region (fun K hK => ?_))
        | ((first | refine RunD_o rfl rfl rfl rfl rfl (fun X hX => ?_) | refine RunD_s rfl rfl rfl rfl (fun X hX => ?_) | refine RunD_g rfl rfl rfl rfl rfl rfl rfl (fun X Y hX hY => ?_) | refine RunD_gc rfl rfl rfl rfl rfl rfl (fun Y hY => ?_) | refine WD_c rfl (fun X Y hX hY => ?_)); (try dsimp only); simp (disch := first | omega | (simp; done) | fail) [wrap64c, if_pos, if_neg, opAnd, opOr, opXor, opDiff, opShr, opBit, hL, hgt, e1, e2, e7, e12, e13, e14, hlt, q_x, g_x, l_x, r_x, z_x, h1]; (first | refine hX _ _ ?_ | refine hX ?_ | refine hY ?_); (try clear hX X); try clear hY Y)
        | (refine RunD_nil ?_; refine hK _ _ ?_; clear hK K)
        | (refine RunD_nil ?_)
        | (refine WD_skip ?_)
        | (refine WD_exit ?_)
        | (refine WD_ret ?_)
        | (refine hK.1 _ _ ?_; clear hK K)
        | (refine hK.2.1 _ _ ?_; clear hK K)
        | (refine hK.2 _ _ _ ?hne ?_; (case hne => simp; done); clear hK K)
        | (refine hK.2.2 _ _ _ ?hne ?_; (case hne => simp; done); clear hK K))
      refine hK.1 _ _ _ ?hm ?hf ⟨j + 1, u, rfl, (by simp (disch := first | omega | (simp; done) | fail) [wrap64c, if_pos, if_neg, opAnd, opOr, opXor, opDiff, opShr, opBit, hL, hgt, e1, e2, e7, e12, e13, e14, hlt, q_x, g_x, l_x, r_x, z_x, h1] <;> omega), (by simp (disch := first | omega | (simp; done) | fail) [wrap64c, if_pos, if_neg, opAnd, opOr, opXor, opDiff, opShr, opBit, hL, hgt, e1, e2, e7, e12, e13, e14, hlt, q_x, g_x, l_x, r_x, z_x, h1] <;> omega), (by first | omega | assumption | (simp (disch := first | omega | (simp; done) | fail) [wrap64c, if_pos, if_neg, opAnd, opOr, opXor, opDiff, opShr, opBit, hL, hgt, e1, e2, e7, e12, e13, e14, hlt, q_x, g_x, l_x, r_x, z_x, h1] <;> omega)), (by first | omega | assumption | (simp (disch := first | omega | (simp; done) | fail) [wrap64c, if_pos, if_neg, opAnd, opOr, opXor, opDiff, opShr, opBit, hL, hgt, e1, e2, e7, e12, e13, e14, hlt, q_x, g_x, l_x, r_x, z_x, h1] <;> omega)), (by first | omega | assumption | (simp (disch := first | omega | (simp; done) | fail) [wrap64c, if_pos, if_neg, opAnd, opOr, opXor, opDiff, opShr, opBit, hL, hgt, e1, e2, e7, e12, e13, e14, hlt, q_x, g_x, l_x, r_x, z_x, h1] <;> omega)), (by rw [hs]; exact hu)⟩
      (case hm => first | omega | (simp; omega))
      (case hf => simp [FrameL, hL, hgt, e1, e2, e7, e12, e13, e14, hlt, q_x, g_x, l_x, r_x, z_x, h1, f1_0, f2_0, f12_0, f13_0])
    · by_cases h2 : nAnd xs[j] z = 0
      · have hlb : leftB y z xs[j] = true := by unfold leftB; rw [h1, h2]; rfl
        rw [hlb] at hs
        repeat (first
          | (refine WD_block (fun K hK => ?_))
          | (refine WD_seq (fun K hK => ?_))
          | (refine WD_region (fun K hK => ?_))
          | ((first | refine RunD_o rfl rfl rfl rfl rfl (fun X hX => ?_) | refine RunD_s rfl rfl rfl rfl (fun X hX => ?_) | refine RunD_g rfl rfl rfl rfl rfl rfl rfl (fun X Y hX hY => ?_) | refine RunD_gc rfl rfl rfl rfl rfl rfl (fun Y hY => ?_) | refine WD_c rfl (fun X Y hX hY => ?_)); (try dsimp only); simp (disch := first | omega | (simp; done) | fail) [wrap64c, if_pos, if_neg, opAnd, opOr, opXor, opDiff, opShr, opBit, hL, hgt, e1, e2, e7, e12, e13, e14, hlt, q_x, g_x, l_x, r_x, z_x, h1, h2]; (first | refine hX _ _ ?_ | refine hX ?_ | refine hY ?_); (try clear hX X); try clear hY Y)
          | (refine RunD_nil ?_; refine hK _ _ ?_; clear hK K)
          | (refine RunD_nil ?_)
          | (refine WD_skip ?_)
          | (refine WD_exit ?_)
          | (refine WD_ret ?_)
          | (refine hK.1 _ _ ?_; clear hK K)
          | (refine hK.2.1 _ _ ?_; clear hK K)
          | (refine hK.2 _ _ _ ?hne ?_; (case hne => simp; done); clear hK K)
          | (refine hK.2.2 _ _ _ ?hne ?_; (case hne => simp; done); clear hK K))
        obtain ⟨u2, h2', hap, hu2, ha2, hn2, hs2⟩ := appI hu (xs[j] : Int) (by simp; omega) hn ha (by omega)
        repeat (first
          | (refine WD_block (fun K hK => ?_))
          | (refine WD_seq (fun K hK => ?_))
          | (refine WD_region (fun K hK => ?_))
          | ((first | refine RunD_o rfl rfl rfl rfl rfl (fun X hX => ?_) | refine RunD_s rfl rfl rfl rfl (fun X hX => ?_) | refine RunD_g rfl rfl rfl rfl rfl rfl rfl (fun X Y hX hY => ?_) | refine RunD_gc rfl rfl rfl rfl rfl rfl (fun Y hY => ?_) | refine WD_c rfl (fun X Y hX hY => ?_)); (try dsimp only); simp (disch := first | omega | (simp; done) | fail) [wrap64c, if_pos, if_neg, opAnd, opOr, opXor, opDiff, opShr, opBit, hL, hgt, e1, e2, e7, e12, e13, e14, hlt, q_x, g_x, l_x, r_x, z_x, h1, h2, hap]; (first | refine hX _ _ ?_ | refine hX ?_ | refine hY ?_); (try clear hX X); try clear hY Y)
          | (refine RunD_nil ?_; refine hK _ _ ?_; clear hK K)
          | (refine RunD_nil ?_)
          | (refine WD_skip ?_)
          | (refine WD_exit ?_)
          | (refine WD_ret ?_)
          | (refine hK.1 _ _ ?_; clear hK K)
          | (refine hK.2.1 _ _ ?_; clear hK K)
          | (refine hK.2 _ _ _ ?hne ?_; (case hne => simp; done); clear hK K)
          | (refine hK.2.2 _ _ _ ?hne ?_; (case hne => simp; done); clear hK K))
        refine hK.1 _ _ _ ?hm ?hf ⟨j + 1, u2, rfl, (by simp (disch := first | omega | (simp; done) | fail) [wrap64c, if_pos, if_neg, opAnd, opOr, opXor, opDiff, opShr, opBit, hL, hgt, e1, e2, e7, e12, e13, e14, hlt, q_x, g_x, l_x, r_x, z_x, h1, h2] <;> omega), (by simp (disch := first | omega | (simp; done) | fail) [wrap64c, if_pos, if_neg, opAnd, opOr, opXor, opDiff, opShr, opBit, hL, hgt, e1, e2, e7, e12, e13, e14, hlt, q_x, g_x, l_x, r_x, z_x, h1, h2] <;> omega), (by first | omega | assumption | (simp (disch := first | omega | (simp; done) | fail) [wrap64c, if_pos, if_neg, opAnd, opOr, opXor, opDiff, opShr, opBit, hL, hgt, e1, e2, e7, e12, e13, e14, hlt, q_x, g_x, l_x, r_x, z_x, h1, h2] <;> omega)), (by first | omega | assumption | (simp (disch := first | omega | (simp; done) | fail) [wrap64c, if_pos, if_neg, opAnd, opOr, opXor, opDiff, opShr, opBit, hL, hgt, e1, e2, e7, e12, e13, e14, hlt, q_x, g_x, l_x, r_x, z_x, h1, h2] <;> omega)), (by first | omega | assumption | (simp (disch := first | omega | (simp; done) | fail) [wrap64c, if_pos, if_neg, opAnd, opOr, opXor, opDiff, opShr, opBit, hL, hgt, e1, e2, e7, e12, e13, e14, hlt, q_x, g_x, l_x, r_x, z_x, h1, h2] <;> omega)), (by rw [hs, if_pos rfl, toN_snoc]; exact hu2)⟩
        (case hm => first | omega | (simp; omega))
        (case hf => simp [FrameL, hL, hgt, e1, e2, e7, e12, e13, e14, hlt, q_x, g_x, l_x, r_x, z_x, h1, h2, f1_0, f2_0, f12_0, f13_0])
      · have hlb : leftB y z xs[j] = false := by unfold leftB; rw [h1]; simp [h2]
        rw [hlb] at hs
        repeat (first
          | (refine WD_block (fun K hK => ?_))
          | (refine WD_seq (fun K hK => ?_))
          | (refine WD_region (fun K hK => ?_))
          | ((first | refine RunD_o rfl rfl rfl rfl rfl (fun X hX => ?_) | refine RunD_s rfl rfl rfl rfl (fun X hX => ?_) | refine RunD_g rfl rfl rfl rfl rfl rfl rfl (fun X Y hX hY => ?_) | refine RunD_gc rfl rfl rfl rfl rfl rfl (fun Y hY => ?_) | refine WD_c rfl (fun X Y hX hY => ?_)); (try dsimp only); simp (disch := first | omega | (simp; done) | fail) [wrap64c, if_pos, if_neg, opAnd, opOr, opXor, opDiff, opShr, opBit, hL, hgt, e1, e2, e7, e12, e13, e14, hlt, q_x, g_x, l_x, r_x, z_x, h1, h2]; (first | refine hX _ _ ?_ | refine hX ?_ | refine hY ?_); (try clear hX X); try clear hY Y)
          | (refine RunD_nil ?_; refine hK _ _ ?_; clear hK K)
          | (refine RunD_nil ?_)
          | (refine WD_skip ?_)
          | (refine WD_exit ?_)
          | (refine WD_ret ?_)
          | (refine hK.1 _ _ ?_; clear hK K)
          | (refine hK.2.1 _ _ ?_; clear hK K)
          | (refine hK.2 _ _ _ ?hne ?_; (case hne => simp; done); clear hK K)
          | (refine hK.2.2 _ _ _ ?hne ?_; (case hne => simp; done); clear hK K))
        refine hK.1 _ _ _ ?hm ?hf ⟨j + 1, u, rfl, (by simp (disch := first | omega | (simp; done) | fail) [wrap64c, if_pos, if_neg, opAnd, opOr, opXor, opDiff, opShr, opBit, hL, hgt, e1, e2, e7, e12, e13, e14, hlt, q_x, g_x, l_x, r_x, z_x, h1, h2] <;> omega), (by simp (disch := first | omega | (simp; done) | fail) [wrap64c, if_pos, if_neg, opAnd, opOr, opXor, opDiff, opShr, opBit, hL, hgt, e1, e2, e7, e12, e13, e14, hlt, q_x, g_x, l_x, r_x, z_x, h1, h2] <;> omega), (by first | omega | assumption | (simp (disch := first | omega | (simp; done) | fail) [wrap64c, if_pos, if_neg, opAnd, opOr, opXor, opDiff, opShr, opBit, hL, hgt, e1, e2, e7, e12, e13, e14, hlt, q_x, g_x, l_x, r_x, z_x, h1, h2] <;> omega)), (by first | omega | assumption | (simp (disch := first | omega | (simp; done) | fail) [wrap64c, if_pos, if_neg, opAnd, opOr, opXor, opDiff, opShr, opBit, hL, hgt, e1, e2, e7, e12, e13, e14, hlt, q_x, g_x, l_x, r_x, z_x, h1, h2] <;> omega)), (by first | omega | assumption | (simp (disch := first | omega | (simp; done) | fail) [wrap64c, if_pos, if_neg, opAnd, opOr, opXor, opDiff, opShr, opBit, hL, hgt, e1, e2, e7, e12, e13, e14, hlt, q_x, g_x, l_x, r_x, z_x, h1, h2] <;> omega)), (by rw [hs]; exact hu)⟩
        (case hm => first | omega | (simp; omega))
        (case hf => simp [FrameL, hL, hgt, e1, e2, e7, e12, e13, e14, hlt, q_x, g_x, l_x, r_x, z_x, h1, h2, f1_0, f2_0, f12_0, f13_0])
  · repeat (first
      | (refine WD_block (fun K hK => ?_))
      | (refine WD_seq (fun K hK => ?_))
      | (refine WD_region (fun K hK => ?_))
      | ((first | refine RunD_o rfl rfl rfl rfl rfl (fun X hX => ?_) | refine RunD_s rfl rfl rfl rfl (fun X hX => ?_) | refine RunD_g rfl rfl rfl rfl rfl rfl rfl (fun X Y hX hY => ?_) | refine RunD_gc rfl rfl rfl rfl rfl rfl (fun Y hY => ?_) | refine WD_c rfl (fun X Y hX hY => ?_)); (try dsimp only); simp (disch := first | omega | (simp; done) | fail) [wrap64c, if_pos, if_neg, opAnd, opOr, opXor, opDiff, opShr, opBit, hL, hgt, e1, e2, e7, e12, e13, e14, hlt]; (first | refine hX _ _ ?_ | refine hX ?_ | refine hY ?_); (try clear hX X); try clear hY Y)
      | (refine RunD_nil ?_; refine hK _ _ ?_; clear hK K)
      | (refine RunD_nil ?_)
      | (refine WD_skip ?_)
      | (refine WD_exit ?_)
      | (refine WD_ret ?_)
      | (refine hK.1 _ _ ?_; clear hK K)
      | (refine hK.2.1 _ _ ?_; clear hK K)
      | (refine hK.2 _ _ _ ?hne ?_; (case hne => simp; done); clear hK K)
      | (refine hK.2.2 _ _ _ ?hne ?_; (case hne => simp; done); clear hK K))
    rw [List.take_of_length_le (by omega)] at hu
    have hle := left_len xs y z
    exact done_ret rfl ⟨ha, (hu.own (by simp; omega)).sub fun o ho => ⟨by have := ho.1; omega, ho.2⟩⟩

theorem spLeft_ok (h : Hp) (v : Value) (N : Int) (xs : List Nat) (y z : Nat) (hv : Space h v N (toN xs)) (hx : ∀ x ∈ xs, x < 128) (hl : xs.length < 2 ^ 39) (hy : y < 128) (hz : z < 128) :
    ∃ v' h', CallOK Try.prog 105 #[v, .int .i64 (y : Int), .int .i64 (z : Int)] h v' h' ∧ Adds h h' ∧ IntsO (Btw h.next h'.next) h' v' (toN (leftN xs y z)) := by
  refine call_L (args := [v, .int .i64 (y : Int), .int .i64 (z : Int)]) 33 _ [.tmp 6] Try.func105 rfl rfl rfl ?_
  obtain ⟨b, rfl, hX⟩ := hv
  have hL := hX.lenD
  have hgt := toN_get xs
  have hln := toN_length xs
  repeat (first
    | (refine WD_block (fun K hK => ?_))
    | (refine WD_seq (fun K hK => ?_))
    | (refine WD_region (fun K hK => ?_))
    | ((first | refine RunD_o rfl rfl rfl rfl rfl (fun X hX => ?_) | refine RunD_s rfl rfl rfl rfl (fun X hX => ?_) | refine RunD_g rfl rfl rfl rfl rfl rfl rfl (fun X Y hX hY => ?_) | refine RunD_gc rfl rfl rfl rfl rfl rfl (fun Y hY => ?_) | refine WD_c rfl (fun X Y hX hY => ?_)); (try dsimp only); simp (disch := first | omega | (simp; done) | fail) [wrap64c, if_pos, if_neg, opAnd, opOr, opXor, opDiff, opShr, opBit, hL, hgt]; (first | refine hX _ _ ?_ | refine hX ?_ | refine hY ?_); (try clear hX X); try clear hY Y)
    | (refine RunD_nil ?_; refine hK _ _ ?_; clear hK K)
    | (refine RunD_nil ?_)
    | (refine WD_skip ?_)
    | (refine WD_exit ?_)
    | (refine WD_ret ?_)
    | (refine hK.1 _ _ ?_; clear hK K)
    | (refine hK.2.1 _ _ ?_; clear hK K)
    | (refine hK.2 _ _ _ ?hne ?_; (case hne => simp; done); clear hK K)
    | (refine hK.2.2 _ _ _ ?hne ?_; (case hne => simp; done); clear hK K))
  refine WD_loopF [1, 2, 11, 12] (fun m tm h' => ∃ j u, m = xs.length - j ∧ tm 7 = u ∧ tm 13 = .int .i64 (j : Int) ∧ (j ≤ xs.length) ∧ (Adds h h') ∧ (h.next < h'.next) ∧ (IntsA (h.next + 1) h' u (toN (leftN (xs.take j) y z)))) _ ⟨0, _, rfl, (by simp (disch := first | omega | (simp; done) | fail) [wrap64c, if_pos, if_neg, opAnd, opOr, opXor, opDiff, opShr, opBit, hL, hgt]), (by simp (disch := first | omega | (simp; done) | fail) [wrap64c, if_pos, if_neg, opAnd, opOr, opXor, opDiff, opShr, opBit, hL, hgt]), (by first | omega | assumption | (simp (disch := first | omega | (simp; done) | fail) [wrap64c, if_pos, if_neg, opAnd, opOr, opXor, opDiff, opShr, opBit, hL, hgt] <;> omega)), (by repeat (first | exact keep_self _ | exact adds_self _ | assumption | exact Adds.keeps (by assumption) | refine keeps_alloc ?_ _ | refine adds_alloc ?_ _ _ _ | refine adds_allocM ?_ _ | (refine keeps_put ?_ ?hle _; (case hle => first | omega | (simp; done) | (simp; omega))) | (refine adds_put ?_ ?hle _ _ _; (case hle => first | omega | (simp; done) | (simp; omega))))), (by simp), (.nil _ _)⟩ ?_
  rintro m tm h' hFr ⟨j, u, rfl, e7, e13, hj, ha, hn, hu⟩ K hK
  simp only [FrameL] at hFr
  obtain ⟨f1_0, f2_0, f11_0, f12_0, -⟩ := hFr
  try simp (disch := first | omega | (simp; done) | fail) [wrap64c, if_pos, if_neg, opAnd, opOr, opXor, opDiff, opShr, opBit, hL, hgt] at f1_0 f2_0 f11_0 f12_0
  have e1 := f1_0
  have e2 := f2_0
  have e11 := f11_0
  have e12 := f12_0
  by_cases hlt : j < xs.length
  · obtain ⟨o_x, i_x, c_x, cs_x, own_x, ex_x, es_x, q_x, b_x, g_x, l_x, r_x⟩ := (hX.keep ha.1).open ((by omega))
    have z_x : ∀ h2 : i_x < cs_x.length, cs_x[i_x] = _ := fun h2 => r_x 0 ((by omega)) h2
    have hx1 := hx _ (List.getElem_mem hlt)
    have hs := left_take hlt y z
    have hle := left_len (xs.take j) y z
    have htl : (xs.take j).length ≤ xs.length := by simp; omega
    have hab : nAnd z xs[j] ≤ z := nAnd_le _ _
    have hcm := nAnd_comm z xs[j]
    cases h1 : (ndiff y xs[j] == 0)
    · have hlb : leftB y z xs[j] = false := by unfold leftB; rw [h1]; rfl
      have h1' : ¬ ndiff y xs[j] = 0 := by simpa using h1
      rw [hlb] at hs
      repeat (first
        | (refine WD_block (fun K hK => ?_))
        | (refine WD_seq (fun K hK => ?_))
        | (refine WD_region (fun K hK => ?_))
        | ((first | refine RunD_o rfl rfl rfl rfl rfl (fun X hX => ?_) | refine RunD_s rfl rfl rfl rfl (fun X hX => ?_) | refine RunD_g rfl rfl rfl rfl rfl rfl rfl (fun X Y hX hY => ?_) | refine RunD_gc rfl rfl rfl rfl rfl rfl (fun Y hY => ?_) | refine WD_c rfl (fun X Y hX hY => ?_)); (try dsimp only); simp (disch := first | omega | (simp; done) | fail) [wrap64c, if_pos, if_neg, opAnd, opOr, opXor, opDiff, opShr, opBit, hL, hgt, e1, e2, e7, e11, e12, e13, hlt, q_x, g_x, l_x, r_x, z_x, hcm, h1']; (first | refine hX _ _ ?_ | refine hX ?_ | refine hY ?_); (try clear hX X); try clear hY Y)
        | (refine RunD_nil ?_; refine hK _ _ ?_; clear hK K)
        | (refine RunD_nil ?_)
        | (refine WD_skip ?_)
        | (refine WD_exit ?_)
        | (refine WD_ret ?_)
        | (refine hK.1 _ _ ?_; clear hK K)
        | (refine hK.2.1 _ _ ?_; clear hK K)
        | (refine hK.2 _ _ _ ?hne ?_; (case hne => simp; done); clear hK K)
        | (refine hK.2.2 _ _ _ ?hne ?_; (case hne => simp; done); clear hK K))
      refine hK.1 _ _ _ ?hm ?hf ⟨j + 1, u, rfl, (by simp (disch := first | omega | (simp; done) | fail) [wrap64c, if_pos, if_neg, opAnd, opOr, opXor, opDiff, opShr, opBit, hL, hgt, e1, e2, e7, e11, e12, e13, hlt, q_x, g_x, l_x, r_x, z_x, hcm, h1'] <;> omega), (by simp (disch := first | omega | (simp; done) | fail) [wrap64c, if_pos, if_neg, opAnd, opOr, opXor, opDiff, opShr, opBit, hL, hgt, e1, e2, e7, e11, e12, e13, hlt, q_x, g_x, l_x, r_x, z_x, hcm, h1'] <;> omega), (by first | omega | assumption | (simp (disch := first | omega | (simp; done) | fail) [wrap64c, if_pos, if_neg, opAnd, opOr, opXor, opDiff, opShr, opBit, hL, hgt, e1, e2, e7, e11, e12, e13, hlt, q_x, g_x, l_x, r_x, z_x, hcm, h1'] <;> omega)), (by first | omega | assumption | (simp (disch := first | omega | (simp; done) | fail) [wrap64c, if_pos, if_neg, opAnd, opOr, opXor, opDiff, opShr, opBit, hL, hgt, e1, e2, e7, e11, e12, e13, hlt, q_x, g_x, l_x, r_x, z_x, hcm, h1'] <;> omega)), (by first | omega | assumption | (simp (disch := first | omega | (simp; done) | fail) [wrap64c, if_pos, if_neg, opAnd, opOr, opXor, opDiff, opShr, opBit, hL, hgt, e1, e2, e7, e11, e12, e13, hlt, q_x, g_x, l_x, r_x, z_x, hcm, h1'] <;> omega)), (by rw [hs]; exact hu)⟩
      (case hm => first | omega | (simp; omega))
      (case hf => simp [FrameL, hL, hgt, e1, e2, e7, e11, e12, e13, hlt, q_x, g_x, l_x, r_x, z_x, hcm, h1', f1_0, f2_0, f11_0, f12_0])
    · have h1' : ndiff y xs[j] = 0 := by simpa using h1
      by_cases h2 : nAnd xs[j] z = 0
      · have hlb : leftB y z xs[j] = true := by unfold leftB; rw [h1, h2]; rfl
        rw [hlb] at hs
        repeat (first
          | (refine WD_block (fun K hK => ?_))
          | (refine WD_seq (fun K hK => ?_))
          | (refine WD_region (fun K hK => ?_))
          | ((first | refine RunD_o rfl rfl rfl rfl rfl (fun X hX => ?_) | refine RunD_s rfl rfl rfl rfl (fun X hX => ?_) | refine RunD_g rfl rfl rfl rfl rfl rfl rfl (fun X Y hX hY => ?_) | refine RunD_gc rfl rfl rfl rfl rfl rfl (fun Y hY => ?_) | refine WD_c rfl (fun X Y hX hY => ?_)); (try dsimp only); simp (disch := first | omega | (simp; done) | fail) [wrap64c, if_pos, if_neg, opAnd, opOr, opXor, opDiff, opShr, opBit, hL, hgt, e1, e2, e7, e11, e12, e13, hlt, q_x, g_x, l_x, r_x, z_x, hcm, h1', h2]; (first | refine hX _ _ ?_ | refine hX ?_ | refine hY ?_); (try clear hX X); try clear hY Y)
          | (refine RunD_nil ?_; refine hK _ _ ?_; clear hK K)
          | (refine RunD_nil ?_)
          | (refine WD_skip ?_)
          | (refine WD_exit ?_)
          | (refine WD_ret ?_)
          | (refine hK.1 _ _ ?_; clear hK K)
          | (refine hK.2.1 _ _ ?_; clear hK K)
          | (refine hK.2 _ _ _ ?hne ?_; (case hne => simp; done); clear hK K)
          | (refine hK.2.2 _ _ _ ?hne ?_; (case hne => simp; done); clear hK K))
        obtain ⟨u2, h2', hap, hu2, ha2, hn2, hs2⟩ := appI hu (xs[j] : Int) (by simp; omega) hn ha (by omega)
        repeat (first
          | (refine WD_block (fun K hK => ?_))
          | (refine WD_seq (fun K hK => ?_))
          | (refine WD_region (fun K hK => ?_))
          | ((first | refine RunD_o rfl rfl rfl rfl rfl (fun X hX => ?_) | refine RunD_s rfl rfl rfl rfl (fun X hX => ?_) | refine RunD_g rfl rfl rfl rfl rfl rfl rfl (fun X Y hX hY => ?_) | refine RunD_gc rfl rfl rfl rfl rfl rfl (fun Y hY => ?_) | refine WD_c rfl (fun X Y hX hY => ?_)); (try dsimp only); simp (disch := first | omega | (simp; done) | fail) [wrap64c, if_pos, if_neg, opAnd, opOr, opXor, opDiff, opShr, opBit, hL, hgt, e1, e2, e7, e11, e12, e13, hlt, q_x, g_x, l_x, r_x, z_x, hcm, h1', h2, hap]; (first | refine hX _ _ ?_ | refine hX ?_ | refine hY ?_); (try clear hX X); try clear hY Y)
          | (refine RunD_nil ?_; refine hK _ _ ?_; clear hK K)
          | (refine RunD_nil ?_)
          | (refine WD_skip ?_)
          | (refine WD_exit ?_)
          | (refine WD_ret ?_)
          | (refine hK.1 _ _ ?_; clear hK K)
          | (refine hK.2.1 _ _ ?_; clear hK K)
          | (refine hK.2 _ _ _ ?hne ?_; (case hne => simp; done); clear hK K)
          | (refine hK.2.2 _ _ _ ?hne ?_; (case hne => simp; done); clear hK K))
        refine hK.1 _ _ _ ?hm ?hf ⟨j + 1, u2, rfl, (by simp (disch := first | omega | (simp; done) | fail) [wrap64c, if_pos, if_neg, opAnd, opOr, opXor, opDiff, opShr, opBit, hL, hgt, e1, e2, e7, e11, e12, e13, hlt, q_x, g_x, l_x, r_x, z_x, hcm, h1', h2] <;> omega), (by simp (disch := first | omega | (simp; done) | fail) [wrap64c, if_pos, if_neg, opAnd, opOr, opXor, opDiff, opShr, opBit, hL, hgt, e1, e2, e7, e11, e12, e13, hlt, q_x, g_x, l_x, r_x, z_x, hcm, h1', h2] <;> omega), (by first | omega | assumption | (simp (disch := first | omega | (simp; done) | fail) [wrap64c, if_pos, if_neg, opAnd, opOr, opXor, opDiff, opShr, opBit, hL, hgt, e1, e2, e7, e11, e12, e13, hlt, q_x, g_x, l_x, r_x, z_x, hcm, h1', h2] <;> omega)), (by first | omega | assumption | (simp (disch := first | omega | (simp; done) | fail) [wrap64c, if_pos, if_neg, opAnd, opOr, opXor, opDiff, opShr, opBit, hL, hgt, e1, e2, e7, e11, e12, e13, hlt, q_x, g_x, l_x, r_x, z_x, hcm, h1', h2] <;> omega)), (by first | omega | assumption | (simp (disch := first | omega | (simp; done) | fail) [wrap64c, if_pos, if_neg, opAnd, opOr, opXor, opDiff, opShr, opBit, hL, hgt, e1, e2, e7, e11, e12, e13, hlt, q_x, g_x, l_x, r_x, z_x, hcm, h1', h2] <;> omega)), (by rw [hs, if_pos rfl, toN_snoc]; exact hu2)⟩
        (case hm => first | omega | (simp; omega))
        (case hf => simp [FrameL, hL, hgt, e1, e2, e7, e11, e12, e13, hlt, q_x, g_x, l_x, r_x, z_x, hcm, h1', h2, f1_0, f2_0, f11_0, f12_0])
      · have hlb : leftB y z xs[j] = false := by unfold leftB; rw [h1]; simp [h2]
        rw [hlb] at hs
        repeat (first
          | (refine WD_block (fun K hK => ?_))
          | (refine WD_seq (fun K hK => ?_))
          | (refine WD_region (fun K hK => ?_))
          | ((first | refine RunD_o rfl rfl rfl rfl rfl (fun X hX => ?_) | refine RunD_s rfl rfl rfl rfl (fun X hX => ?_) | refine RunD_g rfl rfl rfl rfl rfl rfl rfl (fun X Y hX hY => ?_) | refine RunD_gc rfl rfl rfl rfl rfl rfl (fun Y hY => ?_) | refine WD_c rfl (fun X Y hX hY => ?_)); (try dsimp only); simp (disch := first | omega | (simp; done) | fail) [wrap64c, if_pos, if_neg, opAnd, opOr, opXor, opDiff, opShr, opBit, hL, hgt, e1, e2, e7, e11, e12, e13, hlt, q_x, g_x, l_x, r_x, z_x, hcm, h1', h2]; (first | refine hX _ _ ?_ | refine hX ?_ | refine hY ?_); (try clear hX X); try clear hY Y)
          | (refine RunD_nil ?_; refine hK _ _ ?_; clear hK K)
          | (refine RunD_nil ?_)
          | (refine WD_skip ?_)
          | (refine WD_exit ?_)
          | (refine WD_ret ?_)
          | (refine hK.1 _ _ ?_; clear hK K)
          | (refine hK.2.1 _ _ ?_; clear hK K)
          | (refine hK.2 _ _ _ ?hne ?_; (case hne => simp; done); clear hK K)
          | (refine hK.2.2 _ _ _ ?hne ?_; (case hne => simp; done); clear hK K))
        refine hK.1 _ _ _ ?hm ?hf ⟨j + 1, u, rfl, (by simp (disch := first | omega | (simp; done) | fail) [wrap64c, if_pos, if_neg, opAnd, opOr, opXor, opDiff, opShr, opBit, hL, hgt, e1, e2, e7, e11, e12, e13, hlt, q_x, g_x, l_x, r_x, z_x, hcm, h1', h2] <;> omega), (by simp (disch := first | omega | (simp; done) | fail) [wrap64c, if_pos, if_neg, opAnd, opOr, opXor, opDiff, opShr, opBit, hL, hgt, e1, e2, e7, e11, e12, e13, hlt, q_x, g_x, l_x, r_x, z_x, hcm, h1', h2] <;> omega), (by first | omega | assumption | (simp (disch := first | omega | (simp; done) | fail) [wrap64c, if_pos, if_neg, opAnd, opOr, opXor, opDiff, opShr, opBit, hL, hgt, e1, e2, e7, e11, e12, e13, hlt, q_x, g_x, l_x, r_x, z_x, hcm, h1', h2] <;> omega)), (by first | omega | assumption | (simp (disch := first | omega | (simp; done) | fail) [wrap64c, if_pos, if_neg, opAnd, opOr, opXor, opDiff, opShr, opBit, hL, hgt, e1, e2, e7, e11, e12, e13, hlt, q_x, g_x, l_x, r_x, z_x, hcm, h1', h2] <;> omega)), (by first | omega | assumption | (simp (disch := first | omega | (simp; done) | fail) [wrap64c, if_pos, if_neg, opAnd, opOr, opXor, opDiff, opShr, opBit, hL, hgt, e1, e2, e7, e11, e12, e13, hlt, q_x, g_x, l_x, r_x, z_x, hcm, h1', h2] <;> omega)), (by rw [hs]; exact hu)⟩
        (case hm => first | omega | (simp; omega))
        (case hf => simp [FrameL, hL, hgt, e1, e2, e7, e11, e12, e13, hlt, q_x, g_x, l_x, r_x, z_x, hcm, h1', h2, f1_0, f2_0, f11_0, f12_0])
  · repeat (first
      | (refine WD_block (fun K hK => ?_))
      | (refine WD_seq (fun K hK => ?_))
      | (refine WD_region (fun K hK => ?_))
      | ((first | refine RunD_o rfl rfl rfl rfl rfl (fun X hX => ?_) | refine RunD_s rfl rfl rfl rfl (fun X hX => ?_) | refine RunD_g rfl rfl rfl rfl rfl rfl rfl (fun X Y hX hY => ?_) | refine RunD_gc rfl rfl rfl rfl rfl rfl (fun Y hY => ?_) | refine WD_c rfl (fun X Y hX hY => ?_)); (try dsimp only); simp (disch := first | omega | (simp; done) | fail) [wrap64c, if_pos, if_neg, opAnd, opOr, opXor, opDiff, opShr, opBit, hL, hgt, e1, e2, e7, e11, e12, e13, hlt]; (first | refine hX _ _ ?_ | refine hX ?_ | refine hY ?_); (try clear hX X); try clear hY Y)
      | (refine RunD_nil ?_; refine hK _ _ ?_; clear hK K)
      | (refine RunD_nil ?_)
      | (refine WD_skip ?_)
      | (refine WD_exit ?_)
      | (refine WD_ret ?_)
      | (refine hK.1 _ _ ?_; clear hK K)
      | (refine hK.2.1 _ _ ?_; clear hK K)
      | (refine hK.2 _ _ _ ?hne ?_; (case hne => simp; done); clear hK K)
      | (refine hK.2.2 _ _ _ ?hne ?_; (case hne => simp; done); clear hK K))
    rw [List.take_of_length_le (by omega)] at hu
    have hle := left_len xs y z
    exact done_ret rfl ⟨ha, (hu.own (by simp; omega)).sub fun o ho => ⟨by have := ho.1; omega, ho.2⟩⟩

theorem foldOr_bit : ∀ (L : List Nat) (a i : Nat), (L.foldl nOr a).testBit i = (a.testBit i || L.any fun x => x.testBit i)
  | [], a, i => by simp
  | x :: L, a, i => by rw [List.foldl_cons, foldOr_bit L, nOr_bit, List.any_cons, Bool.or_assoc]
theorem foldAnd_bit : ∀ (L : List Nat) (a i : Nat), (L.foldl nAnd a).testBit i = (a.testBit i && L.all fun x => x.testBit i)
  | [], a, i => by simp
  | x :: L, a, i => by rw [List.foldl_cons, foldAnd_bit L, nAnd_bit, List.all_cons, Bool.and_assoc]
theorem foldDiff_bit : ∀ (L : List Nat) (a i : Nat), (L.foldl ndiff a).testBit i = (a.testBit i && L.all fun x => !x.testBit i)
  | [], a, i => by simp
  | x :: L, a, i => by rw [List.foldl_cons, foldDiff_bit L, ndiff_bit, List.all_cons, Bool.and_assoc]
theorem all_not (L : List Nat) (i : Nat) : (L.all fun x => x.testBit i) = !L.any fun x => !x.testBit i := by
  induction L with
  | nil => rfl
  | cons x L ih => simp only [List.all_cons, List.any_cons, ih]; cases x.testBit i <;> simp
theorem items_open (L : List Nat) : itemsN (ndiff (L.foldl nOr 0) (L.foldl nAnd 127)) = openN L := by
  unfold itemsN openN openK
  apply List.filter_congr
  intro i hi
  have hi7 : i < 7 := List.mem_range.1 hi
  have h127 : (127 : Nat).testBit i = true := by
    have := full_bit 7 i
    rw [show bit 7 - 1 = 127 from rfl] at this
    simpa [hi7] using this
  rw [ndiff_bit, foldOr_bit, foldAnd_bit, Nat.zero_testBit, Bool.false_or, h127, Bool.true_and, all_not, Bool.not_not]
  rfl
theorem fold_take {L : List Nat} {j : Nat} (hj : j < L.length) (f : Nat → Nat → Nat) (a : Nat) : (L.take (j + 1)).foldl f a = f ((L.take j).foldl f a) L[j] := by
  rw [List.take_succ_eq_append_getElem hj, List.foldl_append]; rfl
theorem foldOr_lt {L : List Nat} (hL : ∀ x ∈ L, x < 128) {a : Nat} (ha : a < 128) : L.foldl nOr a < 128 := by
  induction L generalizing a with
  | nil => exact ha
  | cons x L ih => exact ih (fun y hy => hL y (by simp [hy])) (nOr128 ha (hL x (by simp)))
theorem foldAnd_le (L : List Nat) (a : Nat) : L.foldl nAnd a ≤ a := by
  induction L generalizing a with
  | nil => exact Nat.le_refl _
  | cons x L ih => exact Nat.le_trans (ih _) (nAnd_le _ _)

theorem open_ok (h : Hp) (v : Value) (L : List Nat) (hv : Ints h v (toN L)) (hx : ∀ x ∈ L, x < 128) (hl : L.length < 2 ^ 39) :
    ∃ v' h', CallOK Try.prog 109 #[v] h v' h' ∧ Adds h h' ∧ IntsO (Btw h.next h'.next) h' v' (toN (openN L)) := by
  refine call_L (args := [v]) 24 _ [.tmp 2] Try.func109 rfl rfl rfl ?_
  have hL := hv.lenD
  have hgt := toN_get L
  have hln := toN_length L
  repeat (first
    | (refine WD_block (fun K hK => ?_))
    | (refine WD_seq (fun K hK => ?_))
    | (refine WD_region (fun K hK => ?_))
    | ((first | refine RunD_o rfl rfl rfl rfl rfl (fun X hX => ?_) | refine RunD_s rfl rfl rfl rfl (fun X hX => ?_) | refine WD_c rfl (fun X Y hX hY => ?_)); (try dsimp only); simp (disch := first | omega | (simp; done) | fail) [wrap64c, if_pos, if_neg, opAnd, opOr, opXor, opDiff, opShr, opBit, hL, hgt]; (first | refine hX _ _ ?_ | refine hX ?_ | refine hY ?_); (try clear hX X); try clear hY Y)
    | (refine RunD_nil ?_; refine hK _ _ ?_; clear hK K)
    | (refine RunD_nil ?_)
    | (refine WD_skip ?_)
    | (refine WD_exit ?_)
    | (refine WD_ret ?_)
    | (refine hK.1 _ _ ?_; clear hK K)
    | (refine hK.2.1 _ _ ?_; clear hK K)
    | (refine hK.2 _ _ _ ?hne ?_; (case hne => simp; done); clear hK K)
    | (refine hK.2.2 _ _ _ ?hne ?_; (case hne => simp; done); clear hK K))
  refine WD_loopF [7, 8] (fun m tm h' => ∃ j, m = L.length - j ∧ h = h' ∧ tm 3 = .int .i64 (((L.take j).foldl nAnd 127 : Nat) : Int) ∧ tm 4 = .int .i64 (((L.take j).foldl nOr 0 : Nat) : Int) ∧ tm 9 = .int .i64 (j : Int) ∧ (j ≤ L.length)) _ ⟨0, rfl, rfl, (by simp (disch := first | omega | (simp; done) | fail) [wrap64c, if_pos, if_neg, opAnd, opOr, opXor, opDiff, opShr, opBit, hL, hgt]), (by simp (disch := first | omega | (simp; done) | fail) [wrap64c, if_pos, if_neg, opAnd, opOr, opXor, opDiff, opShr, opBit, hL, hgt]), (by simp (disch := first | omega | (simp; done) | fail) [wrap64c, if_pos, if_neg, opAnd, opOr, opXor, opDiff, opShr, opBit, hL, hgt]), (by first | omega | assumption | (simp (disch := first | omega | (simp; done) | fail) [wrap64c, if_pos, if_neg, opAnd, opOr, opXor, opDiff, opShr, opBit, hL, hgt] <;> omega))⟩ ?_
  rintro m tm h' hFr ⟨j, rfl, rfl, e3, e4, e9, hj⟩ K hK
  simp only [FrameL] at hFr
  obtain ⟨f7_0, f8_0, -⟩ := hFr
  try simp (disch := first | omega | (simp; done) | fail) [wrap64c, if_pos, if_neg, opAnd, opOr, opXor, opDiff, opShr, opBit, hL, hgt] at f7_0 f8_0
  have e7 := f7_0
  have e8 := f8_0
  have hbo := foldOr_lt (L := L.take j) (fun x hm => hx x (List.mem_of_mem_take hm)) (a := 0) (by omega)
  have hba := foldAnd_le (L.take j) 127
  by_cases hlt : j < L.length
  · obtain ⟨o_x, i_x, c_x, cs_x, own_x, ex_x, es_x, q_x, b_x, g_x, l_x, r_x⟩ := hv.open ((by omega))
    have z_x : ∀ h2 : i_x < cs_x.length, cs_x[i_x] = _ := fun h2 => r_x 0 ((by omega)) h2
    have hx1 := hx _ (List.getElem_mem hlt)
    have h1 := fold_take hlt nAnd 127
    have h2 := fold_take hlt nOr 0
    repeat (first
      | (refine WD_block (fun K hK => ?_))
      | (refine WD_seq (fun K hK => ?_))
      | (refine WD_region (fun K hK => ?_))
      | ((first | refine RunD_o rfl rfl rfl rfl rfl (fun X hX => ?_) | refine RunD_s rfl rfl rfl rfl (fun X hX => ?_) | refine WD_c rfl (fun X Y hX hY => ?_)); (try dsimp only); simp (disch := first | omega | (simp; done) | fail) [wrap64c, if_pos, if_neg, opAnd, opOr, opXor, opDiff, opShr, opBit, hL, hgt, e3, e4, e7, e8, e9, hlt, q_x, g_x, l_x, r_x, z_x]; (first | refine hX _ _ ?_ | refine hX ?_ | refine hY ?_); (try clear hX X); try clear hY Y)
      | (refine RunD_nil ?_; refine hK _ _ ?_; clear hK K)
      | (refine RunD_nil ?_)
      | (refine WD_skip ?_)
      | (refine WD_exit ?_)
      | (refine WD_ret ?_)
      | (refine hK.1 _ _ ?_; clear hK K)
      | (refine hK.2.1 _ _ ?_; clear hK K)
      | (refine hK.2 _ _ _ ?hne ?_; (case hne => simp; done); clear hK K)
      | (refine hK.2.2 _ _ _ ?hne ?_; (case hne => simp; done); clear hK K))
    refine hK.1 _ _ _ ?hm ?hf ⟨j + 1, rfl, rfl, (by simp [h1]), (by simp [h2]), (by simp (disch := first | omega | (simp; done) | fail) [wrap64c, if_pos, if_neg, opAnd, opOr, opXor, opDiff, opShr, opBit, hL, hgt, e3, e4, e7, e8, e9, hlt, q_x, g_x, l_x, r_x, z_x] <;> omega), (by first | omega | assumption | (simp (disch := first | omega | (simp; done) | fail) [wrap64c, if_pos, if_neg, opAnd, opOr, opXor, opDiff, opShr, opBit, hL, hgt, e3, e4, e7, e8, e9, hlt, q_x, g_x, l_x, r_x, z_x] <;> omega))⟩
    (case hm => first | omega | (simp; omega))
    (case hf => simp [FrameL, hL, hgt, e3, e4, e7, e8, e9, hlt, q_x, g_x, l_x, r_x, z_x, f7_0, f8_0])
  · rw [List.take_of_length_le (by omega)] at hbo hba e3 e4
    have hd := ndiff128 (b := L.foldl nAnd 127) hbo
    repeat (first
      | (refine WD_block (fun K hK => ?_))
      | (refine WD_seq (fun K hK => ?_))
      | (refine WD_region (fun K hK => ?_))
      | ((first | refine RunD_o rfl rfl rfl rfl rfl (fun X hX => ?_) | refine RunD_s rfl rfl rfl rfl (fun X hX => ?_) | refine WD_c rfl (fun X Y hX hY => ?_)); (try dsimp only); simp (disch := first | omega | (simp; done) | fail) [wrap64c, if_pos, if_neg, opAnd, opOr, opXor, opDiff, opShr, opBit, hL, hgt, e3, e4, e7, e8, e9, hlt]; (first | refine hX _ _ ?_ | refine hX ?_ | refine hY ?_); (try clear hX X); try clear hY Y)
      | (refine RunD_nil ?_; refine hK _ _ ?_; clear hK K)
      | (refine RunD_nil ?_)
      | (refine WD_skip ?_)
      | (refine WD_exit ?_)
      | (refine WD_ret ?_)
      | (refine hK.1 _ _ ?_; clear hK K)
      | (refine hK.2.1 _ _ ?_; clear hK K)
      | (refine hK.2 _ _ _ ?hne ?_; (case hne => simp; done); clear hK K)
      | (refine hK.2.2 _ _ _ ?hne ?_; (case hne => simp; done); clear hK K))
    obtain ⟨u, h1, hc1, ha1, hi1, _⟩ := items_ok h (ndiff (L.foldl nOr 0) (L.foldl nAnd 127)) (by omega)
    refine RunD_c rfl rfl rfl rfl (by simp) (by simp) ?ha (hc1) ?_
    (case ha => simp (disch := first | omega | (simp; done) | fail) [wrap64c, if_pos, if_neg, opAnd, opOr, opXor, opDiff, opShr, opBit, hL, hgt, e3, e4, e7, e8, e9, hlt])
    repeat (first
      | (refine WD_block (fun K hK => ?_))
      | (refine WD_seq (fun K hK => ?_))
      | (refine WD_region (fun K hK => ?_))
      | ((first | refine RunD_o rfl rfl rfl rfl rfl (fun X hX => ?_) | refine RunD_s rfl rfl rfl rfl (fun X hX => ?_) | refine WD_c rfl (fun X Y hX hY => ?_)); (try dsimp only); simp (disch := first | omega | (simp; done) | fail) [wrap64c, if_pos, if_neg, opAnd, opOr, opXor, opDiff, opShr, opBit, hL, hgt, e3, e4, e7, e8, e9, hlt]; (first | refine hX _ _ ?_ | refine hX ?_ | refine hY ?_); (try clear hX X); try clear hY Y)
      | (refine RunD_nil ?_; refine hK _ _ ?_; clear hK K)
      | (refine RunD_nil ?_)
      | (refine WD_skip ?_)
      | (refine WD_exit ?_)
      | (refine WD_ret ?_)
      | (refine hK.1 _ _ ?_; clear hK K)
      | (refine hK.2.1 _ _ ?_; clear hK K)
      | (refine hK.2 _ _ _ ?hne ?_; (case hne => simp; done); clear hK K)
      | (refine hK.2.2 _ _ _ ?hne ?_; (case hne => simp; done); clear hK K))
    rw [items_open] at hi1
    exact done_ret rfl ⟨ha1, hi1⟩

theorem has_take {L : List Nat} {j : Nat} (hj : j < L.length) (i : Nat) : ((hasL (L.take (j + 1)) i).length : Int) = (hasL (L.take j) i).length + if L[j].testBit i = true then 1 else 0 := by
  unfold hasL
  rw [List.take_succ_eq_append_getElem hj, List.filter_append]
  by_cases h : L[j].testBit i = true <;> simp [h]
theorem has_take_le (L : List Nat) (j i : Nat) : (hasL (L.take j) i).length ≤ L.length := by
  have h1 : (hasL (L.take j) i).length ≤ (L.take j).length := List.length_filter_le _ _
  have h2 : (L.take j).length ≤ L.length := by simp; omega
  omega

/-- An asker: its space, the maps of what is known. -/
def AskC (N : Int) (b m1 m2 : Value) : List Value := [.int .i64 N, b, m1, m2]
theorem half_ok (h : Hp) (o : Nat) (N : Int) (b m1 m2 : Value) (own ex : Bool) (es : Nat) (xs : List Nat) (y z : Nat) (ho : o < h.next) (hg : h.get o = .cells [.int .i64 N, b, m1, m2] own ex es) (hX : Ints h b (toN xs))
    (hx : ∀ x ∈ xs, x < 128) (hl : xs.length < 2 ^ 39) (hy : y < 128) (hz : z < 128) :
    CallOK Try.prog 79 #[.pointer (some ⟨o, 0, none⟩), .int .i64 (y : Int), .int .i64 (z : Int)] h (.int .i64 (halfN (leftN xs y z))) h := by
  refine call_P 59 _ [.tmp 6] Try.func79 rfl rfl rfl (by first | rfl | simp) ?_
  have hg0 := hg
  repeat (first
    | (refine WD_block (fun K hK => ?_))
    | (refine WD_seq (fun K hK => ?_))
    | (refine WD_region (fun K hK => ?_))
    | ((first | refine RunD_o rfl rfl rfl rfl rfl (fun X hX => ?_) | refine RunD_s rfl rfl rfl rfl (fun X hX => ?_) | refine RunD_g rfl rfl rfl rfl rfl rfl rfl (fun X Y hX hY => ?_) | refine RunD_gc rfl rfl rfl rfl rfl rfl (fun Y hY => ?_) | refine WD_c rfl (fun X Y hX hY => ?_)); (try dsimp only); simp (disch := first | omega | (simp; done) | fail) [wrap64c, if_pos, if_neg, opAnd, opOr, opXor, opDiff, opShr, opBit, hg0]; (first | refine hX _ _ ?_ | refine hX ?_ | refine hY ?_); (try clear hX X); try clear hY Y)
    | (refine RunD_nil ?_; refine hK _ _ ?_; clear hK K)
    | (refine RunD_nil ?_)
    | (refine WD_skip ?_)
    | (refine WD_exit ?_)
    | (refine WD_ret ?_)
    | (refine hK.1 _ _ ?_; clear hK K)
    | (refine hK.2.1 _ _ ?_; clear hK K)
    | (refine hK.2 _ _ _ ?hne ?_; (case hne => simp; done); clear hK K)
    | (refine hK.2.2 _ _ _ ?hne ?_; (case hne => simp; done); clear hK K))
  obtain ⟨v1, h1, hc1, ha1, hi1⟩ := imLeft_ok h (.agg #[.int .i64 N, b]) N xs y z (.mk hX) hx hl hy hz
  refine RunD_c rfl rfl rfl rfl (by simp) (by simp) ?ha (hc1) ?_
  (case ha => simp (disch := first | omega | (simp; done) | fail) [wrap64c, if_pos, if_neg, opAnd, opOr, opXor, opDiff, opShr, opBit, hg0])
  obtain ⟨L, hLe⟩ : ∃ L, L = leftN xs y z := ⟨_, rfl⟩
  have hLx : ∀ x ∈ L, x < 128 := fun x hm => hx x (left_sub (hLe ▸ hm))
  have hLl : L.length < 2 ^ 39 := by have := left_len xs y z; rw [hLe]; omega
  rw [← hLe] at hi1
  repeat (first
    | (refine WD_block (fun K hK => ?_))
    | (refine WD_seq (fun K hK => ?_))
    | (refine WD_region (fun K hK => ?_))
    | ((first | refine RunD_o rfl rfl rfl rfl rfl (fun X hX => ?_) | refine RunD_s rfl rfl rfl rfl (fun X hX => ?_) | refine RunD_g rfl rfl rfl rfl rfl rfl rfl (fun X Y hX hY => ?_) | refine RunD_gc rfl rfl rfl rfl rfl rfl (fun Y hY => ?_) | refine WD_c rfl (fun X Y hX hY => ?_)); (try dsimp only); simp (disch := first | omega | (simp; done) | fail) [wrap64c, if_pos, if_neg, opAnd, opOr, opXor, opDiff, opShr, opBit, hg0]; (first | refine hX _ _ ?_ | refine hX ?_ | refine hY ?_); (try clear hX X); try clear hY Y)
    | (refine RunD_nil ?_; refine hK _ _ ?_; clear hK K)
    | (refine RunD_nil ?_)
    | (refine WD_skip ?_)
    | (refine WD_exit ?_)
    | (refine WD_ret ?_)
    | (refine hK.1 _ _ ?_; clear hK K)
    | (refine hK.2.1 _ _ ?_; clear hK K)
    | (refine hK.2 _ _ _ ?hne ?_; (case hne => simp; done); clear hK K)
    | (refine hK.2.2 _ _ _ ?hne ?_; (case hne => simp; done); clear hK K))
  obtain ⟨v2, h2, hc2, ha2, hi2⟩ := open_ok h1 v1 L hi1.ints hLx hLl
  refine RunD_c rfl rfl rfl rfl (by simp) (by simp) ?ha (hc2) ?_
  (case ha => simp (disch := first | omega | (simp; done) | fail) [wrap64c, if_pos, if_neg, opAnd, opOr, opXor, opDiff, opShr, opBit, hg0])
  have hv1 := hi1.ints.keep ha2.1
  have hM1 := hv1.lenD
  have hM2 := hi2.ints.lenD
  have hgt1 := toN_get L
  have hgt2 := toN_get (openN L)
  have hln1 := toN_length L
  have hln2 := toN_length (openN L)
  have hol : (openN L).length ≤ 7 := openK_len L 7
  have K2 := ha1.1.trans ha2.1
  repeat (first
    | (refine WD_block (fun K hK => ?_))
    | (refine WD_seq (fun K hK => ?_))
    | (refine WD_region (fun K hK => ?_))
    | ((first | refine RunD_o rfl rfl rfl rfl rfl (fun X hX => ?_) | refine RunD_s rfl rfl rfl rfl (fun X hX => ?_) | refine RunD_g rfl rfl rfl rfl rfl rfl rfl (fun X Y hX hY => ?_) | refine RunD_gc rfl rfl rfl rfl rfl rfl (fun Y hY => ?_) | refine WD_c rfl (fun X Y hX hY => ?_)); (try dsimp only); simp (disch := first | omega | (simp; done) | fail) [wrap64c, if_pos, if_neg, opAnd, opOr, opXor, opDiff, opShr, opBit, hg0, hM1, hM2, hgt1, hgt2]; (first | refine hX _ _ ?_ | refine hX ?_ | refine hY ?_); (try clear hX X); try clear hY Y)
    | (refine RunD_nil ?_; refine hK _ _ ?_; clear hK K)
    | (refine RunD_nil ?_)
    | (refine WD_skip ?_)
    | (refine WD_exit ?_)
    | (refine WD_ret ?_)
    | (refine hK.1 _ _ ?_; clear hK K)
    | (refine hK.2.1 _ _ ?_; clear hK K)
    | (refine hK.2 _ _ _ ?hne ?_; (case hne => simp; done); clear hK K)
    | (refine hK.2.2 _ _ _ ?hne ?_; (case hne => simp; done); clear hK K))
  refine WD_loopF [9, 23, 24] (fun m tm h' => ∃ j, m = (openN L).length - j ∧ h2 = h' ∧ tm 7 = .int .i64 (halfS L ((openN L).take j)).1 ∧ tm 8 = .int .i64 ((halfS L ((openN L).take j)).2 : Int) ∧ tm 25 = .int .i64 (j : Int) ∧ (j ≤ (openN L).length)) _ ⟨0, rfl, rfl, (by simp [halfS]), (by simp [halfS]), (by simp (disch := first | omega | (simp; done) | fail) [wrap64c, if_pos, if_neg, opAnd, opOr, opXor, opDiff, opShr, opBit, hg0, hM1, hM2, hgt1, hgt2]), (by first | omega | assumption | (simp (disch := first | omega | (simp; done) | fail) [wrap64c, if_pos, if_neg, opAnd, opOr, opXor, opDiff, opShr, opBit, hg0, hM1, hM2, hgt1, hgt2] <;> omega))⟩ ?_
  rintro m tm h' hFr ⟨j, rfl, rfl, e7, e8, e25, hj⟩ K hK
  simp only [FrameL] at hFr
  obtain ⟨f9_0, f23_0, f24_0, -⟩ := hFr
  try simp (disch := first | omega | (simp; done) | fail) [wrap64c, if_pos, if_neg, opAnd, opOr, opXor, opDiff, opShr, opBit, hg0, hM1, hM2, hgt1, hgt2] at f9_0 f23_0 f24_0
  have e9 := f9_0
  have e23 := f23_0
  have e24 := f24_0
  by_cases hlt : j < (openN L).length
  · obtain ⟨o_x, i_x, c_x, cs_x, own_x, ex_x, es_x, q_x, b_x, g_x, l_x, r_x⟩ := hi2.ints.open ((by omega))
    have z_x : ∀ h2 : i_x < cs_x.length, cs_x[i_x] = _ := fun h2 => r_x 0 ((by omega)) h2
    obtain ⟨i, hi⟩ : ∃ i, i = (openN L)[j] := ⟨_, rfl⟩
    have hi7 : i < 7 := by rw [hi]; exact (mem_openK.1 (List.getElem_mem hlt)).1
    have hi' := hi.symm
    repeat (first
      | (refine WD_block (fun K hK => ?_))
      | (refine WD_seq (fun K hK => ?_))
      | (refine WD_region (fun K hK => ?_))
      | ((first | refine RunD_o rfl rfl rfl rfl rfl (fun X hX => ?_) | refine RunD_s rfl rfl rfl rfl (fun X hX => ?_) | refine RunD_g rfl rfl rfl rfl rfl rfl rfl (fun X Y hX hY => ?_) | refine RunD_gc rfl rfl rfl rfl rfl rfl (fun Y hY => ?_) | refine WD_c rfl (fun X Y hX hY => ?_)); (try dsimp only); simp (disch := first | omega | (simp; done) | fail) [wrap64c, if_pos, if_neg, opAnd, opOr, opXor, opDiff, opShr, opBit, hg0, hM1, hM2, hgt1, hgt2, e7, e8, e9, e23, e24, e25, hlt, q_x, g_x, l_x, r_x, z_x, hi']; (first | refine hX _ _ ?_ | refine hX ?_ | refine hY ?_); (try clear hX X); try clear hY Y)
      | (refine RunD_nil ?_; refine hK _ _ ?_; clear hK K)
      | (refine RunD_nil ?_)
      | (refine WD_skip ?_)
      | (refine WD_exit ?_)
      | (refine WD_ret ?_)
      | (refine hK.1 _ _ ?_; clear hK K)
      | (refine hK.2.1 _ _ ?_; clear hK K)
      | (refine hK.2 _ _ _ ?hne ?_; (case hne => simp; done); clear hK K)
      | (refine hK.2.2 _ _ _ ?hne ?_; (case hne => simp; done); clear hK K))
    refine WD_loopF [7, 8, 9, 11, 23, 24, 25, 29, 30] (fun m tm h' => ∃ k, m = L.length - k ∧ h2 = h' ∧ tm 12 = .int .i64 (2 * ((hasL (L.take k) i).length : Int) - (k : Int)) ∧ tm 31 = .int .i64 (k : Int) ∧ (k ≤ L.length)) _ ⟨0, rfl, rfl, (by simp [hasL]), (by simp (disch := first | omega | (simp; done) | fail) [wrap64c, if_pos, if_neg, opAnd, opOr, opXor, opDiff, opShr, opBit, hg0, hM1, hM2, hgt1, hgt2, e7, e8, e9, e23, e24, e25, hlt, q_x, g_x, l_x, r_x, z_x, hi']), (by first | omega | assumption | (simp (disch := first | omega | (simp; done) | fail) [wrap64c, if_pos, if_neg, opAnd, opOr, opXor, opDiff, opShr, opBit, hg0, hM1, hM2, hgt1, hgt2, e7, e8, e9, e23, e24, e25, hlt, q_x, g_x, l_x, r_x, z_x, hi'] <;> omega))⟩ ?_
    rintro m tm h' hFr ⟨k, rfl, rfl, e12, e31, hk⟩ K hK
    simp only [FrameL] at hFr
    obtain ⟨f7_1, f8_1, f9_1, f11_1, f23_1, f24_1, f25_1, f29_1, f30_1, -⟩ := hFr
    try simp (disch := first | omega | (simp; done) | fail) [wrap64c, if_pos, if_neg, opAnd, opOr, opXor, opDiff, opShr, opBit, hg0, hM1, hM2, hgt1, hgt2, e7, e8, e9, e23, e24, e25, hlt, q_x, g_x, l_x, r_x, z_x, hi'] at f7_1 f8_1 f9_1 f11_1 f23_1 f24_1 f25_1 f29_1 f30_1
    have e7 := f7_1
    have e8 := f8_1
    have e9 := f9_1
    have e11 := f11_1
    have e23 := f23_1
    have e24 := f24_1
    have e25 := f25_1
    have e29 := f29_1
    have e30 := f30_1
    have hhl := has_take_le L k i
    by_cases hlk : k < L.length
    · obtain ⟨o_w, i_w, c_w, cs_w, own_w, ex_w, es_w, q_w, b_w, g_w, l_w, r_w⟩ := hv1.open ((by omega))
      have z_w : ∀ h2 : i_w < cs_w.length, cs_w[i_w] = _ := fun h2 => r_w 0 ((by omega)) h2
      have h01 := nShr_and01 L[k] i
      have hsl := nShr_le L[k] i
      have hx1 := hLx _ (List.getElem_mem hlk)
      have hht := has_take hlk i
      have hx01 : nAnd (nShr L[k] i) 1 ≤ 1 := nAnd_le' _ _
      repeat (first
        | (refine WD_block (fun K hK => ?_))
        | (refine WD_seq (fun K hK => ?_))
        | (refine WD_region (fun K hK => ?_))
        | ((first | refine RunD_o rfl rfl rfl rfl rfl (fun X hX => ?_) | refine RunD_s rfl rfl rfl rfl (fun X hX => ?_) | refine RunD_g rfl rfl rfl rfl rfl rfl rfl (fun X Y hX hY => ?_) | refine RunD_gc rfl rfl rfl rfl rfl rfl (fun Y hY => ?_) | refine WD_c rfl (fun X Y hX hY => ?_)); (try dsimp only); simp (disch := first | omega | (simp; done) | fail) [wrap64c, if_pos, if_neg, opAnd, opOr, opXor, opDiff, opShr, opBit, hg0, hM1, hM2, hgt1, hgt2, e7, e8, e9, e23, e24, e25, hlt, q_x, g_x, l_x, r_x, z_x, hi', e11, e12, e29, e30, e31, hlk, q_w, g_w, l_w, r_w, z_w]; (first | refine hX _ _ ?_ | refine hX ?_ | refine hY ?_); (try clear hX X); try clear hY Y)
        | (refine RunD_nil ?_; refine hK _ _ ?_; clear hK K)
        | (refine RunD_nil ?_)
        | (refine WD_skip ?_)
        | (refine WD_exit ?_)
        | (refine WD_ret ?_)
        | (refine hK.1 _ _ ?_; clear hK K)
        | (refine hK.2.1 _ _ ?_; clear hK K)
        | (refine hK.2 _ _ _ ?hne ?_; (case hne => simp; done); clear hK K)
        | (refine hK.2.2 _ _ _ ?hne ?_; (case hne => simp; done); clear hK K))
      refine hK.1 _ _ _ ?hm ?hf ⟨k + 1, rfl, rfl, ?c_12, (by simp (disch := first | omega | (simp; done) | fail) [wrap64c, if_pos, if_neg, opAnd, opOr, opXor, opDiff, opShr, opBit, hg0, hM1, hM2, hgt1, hgt2, e7, e8, e9, e23, e24, e25, hlt, q_x, g_x, l_x, r_x, z_x, hi', e11, e12, e29, e30, e31, hlk, q_w, g_w, l_w, r_w, z_w] <;> omega), (by first | omega | assumption | (simp (disch := first | omega | (simp; done) | fail) [wrap64c, if_pos, if_neg, opAnd, opOr, opXor, opDiff, opShr, opBit, hg0, hM1, hM2, hgt1, hgt2, e7, e8, e9, e23, e24, e25, hlt, q_x, g_x, l_x, r_x, z_x, hi', e11, e12, e29, e30, e31, hlk, q_w, g_w, l_w, r_w, z_w] <;> omega))⟩
      (case hm => first | omega | (simp; omega))
      (case hf => simp [FrameL, hg0, hM1, hM2, hgt1, hgt2, e7, e8, e9, e23, e24, e25, hlt, q_x, g_x, l_x, r_x, z_x, hi', e11, e12, e29, e30, e31, hlk, q_w, g_w, l_w, r_w, z_w, f7_1, f8_1, f9_1, f11_1, f23_1, f24_1, f25_1, f29_1, f30_1])
      case c_12 =>
        exact (by
          simp [h01, hht]
          split <;> omega)
    · have hke : k = L.length := by omega
      have hft : L.take k = L := List.take_of_length_le (by omega)
      rw [hft] at e12 hhl
      obtain ⟨d, hd⟩ : ∃ d : Int, d = 2 * ((hasL L i).length : Int) - (k : Int) := ⟨_, rfl⟩
      rw [← hd] at e12
      have hmx : (if d < -d then -d else d) = (distN L i : Int) := by
        unfold distN
        rw [hke] at hd
        rw [← hd]
        split <;> omega
      have hmx := hmx
      obtain ⟨s1, hs1⟩ : ∃ s1, s1 = (halfS L ((openN L).take j)).1 := ⟨_, rfl⟩
      obtain ⟨s2, hs2⟩ : ∃ s2, s2 = (halfS L ((openN L).take j)).2 := ⟨_, rfl⟩
      have hsn : halfS L ((openN L).take (j + 1)) = if s1 < 0 ∨ distN L i < s2 then ((i : Int), distN L i) else halfS L ((openN L).take j) := by
        rw [List.take_succ_eq_append_getElem hlt, halfS_snoc, ← hi, hs1, hs2]
      rw [← hs1] at e7
      rw [← hs2] at e8
      by_cases c1 : s1 < 0
      · rw [if_pos (.inl c1)] at hsn
        repeat (first
          | (refine WD_block (fun K hK => ?_))
          | (refine WD_seq (fun K hK => ?_))
          | (refine WD_region (fun K hK => ?_))
          | ((first | refine RunD_o rfl rfl rfl rfl rfl (fun X hX => ?_) | refine RunD_s rfl rfl rfl rfl (fun X hX => ?_) | refine RunD_g rfl rfl rfl rfl rfl rfl rfl (fun X Y hX hY => ?_) | refine RunD_gc rfl rfl rfl rfl rfl rfl (fun Y hY => ?_) | refine WD_c rfl (fun X Y hX hY => ?_)); (try dsimp only); simp (disch := first | omega | (simp; done) | fail) [wrap64c, if_pos, if_neg, opAnd, opOr, opXor, opDiff, opShr, opBit, hg0, hM1, hM2, hgt1, hgt2, e7, e8, e9, e23, e24, e25, hlt, q_x, g_x, l_x, r_x, z_x, hi', e11, e12, e29, e30, e31, hlk, hmx, c1]; (first | refine hX _ _ ?_ | refine hX ?_ | refine hY ?_); (try clear hX X); try clear hY Y)
          | (refine RunD_nil ?_; refine hK _ _ ?_; clear hK K)
          | (refine RunD_nil ?_)
          | (refine WD_skip ?_)
          | (refine WD_exit ?_)
          | (refine WD_ret ?_)
          | (refine hK.1 _ _ ?_; clear hK K)
          | (refine hK.2.1 _ _ ?_; clear hK K)
          | (refine hK.2 _ _ _ ?hne ?_; (case hne => simp; done); clear hK K)
          | (refine hK.2.2 _ _ _ ?hne ?_; (case hne => simp; done); clear hK K))
        refine hK.1 _ _ _ ?hm ?hf ⟨j + 1, rfl, rfl, (by simp [hsn]), (by simp [hsn]), (by simp (disch := first | omega | (simp; done) | fail) [wrap64c, if_pos, if_neg, opAnd, opOr, opXor, opDiff, opShr, opBit, hg0, hM1, hM2, hgt1, hgt2, e7, e8, e9, e23, e24, e25, hlt, q_x, g_x, l_x, r_x, z_x, hi', e11, e12, e29, e30, e31, hlk, hmx, c1] <;> omega), (by first | omega | assumption | (simp (disch := first | omega | (simp; done) | fail) [wrap64c, if_pos, if_neg, opAnd, opOr, opXor, opDiff, opShr, opBit, hg0, hM1, hM2, hgt1, hgt2, e7, e8, e9, e23, e24, e25, hlt, q_x, g_x, l_x, r_x, z_x, hi', e11, e12, e29, e30, e31, hlk, hmx, c1] <;> omega))⟩
        (case hm => first | omega | (simp; omega))
        (case hf => simp [FrameL, hg0, hM1, hM2, hgt1, hgt2, e7, e8, e9, e23, e24, e25, hlt, q_x, g_x, l_x, r_x, z_x, hi', e11, e12, e29, e30, e31, hlk, hmx, c1, f9_0, f23_0, f24_0])
      · by_cases c2 : distN L i < s2
        · rw [if_pos (.inr c2)] at hsn
          repeat (first
            | (refine WD_block (fun K hK => ?_))
            | (refine WD_seq (fun K hK => ?_))
            | (refine WD_region (fun K hK => ?_))
            | ((first | refine RunD_o rfl rfl rfl rfl rfl (fun X hX => ?_) | refine RunD_s rfl rfl rfl rfl (fun X hX => ?_) | refine RunD_g rfl rfl rfl rfl rfl rfl rfl (fun X Y hX hY => ?_) | refine RunD_gc rfl rfl rfl rfl rfl rfl (fun Y hY => ?_) | refine WD_c rfl (fun X Y hX hY => ?_)); (try dsimp only); simp (disch := first | omega | (simp; done) | fail) [wrap64c, if_pos, if_neg, opAnd, opOr, opXor, opDiff, opShr, opBit, hg0, hM1, hM2, hgt1, hgt2, e7, e8, e9, e23, e24, e25, hlt, q_x, g_x, l_x, r_x, z_x, hi', e11, e12, e29, e30, e31, hlk, hmx, c1, c2]; (first | refine hX _ _ ?_ | refine hX ?_ | refine hY ?_); (try clear hX X); try clear hY Y)
            | (refine RunD_nil ?_; refine hK _ _ ?_; clear hK K)
            | (refine RunD_nil ?_)
            | (refine WD_skip ?_)
            | (refine WD_exit ?_)
            | (refine WD_ret ?_)
            | (refine hK.1 _ _ ?_; clear hK K)
            | (refine hK.2.1 _ _ ?_; clear hK K)
            | (refine hK.2 _ _ _ ?hne ?_; (case hne => simp; done); clear hK K)
            | (refine hK.2.2 _ _ _ ?hne ?_; (case hne => simp; done); clear hK K))
          refine hK.1 _ _ _ ?hm ?hf ⟨j + 1, rfl, rfl, (by simp [hsn]), (by simp [hsn]), (by simp (disch := first | omega | (simp; done) | fail) [wrap64c, if_pos, if_neg, opAnd, opOr, opXor, opDiff, opShr, opBit, hg0, hM1, hM2, hgt1, hgt2, e7, e8, e9, e23, e24, e25, hlt, q_x, g_x, l_x, r_x, z_x, hi', e11, e12, e29, e30, e31, hlk, hmx, c1, c2] <;> omega), (by first | omega | assumption | (simp (disch := first | omega | (simp; done) | fail) [wrap64c, if_pos, if_neg, opAnd, opOr, opXor, opDiff, opShr, opBit, hg0, hM1, hM2, hgt1, hgt2, e7, e8, e9, e23, e24, e25, hlt, q_x, g_x, l_x, r_x, z_x, hi', e11, e12, e29, e30, e31, hlk, hmx, c1, c2] <;> omega))⟩
          (case hm => first | omega | (simp; omega))
          (case hf => simp [FrameL, hg0, hM1, hM2, hgt1, hgt2, e7, e8, e9, e23, e24, e25, hlt, q_x, g_x, l_x, r_x, z_x, hi', e11, e12, e29, e30, e31, hlk, hmx, c1, c2, f9_0, f23_0, f24_0])
        · rw [if_neg (by omega)] at hsn
          repeat (first
            | (refine WD_block (fun K hK => ?_))
            | (refine WD_seq (fun K hK => ?_))
            | (refine WD_region (fun K hK => ?_))
            | ((first | refine RunD_o rfl rfl rfl rfl rfl (fun X hX => ?_) | refine RunD_s rfl rfl rfl rfl (fun X hX => ?_) | refine RunD_g rfl rfl rfl rfl rfl rfl rfl (fun X Y hX hY => ?_) | refine RunD_gc rfl rfl rfl rfl rfl rfl (fun Y hY => ?_) | refine WD_c rfl (fun X Y hX hY => ?_)); (try dsimp only); simp (disch := first | omega | (simp; done) | fail) [wrap64c, if_pos, if_neg, opAnd, opOr, opXor, opDiff, opShr, opBit, hg0, hM1, hM2, hgt1, hgt2, e7, e8, e9, e23, e24, e25, hlt, q_x, g_x, l_x, r_x, z_x, hi', e11, e12, e29, e30, e31, hlk, hmx, c1, c2]; (first | refine hX _ _ ?_ | refine hX ?_ | refine hY ?_); (try clear hX X); try clear hY Y)
            | (refine RunD_nil ?_; refine hK _ _ ?_; clear hK K)
            | (refine RunD_nil ?_)
            | (refine WD_skip ?_)
            | (refine WD_exit ?_)
            | (refine WD_ret ?_)
            | (refine hK.1 _ _ ?_; clear hK K)
            | (refine hK.2.1 _ _ ?_; clear hK K)
            | (refine hK.2 _ _ _ ?hne ?_; (case hne => simp; done); clear hK K)
            | (refine hK.2.2 _ _ _ ?hne ?_; (case hne => simp; done); clear hK K))
          refine hK.1 _ _ _ ?hm ?hf ⟨j + 1, rfl, rfl, (by simp [hsn, e7, hs1]), (by simp [hsn, e8, hs2]), (by simp (disch := first | omega | (simp; done) | fail) [wrap64c, if_pos, if_neg, opAnd, opOr, opXor, opDiff, opShr, opBit, hg0, hM1, hM2, hgt1, hgt2, e7, e8, e9, e23, e24, e25, hlt, q_x, g_x, l_x, r_x, z_x, hi', e11, e12, e29, e30, e31, hlk, hmx, c1, c2] <;> omega), (by first | omega | assumption | (simp (disch := first | omega | (simp; done) | fail) [wrap64c, if_pos, if_neg, opAnd, opOr, opXor, opDiff, opShr, opBit, hg0, hM1, hM2, hgt1, hgt2, e7, e8, e9, e23, e24, e25, hlt, q_x, g_x, l_x, r_x, z_x, hi', e11, e12, e29, e30, e31, hlk, hmx, c1, c2] <;> omega))⟩
          (case hm => first | omega | (simp; omega))
          (case hf => simp [FrameL, hg0, hM1, hM2, hgt1, hgt2, e7, e8, e9, e23, e24, e25, hlt, q_x, g_x, l_x, r_x, z_x, hi', e11, e12, e29, e30, e31, hlk, hmx, c1, c2, f9_0, f23_0, f24_0])
  · repeat (first
      | (refine WD_block (fun K hK => ?_))
      | (refine WD_seq (fun K hK => ?_))
      | (refine WD_region (fun K hK => ?_))
      | ((first | refine RunD_o rfl rfl rfl rfl rfl (fun X hX => ?_) | refine RunD_s rfl rfl rfl rfl (fun X hX => ?_) | refine RunD_g rfl rfl rfl rfl rfl rfl rfl (fun X Y hX hY => ?_) | refine RunD_gc rfl rfl rfl rfl rfl rfl (fun Y hY => ?_) | refine WD_c rfl (fun X Y hX hY => ?_)); (try dsimp only); simp (disch := first | omega | (simp; done) | fail) [wrap64c, if_pos, if_neg, opAnd, opOr, opXor, opDiff, opShr, opBit, hg0, hM1, hM2, hgt1, hgt2, e7, e8, e9, e23, e24, e25, hlt]; (first | refine hX _ _ ?_ | refine hX ?_ | refine hY ?_); (try clear hX X); try clear hY Y)
      | (refine RunD_nil ?_; refine hK _ _ ?_; clear hK K)
      | (refine RunD_nil ?_)
      | (refine WD_skip ?_)
      | (refine WD_exit ?_)
      | (refine WD_ret ?_)
      | (refine hK.1 _ _ ?_; clear hK K)
      | (refine hK.2.1 _ _ ?_; clear hK K)
      | (refine hK.2 _ _ _ ?hne ?_; (case hne => simp; done); clear hK K)
      | (refine hK.2.2 _ _ _ ?hne ?_; (case hne => simp; done); clear hK K))
    have hft : (openN L).take j = openN L := List.take_of_length_le (by omega)
    exact done_ret rfl (by simp [← hLe, halfN, hft, K2])

theorem asKnown_ok (h : Hp) (v w : Value) (n : Nat) (X : List Int) (L : List Nat) (hv : Space h v n X) (hw : Ints h w (toN L)) (hn : n ≤ 7) (hx : ∀ x ∈ L, x < 128) (hl : L.length < 2 ^ 39) :
    CallOK Try.prog 134 #[v, w] h (.tuple #[.int .i64 ((L.foldl nAnd (bit n - 1) : Nat) : Int), .int .i64 ((L.foldl ndiff (bit n - 1) : Nat) : Int)]) h := by
  refine call_P 32 _ [.tmp 4, .tmp 5] Try.func134 rfl rfl rfl (by first | rfl | simp) ?_
  obtain ⟨b, rfl, hX⟩ := hv
  repeat (first
    | (refine WD_block (fun K hK => ?_))
    | (refine WD_seq (fun K hK => ?_)))
  refine WD_region (fun K hK => ?_)
  repeat (first
    | ((first | refine RunD_o rfl rfl rfl rfl rfl (fun X hX => ?_) | refine RunD_s rfl rfl rfl rfl (fun X hX => ?_) | refine WD_c rfl (fun X Y hX hY => ?_)); (try dsimp only); simp (disch := first | omega | (simp; done) | fail) [wrap64c, if_pos, if_neg, opAnd, opOr, opXor, opDiff, opShr, opBit]; (first | refine hX _ _ ?_ | refine hX ?_ | refine hY ?_); (try clear hX X); try clear hY Y))
  refine RunD_heap fun h0 q_h0 => ?_
  have g_h0 : h0.get h.next = .cells [.int .i64 (n : Int), b] true true 1 := by simp [q_h0]
  have k_h0 : Adds h h0 := by rw [q_h0]; exact (by repeat (first | exact keep_self _ | exact adds_self _ | assumption | exact Adds.keeps (by assumption) | refine keeps_alloc ?_ _ | refine adds_alloc ?_ _ _ _ | refine adds_allocM ?_ _ | (refine keeps_put ?_ ?hle _; (case hle => first | omega | (simp; done) | (simp; omega))) | (refine adds_put ?_ ?hle _ _ _; (case hle => first | omega | (simp; done) | (simp; omega)))))
  have n_h0 : h.next < h0.next := by simp [q_h0]; try omega
  have hw0 := hw.keep k_h0.1
  have hL := hw0.lenD
  have hgt := toN_get L
  have hln := toN_length L
  have hb := bit7 hn
  have hf1 : ((bit n : Nat) : Int) - 1 = ((bit n - 1 : Nat) : Int) := by omega
  repeat (first
    | (refine WD_block (fun K hK => ?_))
    | (refine WD_seq (fun K hK => ?_))
    | (refine WD_region (fun K hK => ?_))
    | ((first | refine RunD_o rfl rfl rfl rfl rfl (fun X hX => ?_) | refine RunD_s rfl rfl rfl rfl (fun X hX => ?_) | refine WD_c rfl (fun X Y hX hY => ?_)); (try dsimp only); simp (disch := first | omega | (simp; done) | fail) [wrap64c, if_pos, if_neg, opAnd, opOr, opXor, opDiff, opShr, opBit, g_h0, hL, hgt, hf1]; (first | refine hX _ _ ?_ | refine hX ?_ | refine hY ?_); (try clear hX X); try clear hY Y)
    | (refine RunD_nil ?_; refine hK _ _ ?_; clear hK K)
    | (refine RunD_nil ?_)
    | (refine WD_skip ?_)
    | (refine WD_exit ?_)
    | (refine WD_ret ?_)
    | (refine hK.1 _ _ ?_; clear hK K)
    | (refine hK.2.1 _ _ ?_; clear hK K)
    | (refine hK.2 _ _ _ ?hne ?_; (case hne => simp; done); clear hK K)
    | (refine hK.2.2 _ _ _ ?hne ?_; (case hne => simp; done); clear hK K))
  refine WD_loopF [17, 18] (fun m tm h' => ∃ j, m = L.length - j ∧ h0 = h' ∧ tm 7 = .int .i64 (((L.take j).foldl nAnd (bit n - 1) : Nat) : Int) ∧ tm 8 = .int .i64 (((L.take j).foldl ndiff (bit n - 1) : Nat) : Int) ∧ tm 19 = .int .i64 (j : Int) ∧ (j ≤ L.length) ∧ ((L.take j).foldl ndiff (bit n - 1) < 128)) _ ⟨0, rfl, rfl, (by simp (disch := first | omega | (simp; done) | fail) [wrap64c, if_pos, if_neg, opAnd, opOr, opXor, opDiff, opShr, opBit, g_h0, hL, hgt, hf1]), (by simp (disch := first | omega | (simp; done) | fail) [wrap64c, if_pos, if_neg, opAnd, opOr, opXor, opDiff, opShr, opBit, g_h0, hL, hgt, hf1]), (by simp (disch := first | omega | (simp; done) | fail) [wrap64c, if_pos, if_neg, opAnd, opOr, opXor, opDiff, opShr, opBit, g_h0, hL, hgt, hf1]), (by first | omega | assumption | (simp (disch := first | omega | (simp; done) | fail) [wrap64c, if_pos, if_neg, opAnd, opOr, opXor, opDiff, opShr, opBit, g_h0, hL, hgt, hf1] <;> omega)), (by simp; omega)⟩ ?_
  rintro m tm h' hFr ⟨j, rfl, rfl, e7, e8, e19, hj, hb2⟩ K hK
  simp only [FrameL] at hFr
  obtain ⟨f17_0, f18_0, -⟩ := hFr
  try simp (disch := first | omega | (simp; done) | fail) [wrap64c, if_pos, if_neg, opAnd, opOr, opXor, opDiff, opShr, opBit, g_h0, hL, hgt, hf1] at f17_0 f18_0
  have e17 := f17_0
  have e18 := f18_0
  have hba := foldAnd_le (L.take j) (bit n - 1)
  by_cases hlt : j < L.length
  · obtain ⟨o_x, i_x, c_x, cs_x, own_x, ex_x, es_x, q_x, b_x, g_x, l_x, r_x⟩ := hw0.open ((by omega))
    have z_x : ∀ h2 : i_x < cs_x.length, cs_x[i_x] = _ := fun h2 => r_x 0 ((by omega)) h2
    have hx1 := hx _ (List.getElem_mem hlt)
    have h1 := fold_take hlt nAnd (bit n - 1)
    have h2 := fold_take hlt ndiff (bit n - 1)
    have h3 := ndiff128 (b := L[j]) hb2
    repeat (first
      | (refine WD_block (fun K hK => ?_))
      | (refine WD_seq (fun K hK => ?_))
      | (refine WD_region (fun K hK => ?_))
      | ((first | refine RunD_o rfl rfl rfl rfl rfl (fun X hX => ?_) | refine RunD_s rfl rfl rfl rfl (fun X hX => ?_) | refine WD_c rfl (fun X Y hX hY => ?_)); (try dsimp only); simp (disch := first | omega | (simp; done) | fail) [wrap64c, if_pos, if_neg, opAnd, opOr, opXor, opDiff, opShr, opBit, g_h0, hL, hgt, hf1, e7, e8, e17, e18, e19, hlt, q_x, g_x, l_x, r_x, z_x]; (first | refine hX _ _ ?_ | refine hX ?_ | refine hY ?_); (try clear hX X); try clear hY Y)
      | (refine RunD_nil ?_; refine hK _ _ ?_; clear hK K)
      | (refine RunD_nil ?_)
      | (refine WD_skip ?_)
      | (refine WD_exit ?_)
      | (refine WD_ret ?_)
      | (refine hK.1 _ _ ?_; clear hK K)
      | (refine hK.2.1 _ _ ?_; clear hK K)
      | (refine hK.2 _ _ _ ?hne ?_; (case hne => simp; done); clear hK K)
      | (refine hK.2.2 _ _ _ ?hne ?_; (case hne => simp; done); clear hK K))
    refine hK.1 _ _ _ ?hm ?hf ⟨j + 1, rfl, rfl, (by simp [h1]), (by simp [h2]), (by simp (disch := first | omega | (simp; done) | fail) [wrap64c, if_pos, if_neg, opAnd, opOr, opXor, opDiff, opShr, opBit, g_h0, hL, hgt, hf1, e7, e8, e17, e18, e19, hlt, q_x, g_x, l_x, r_x, z_x] <;> omega), (by first | omega | assumption | (simp (disch := first | omega | (simp; done) | fail) [wrap64c, if_pos, if_neg, opAnd, opOr, opXor, opDiff, opShr, opBit, g_h0, hL, hgt, hf1, e7, e8, e17, e18, e19, hlt, q_x, g_x, l_x, r_x, z_x] <;> omega)), (by rw [h2]; exact h3)⟩
    (case hm => first | omega | (simp; omega))
    (case hf => simp [FrameL, g_h0, hL, hgt, hf1, e7, e8, e17, e18, e19, hlt, q_x, g_x, l_x, r_x, z_x, f17_0, f18_0])
  · have hft : L.take j = L := List.take_of_length_le (by omega)
    repeat (first
      | (refine WD_block (fun K hK => ?_))
      | (refine WD_seq (fun K hK => ?_))
      | (refine WD_region (fun K hK => ?_))
      | ((first | refine RunD_o rfl rfl rfl rfl rfl (fun X hX => ?_) | refine RunD_s rfl rfl rfl rfl (fun X hX => ?_) | refine WD_c rfl (fun X Y hX hY => ?_)); (try dsimp only); simp (disch := first | omega | (simp; done) | fail) [wrap64c, if_pos, if_neg, opAnd, opOr, opXor, opDiff, opShr, opBit, g_h0, hL, hgt, hf1, e7, e8, e17, e18, e19, hlt]; (first | refine hX _ _ ?_ | refine hX ?_ | refine hY ?_); (try clear hX X); try clear hY Y)
      | (refine RunD_nil ?_; refine hK _ _ ?_; clear hK K)
      | (refine RunD_nil ?_)
      | (refine WD_skip ?_)
      | (refine WD_exit ?_)
      | (refine WD_ret ?_)
      | (refine hK.1 _ _ ?_; clear hK K)
      | (refine hK.2.1 _ _ ?_; clear hK K)
      | (refine hK.2 _ _ _ ?hne ?_; (case hne => simp; done); clear hK K)
      | (refine hK.2.2 _ _ _ ?hne ?_; (case hne => simp; done); clear hK K))
    exact done_ret rfl (by simp [hft, k_h0.1])

theorem known_bit {n : Nat} {L : List Nat} {i : Nat} (hne : L ≠ []) (hi : i < n) : (nOr (L.foldl nAnd (bit n - 1)) (L.foldl ndiff (bit n - 1))).testBit i = !opB L i := by
  rw [nOr_bit, foldAnd_bit, foldDiff_bit, full_bit, all_not, opB]
  have e : (L.all fun x => !x.testBit i) = !L.any fun x => x.testBit i := by
    induction L with
    | nil => rfl
    | cons x L ih =>
      cases L with
      | nil => simp
      | cons y L => simp only [List.all_cons, List.any_cons] at ih ⊢; rw [ih (by simp)]; simp
  rw [e]
  simp only [hi, decide_true, Bool.true_and]
  cases (L.any fun x => x.testBit i) <;> cases (L.any fun x => !x.testBit i) <;> rfl
theorem foldDiff_lt {L : List Nat} {a : Nat} (ha : a < 128) : L.foldl ndiff a < 128 := by
  induction L generalizing a with
  | nil => exact ha
  | cons x L ih => exact ih (ndiff128 ha)

theorem l1Most_ok (h : Hp) (a b : Int) : CallOK Try.prog 112 #[.int .i64 a, .int .i64 b] h (.int .i64 (if b < a then a else b)) h := by
  refine call_P 10 _ [.tmp 4] Try.func112 rfl rfl rfl (by first | rfl | simp) ?_
  by_cases hc : b < a
  · repeat (first
      | (refine WD_block (fun K hK => ?_))
      | (refine WD_seq (fun K hK => ?_))
      | (refine WD_region (fun K hK => ?_))
      | ((first | refine RunD_o rfl rfl rfl rfl rfl (fun X hX => ?_) | refine RunD_s rfl rfl rfl rfl (fun X hX => ?_) | refine WD_c rfl (fun X Y hX hY => ?_)); (try dsimp only); simp (disch := first | omega | (simp; done) | fail) [wrap64c, if_pos, if_neg, opAnd, opOr, opXor, opDiff, opShr, opBit, hc]; (first | refine hX _ _ ?_ | refine hX ?_ | refine hY ?_); (try clear hX X); try clear hY Y)
      | (refine RunD_nil ?_; refine hK _ _ ?_; clear hK K)
      | (refine RunD_nil ?_)
      | (refine WD_skip ?_)
      | (refine WD_exit ?_)
      | (refine WD_ret ?_)
      | (refine hK.1 _ _ ?_; clear hK K)
      | (refine hK.2.1 _ _ ?_; clear hK K)
      | (refine hK.2 _ _ _ ?hne ?_; (case hne => simp; done); clear hK K)
      | (refine hK.2.2 _ _ _ ?hne ?_; (case hne => simp; done); clear hK K))
    exact done_ret rfl (by simp [hc])
  · repeat (first
      | (refine WD_block (fun K hK => ?_))
      | (refine WD_seq (fun K hK => ?_))
      | (refine WD_region (fun K hK => ?_))
      | ((first | refine RunD_o rfl rfl rfl rfl rfl (fun X hX => ?_) | refine RunD_s rfl rfl rfl rfl (fun X hX => ?_) | refine WD_c rfl (fun X Y hX hY => ?_)); (try dsimp only); simp (disch := first | omega | (simp; done) | fail) [wrap64c, if_pos, if_neg, opAnd, opOr, opXor, opDiff, opShr, opBit, hc]; (first | refine hX _ _ ?_ | refine hX ?_ | refine hY ?_); (try clear hX X); try clear hY Y)
      | (refine RunD_nil ?_; refine hK _ _ ?_; clear hK K)
      | (refine RunD_nil ?_)
      | (refine WD_skip ?_)
      | (refine WD_exit ?_)
      | (refine WD_ret ?_)
      | (refine hK.1 _ _ ?_; clear hK K)
      | (refine hK.2.1 _ _ ?_; clear hK K)
      | (refine hK.2 _ _ _ ?hne ?_; (case hne => simp; done); clear hK K)
      | (refine hK.2.2 _ _ _ ?hne ?_; (case hne => simp; done); clear hK K))
    exact done_ret rfl (by simp [hc])
theorem l1Abs_ok (h : Hp) (a : Int) (h1 : -1000000 < a) (h2 : a < 1000000) : CallOK Try.prog 135 #[.int .i64 a] h (.int .i64 ((a.natAbs : Nat) : Int)) h := by
  refine call_P 7 _ [.tmp 2] Try.func135 rfl rfl rfl (by first | rfl | simp) ?_
  repeat (first
    | (refine WD_block (fun K hK => ?_))
    | (refine WD_seq (fun K hK => ?_))
    | (refine WD_region (fun K hK => ?_))
    | ((first | refine RunD_o rfl rfl rfl rfl rfl (fun X hX => ?_) | refine RunD_s rfl rfl rfl rfl (fun X hX => ?_) | refine WD_c rfl (fun X Y hX hY => ?_)); (try dsimp only); simp (disch := first | omega | (simp; done) | fail) [wrap64c, if_pos, if_neg, opAnd, opOr, opXor, opDiff, opShr, opBit]; (first | refine hX _ _ ?_ | refine hX ?_ | refine hY ?_); (try clear hX X); try clear hY Y)
    | (refine RunD_nil ?_; refine hK _ _ ?_; clear hK K)
    | (refine RunD_nil ?_)
    | (refine WD_skip ?_)
    | (refine WD_exit ?_)
    | (refine WD_ret ?_)
    | (refine hK.1 _ _ ?_; clear hK K)
    | (refine hK.2.1 _ _ ?_; clear hK K)
    | (refine hK.2 _ _ _ ?hne ?_; (case hne => simp; done); clear hK K)
    | (refine hK.2.2 _ _ _ ?hne ?_; (case hne => simp; done); clear hK K))
  refine RunD_c rfl rfl rfl rfl (by simp) (by simp) ?ha (l1Most_ok h a (-a)) ?_
  (case ha => simp (disch := first | omega | (simp; done) | fail) [wrap64c, if_pos, if_neg, opAnd, opOr, opXor, opDiff, opShr, opBit])
  repeat (first
    | (refine WD_block (fun K hK => ?_))
    | (refine WD_seq (fun K hK => ?_))
    | (refine WD_region (fun K hK => ?_))
    | ((first | refine RunD_o rfl rfl rfl rfl rfl (fun X hX => ?_) | refine RunD_s rfl rfl rfl rfl (fun X hX => ?_) | refine WD_c rfl (fun X Y hX hY => ?_)); (try dsimp only); simp (disch := first | omega | (simp; done) | fail) [wrap64c, if_pos, if_neg, opAnd, opOr, opXor, opDiff, opShr, opBit]; (first | refine hX _ _ ?_ | refine hX ?_ | refine hY ?_); (try clear hX X); try clear hY Y)
    | (refine RunD_nil ?_; refine hK _ _ ?_; clear hK K)
    | (refine RunD_nil ?_)
    | (refine WD_skip ?_)
    | (refine WD_exit ?_)
    | (refine WD_ret ?_)
    | (refine hK.1 _ _ ?_; clear hK K)
    | (refine hK.2.1 _ _ ?_; clear hK K)
    | (refine hK.2 _ _ _ ?hne ?_; (case hne => simp; done); clear hK K)
    | (refine hK.2.2 _ _ _ ?hne ?_; (case hne => simp; done); clear hK K))
  exact done_ret rfl ⟨by simp; split <;> omega, by simp⟩
end Go.Proofs.Ytpehnhjgdgnnkaa
