/- Numbers of items, sizes, random walks: by the reference and by the program. -/
import Derived.Test.YtpehnhjgdgnnkaaS5
import Derived.Test.YtpehnhjgdgnnkaaS6
namespace Go.Proofs.Ytpehnhjgdgnnkaa
set_option linter.unusedSimpArgs false
set_option linter.unusedVariables false
set_option maxHeartbeats 4000000
open Go Go.Eng
attribute [local irreducible] WD RunD PreD Runs CallOK

theorem spCount_ok (h : Hp) (a : Nat) (ha : a < 128) : CallOK Try.prog 61 #[.int .i64 (a : Int)] h (.int .i64 ((pcN a : Nat) : Int)) h := by
  refine call_P 13 _ [.tmp 2] Try.func61 rfl rfl rfl (by first | rfl | simp) ?_
  repeat (first
    | (refine WD_block (fun K hK => ?_))
    | (refine WD_seq (fun K hK => ?_))
    | (refine WD_region (fun K hK => ?_))
    | ((first | refine RunD_o rfl rfl rfl rfl rfl (fun X hX => ?_) | refine RunD_s rfl rfl rfl rfl (fun X hX => ?_) | refine WD_c rfl (fun X Y hX hY => ?_)); (try dsimp only); simp (disch := first | omega | (simp; done) | fail) [wrap64c, if_pos, if_neg, opAnd, opOr, opXor, opDiff, opShr, opBit]; (first | refine hX _ _ ?_ | refine hX ?_ | refine hY ?_); (try clear hX X); try clear hY Y)
    | (refine RunD_nil ?_; refine hK _ _ ?_; clear hK K)
    | (refine RunD_nil ?_)
    | (refine WD_skip ?_)
    | (refine WD_exit ?_)
    | (refine WD_ret ?_)
    | (refine hK.1 _ _ ?_; clear hK K)
    | (refine hK.2.1 _ _ ?_; clear hK K)
    | (refine hK.2 _ _ _ ?hne ?_; (case hne => simp; done); clear hK K)
    | (refine hK.2.2 _ _ _ ?hne ?_; (case hne => simp; done); clear hK K))
  refine WD_loopF [] (fun m tm h' => ∃ r c k, m = 2 * r + 0 * c ∧ h = h' ∧ tm 0 = .int .i64 (r : Int) ∧ tm 3 = .int .i64 (c : Int) ∧ (r < 2 ^ k) ∧ (k ≤ 7 ∧ c ≤ 7) ∧ (c + pcF k r = pcN a)) _ ⟨a, 0, 7, rfl, rfl, (by simp (disch := first | omega | (simp; done) | fail) [wrap64c, if_pos, if_neg, opAnd, opOr, opXor, opDiff, opShr, opBit]), (by simp (disch := first | omega | (simp; done) | fail) [wrap64c, if_pos, if_neg, opAnd, opOr, opXor, opDiff, opShr, opBit]), (by first | omega | assumption | (simp (disch := first | omega | (simp; done) | fail) [wrap64c, if_pos, if_neg, opAnd, opOr, opXor, opDiff, opShr, opBit] <;> omega)), (by first | omega | assumption | (simp (disch := first | omega | (simp; done) | fail) [wrap64c, if_pos, if_neg, opAnd, opOr, opXor, opDiff, opShr, opBit] <;> omega)), (by simp [pcN])⟩ ?_
  rintro m tm h' hFr ⟨r, c, k, rfl, rfl, e0, e3, hr, hk, hc⟩ K hK
  clear hFr
  by_cases hlt : 0 < r
  · have hk0 : k ≠ 0 := by rintro rfl; simp at hr; omega
    obtain ⟨k, rfl⟩ : ∃ q, k = q + 1 := ⟨k - 1, by omega⟩
    have h1 : nShr r 1 = r / 2 := by unfold nShr; rw [Nat.shiftRight_eq_div_pow]
    have h2 : Int.tmod (r : Int) 2 = ((r % 2 : Nat) : Int) := by rw [Int.tmod_eq_emod_of_nonneg (by omega)]; omega
    obtain ⟨q, hq⟩ : ∃ q, q = r % 2 := ⟨_, rfl⟩
    rw [← hq] at h2
    have h2 := h2
    have hr7 : r < 128 := Nat.lt_of_lt_of_le hr (Nat.pow_le_pow_right (by omega) (show k + 1 ≤ 7 by omega))
    simp only [pcF] at hc
    have := pcF_le k (r / 2)
    obtain ⟨s, hs⟩ : ∃ s, s = r / 2 := ⟨_, rfl⟩
    rw [← hs] at h1 hc
    have hpc := pcN_le a
    repeat (first
      | (refine WD_block (fun K hK => ?_))
      | (refine WD_seq (fun K hK => ?_))
      | (refine WD_region (fun K hK => ?_))
      | ((first | refine RunD_o rfl rfl rfl rfl rfl (fun X hX => ?_) | refine RunD_s rfl rfl rfl rfl (fun X hX => ?_) | refine WD_c rfl (fun X Y hX hY => ?_)); (try dsimp only); simp (disch := first | omega | (simp; done) | fail) [wrap64c, if_pos, if_neg, opAnd, opOr, opXor, opDiff, opShr, opBit, e0, e3, hlt, h1, h2]; (first | refine hX _ _ ?_ | refine hX ?_ | refine hY ?_); (try clear hX X); try clear hY Y)
      | (refine RunD_nil ?_; refine hK _ _ ?_; clear hK K)
      | (refine RunD_nil ?_)
      | (refine WD_skip ?_)
      | (refine WD_exit ?_)
      | (refine WD_ret ?_)
      | (refine hK.1 _ _ ?_; clear hK K)
      | (refine hK.2.1 _ _ ?_; clear hK K)
      | (refine hK.2 _ _ _ ?hne ?_; (case hne => simp; done); clear hK K)
      | (refine hK.2.2 _ _ _ ?hne ?_; (case hne => simp; done); clear hK K))
    refine hK.1 _ _ _ ?hm ?hf ⟨s, c + q, k, rfl, rfl, (by simp (disch := first | omega | (simp; done) | fail) [wrap64c, if_pos, if_neg, opAnd, opOr, opXor, opDiff, opShr, opBit, e0, e3, hlt, h1, h2] <;> omega), (by simp (disch := first | omega | (simp; done) | fail) [wrap64c, if_pos, if_neg, opAnd, opOr, opXor, opDiff, opShr, opBit, e0, e3, hlt, h1, h2] <;> omega), (by rw [Nat.pow_succ] at hr; omega), (by first | omega | assumption | (simp (disch := first | omega | (simp; done) | fail) [wrap64c, if_pos, if_neg, opAnd, opOr, opXor, opDiff, opShr, opBit, e0, e3, hlt, h1, h2] <;> omega)), (by omega)⟩
    (case hm => first | omega | (simp; omega))
    (case hf => simp [FrameL, e0, e3, hlt, h1, h2])
  · repeat (first
      | (refine WD_block (fun K hK => ?_))
      | (refine WD_seq (fun K hK => ?_))
      | (refine WD_region (fun K hK => ?_))
      | ((first | refine RunD_o rfl rfl rfl rfl rfl (fun X hX => ?_) | refine RunD_s rfl rfl rfl rfl (fun X hX => ?_) | refine WD_c rfl (fun X Y hX hY => ?_)); (try dsimp only); simp (disch := first | omega | (simp; done) | fail) [wrap64c, if_pos, if_neg, opAnd, opOr, opXor, opDiff, opShr, opBit, e0, e3, hlt]; (first | refine hX _ _ ?_ | refine hX ?_ | refine hY ?_); (try clear hX X); try clear hY Y)
      | (refine RunD_nil ?_; refine hK _ _ ?_; clear hK K)
      | (refine RunD_nil ?_)
      | (refine WD_skip ?_)
      | (refine WD_exit ?_)
      | (refine WD_ret ?_)
      | (refine hK.1 _ _ ?_; clear hK K)
      | (refine hK.2.1 _ _ ?_; clear hK K)
      | (refine hK.2 _ _ _ ?hne ?_; (case hne => simp; done); clear hK K)
      | (refine hK.2.2 _ _ _ ?hne ?_; (case hne => simp; done); clear hK K))
    have : r = 0 := by omega
    subst this
    rw [pcF_zero] at hc
    exact done_ret rfl (by simp [← hc])

def on1 (x : Int) : Int := IntKind.wrap .u64 (bAnd .u64 (bShr .u64 x 1) 6148914691236517205 + bAnd .u64 x 6148914691236517205)
def on2 (x : Int) : Int := IntKind.wrap .u64 (bAnd .u64 (bShr .u64 x 2) 3689348814741910323 + bAnd .u64 x 3689348814741910323)
def on3 (x : Int) : Int := bAnd .u64 (IntKind.wrap .u64 (bShr .u64 x 4 + x)) 1085102592571150095
def on4 (x : Int) (k : Int) : Int := IntKind.wrap .u64 (x + bShr .u64 x k)
theorem onesD : ∀ a : Nat, a < 128 → bAnd .i64 (IntKind.wrap .i64 (on4 (on4 (on4 (on3 (on2 (on1 (a : Int)))) 8) 16) 32)) 127 = ((pcN a : Nat) : Int) := by decide +kernel
theorem ones64_ok (h : Hp) (a : Nat) (ha : a < 128) : CallOK Try.prog 133 #[.int .u64 (a : Int)] h (.int .i64 ((pcN a : Nat) : Int)) h := by
  refine call_P 35 _ [.tmp 2] Try.func133 rfl rfl rfl (by first | rfl | simp) ?_
  repeat (first
    | (refine WD_block (fun K hK => ?_))
    | (refine WD_seq (fun K hK => ?_))
    | (refine WD_region (fun K hK => ?_))
    | ((first | refine RunD_o rfl rfl rfl rfl rfl (fun X hX => ?_) | refine RunD_s rfl rfl rfl rfl (fun X hX => ?_) | refine WD_c rfl (fun X Y hX hY => ?_)); (try dsimp only); simp (disch := first | omega | (simp; done) | fail) [wrap64c, if_pos, if_neg]; (first | refine hX _ _ ?_ | refine hX ?_ | refine hY ?_); (try clear hX X); try clear hY Y)
    | (refine RunD_nil ?_; refine hK _ _ ?_; clear hK K)
    | (refine RunD_nil ?_)
    | (refine WD_skip ?_)
    | (refine WD_exit ?_)
    | (refine WD_ret ?_)
    | (refine hK.1 _ _ ?_; clear hK K)
    | (refine hK.2.1 _ _ ?_; clear hK K)
    | (refine hK.2 _ _ _ ?hne ?_; (case hne => simp; done); clear hK K)
    | (refine hK.2.2 _ _ _ ?hne ?_; (case hne => simp; done); clear hK K))
  refine done_ret rfl ⟨?_, by simp⟩
  simp
  exact onesD a ha

theorem ones_ok (h : Hp) (a : Nat) (ha : a < 128) : CallOK Try.prog 104 #[.int .u64 (a : Int)] h (.int .i64 ((pcN a : Nat) : Int)) h := by
  refine call_P 8 _ [.tmp 2] Try.func104 rfl rfl rfl (by first | rfl | simp) ?_
  repeat (first
    | (refine WD_block (fun K hK => ?_))
    | (refine WD_seq (fun K hK => ?_))
    | (refine WD_region (fun K hK => ?_))
    | ((first | refine RunD_o rfl rfl rfl rfl rfl (fun X hX => ?_) | refine RunD_s rfl rfl rfl rfl (fun X hX => ?_) | refine WD_c rfl (fun X Y hX hY => ?_)); (try dsimp only); simp (disch := first | omega | (simp; done) | fail) [wrap64c, if_pos, if_neg]; (first | refine hX _ _ ?_ | refine hX ?_ | refine hY ?_); (try clear hX X); try clear hY Y)
    | (refine RunD_nil ?_; refine hK _ _ ?_; clear hK K)
    | (refine RunD_nil ?_)
    | (refine WD_skip ?_)
    | (refine WD_exit ?_)
    | (refine WD_ret ?_)
    | (refine hK.1 _ _ ?_; clear hK K)
    | (refine hK.2.1 _ _ ?_; clear hK K)
    | (refine hK.2 _ _ _ ?hne ?_; (case hne => simp; done); clear hK K)
    | (refine hK.2.2 _ _ _ ?hne ?_; (case hne => simp; done); clear hK K))
  refine RunD_c rfl rfl rfl rfl (by simp) (by simp) ?ha (ones64_ok h a ha) ?_
  (case ha => simp (disch := first | omega | (simp; done) | fail) [wrap64c, if_pos, if_neg])
  repeat (first
    | (refine WD_block (fun K hK => ?_))
    | (refine WD_seq (fun K hK => ?_))
    | (refine WD_region (fun K hK => ?_))
    | ((first | refine RunD_o rfl rfl rfl rfl rfl (fun X hX => ?_) | refine RunD_s rfl rfl rfl rfl (fun X hX => ?_) | refine WD_c rfl (fun X Y hX hY => ?_)); (try dsimp only); simp (disch := first | omega | (simp; done) | fail) [wrap64c, if_pos, if_neg]; (first | refine hX _ _ ?_ | refine hX ?_ | refine hY ?_); (try clear hX X); try clear hY Y)
    | (refine RunD_nil ?_; refine hK _ _ ?_; clear hK K)
    | (refine RunD_nil ?_)
    | (refine WD_skip ?_)
    | (refine WD_exit ?_)
    | (refine WD_ret ?_)
    | (refine hK.1 _ _ ?_; clear hK K)
    | (refine hK.2.1 _ _ ?_; clear hK K)
    | (refine hK.2 _ _ _ ?hne ?_; (case hne => simp; done); clear hK K)
    | (refine hK.2.2 _ _ _ ?hne ?_; (case hne => simp; done); clear hK K))
  exact done_ret rfl (by simp)

theorem wrapU (a : Nat) (ha : a < 128) : IntKind.wrap .u64 (a : Int) = a := by
  have e : IntKind.wrap .u64 (a : Int) = (a : Int) % 18446744073709551616 := rfl
  rw [e]; omega
theorem count_ok (h : Hp) (a : Nat) (ha : a < 128) : CallOK Try.prog 74 #[.int .i64 (a : Int)] h (.int .i64 ((pcN a : Nat) : Int)) h := by
  refine call_P 6 _ [.tmp 2] Try.func74 rfl rfl rfl (by first | rfl | simp) ?_
  have hw := wrapU a ha
  repeat (first
    | (refine WD_block (fun K hK => ?_))
    | (refine WD_seq (fun K hK => ?_))
    | (refine WD_region (fun K hK => ?_))
    | ((first | refine RunD_o rfl rfl rfl rfl rfl (fun X hX => ?_) | refine RunD_s rfl rfl rfl rfl (fun X hX => ?_) | refine WD_c rfl (fun X Y hX hY => ?_)); (try dsimp only); simp (disch := first | omega | (simp; done) | fail) [wrap64c, if_pos, if_neg, hw]; (first | refine hX _ _ ?_ | refine hX ?_ | refine hY ?_); (try clear hX X); try clear hY Y)
    | (refine RunD_nil ?_; refine hK _ _ ?_; clear hK K)
    | (refine RunD_nil ?_)
    | (refine WD_skip ?_)
    | (refine WD_exit ?_)
    | (refine WD_ret ?_)
    | (refine hK.1 _ _ ?_; clear hK K)
    | (refine hK.2.1 _ _ ?_; clear hK K)
    | (refine hK.2 _ _ _ ?hne ?_; (case hne => simp; done); clear hK K)
    | (refine hK.2.2 _ _ _ ?hne ?_; (case hne => simp; done); clear hK K))
  refine RunD_c rfl rfl rfl rfl (by simp) (by simp) ?ha (ones_ok h a ha) ?_
  (case ha => simp (disch := first | omega | (simp; done) | fail) [wrap64c, if_pos, if_neg, hw])
  repeat (first
    | (refine WD_block (fun K hK => ?_))
    | (refine WD_seq (fun K hK => ?_))
    | (refine WD_region (fun K hK => ?_))
    | ((first | refine RunD_o rfl rfl rfl rfl rfl (fun X hX => ?_) | refine RunD_s rfl rfl rfl rfl (fun X hX => ?_) | refine WD_c rfl (fun X Y hX hY => ?_)); (try dsimp only); simp (disch := first | omega | (simp; done) | fail) [wrap64c, if_pos, if_neg, hw]; (first | refine hX _ _ ?_ | refine hX ?_ | refine hY ?_); (try clear hX X); try clear hY Y)
    | (refine RunD_nil ?_; refine hK _ _ ?_; clear hK K)
    | (refine RunD_nil ?_)
    | (refine WD_skip ?_)
    | (refine WD_exit ?_)
    | (refine WD_ret ?_)
    | (refine hK.1 _ _ ?_; clear hK K)
    | (refine hK.2.1 _ _ ?_; clear hK K)
    | (refine hK.2 _ _ _ ?hne ?_; (case hne => simp; done); clear hK K)
    | (refine hK.2.2 _ _ _ ?hne ?_; (case hne => simp; done); clear hK K))
  exact done_ret rfl (by simp)

/-- Where the first element lies for which something holds. -/
def idxI (p : Int → Bool) (xs : List Int) : Int := match xs.findIdx? p with
  | some i => i
  | none => -1
theorem idxI_at {p : Int → Bool} {xs : List Int} {j : Nat} (h1 : ∀ i (hi : i < xs.length), i < j → p xs[i] = false) (hj : j < xs.length) (hp : p xs[j] = true) : idxI p xs = j := by
  have : xs.findIdx? p = some j := by
    rw [List.findIdx?_eq_some_iff_getElem]
    exact ⟨hj, hp, fun i hi => by simpa using h1 i (by omega) hi⟩
  rw [idxI, this]
theorem idxI_none {p : Int → Bool} {xs : List Int} (h1 : ∀ i (hi : i < xs.length), p xs[i] = false) : idxI p xs = -1 := by
  have : xs.findIdx? p = none := by
    rw [List.findIdx?_eq_none_iff]
    intro x hx
    obtain ⟨i, hi, rfl⟩ := List.getElem_of_mem hx
    exact h1 i hi
  rw [idxI, this]
theorem idxI_any (p : Int → Bool) (xs : List Int) : decide (0 ≤ idxI p xs) = xs.any p := by
  unfold idxI
  cases h : xs.findIdx? p with
  | none =>
    rw [List.findIdx?_eq_none_iff] at h
    have : xs.any p = false := by rw [List.any_eq_false]; intro x hx; simp [h x hx]
    rw [this]; rfl
  | some i =>
    rw [List.findIdx?_eq_some_iff_getElem] at h
    obtain ⟨hi, hp, _⟩ := h
    have : xs.any p = true := by rw [List.any_eq_true]; exact ⟨_, List.getElem_mem hi, hp⟩
    rw [this]; simp
theorem indexFunc_ok (h : Hp) (v : Value) (xs : List Int) (p : Int → Bool) (f : Nat) (fst cap : Array Value) (hv : Ints h v xs) (hf : fnOK Try.prog f = true)
    (hp : ∀ x ∈ xs, CallOK Try.prog f (fst ++ #[.int .i64 x] ++ cap) h (.bool (p x)) h) : CallOK Try.prog 119 #[v, .func (.func f) fst cap] h (.int .i64 (idxI p xs)) h := by
  refine call_P 19 _ [.tmp 4] Try.func119 rfl rfl rfl (by first | rfl | simp) ?_
  have hL := hv.lenD
  have hln := hv.len
  have hf1 := hf
  repeat (first
    | (refine WD_block (fun K hK => ?_))
    | (refine WD_seq (fun K hK => ?_))
    | (refine WD_region (fun K hK => ?_))
    | ((first | refine RunD_o rfl rfl rfl rfl rfl (fun X hX => ?_) | refine RunD_s rfl rfl rfl rfl (fun X hX => ?_) | refine WD_c rfl (fun X Y hX hY => ?_)); (try dsimp only); simp (disch := first | omega | (simp; done) | fail) [wrap64c, if_pos, if_neg, opAnd, opOr, opXor, opDiff, opShr, opBit, hL, hf1]; (first | refine hX _ _ ?_ | refine hX ?_ | refine hY ?_); (try clear hX X); try clear hY Y)
    | (refine RunD_nil ?_; refine hK _ _ ?_; clear hK K)
    | (refine RunD_nil ?_)
    | (refine WD_skip ?_)
    | (refine WD_exit ?_)
    | (refine WD_ret ?_)
    | (refine hK.1 _ _ ?_; clear hK K)
    | (refine hK.2.1 _ _ ?_; clear hK K)
    | (refine hK.2 _ _ _ ?hne ?_; (case hne => simp; done); clear hK K)
    | (refine hK.2.2 _ _ _ ?hne ?_; (case hne => simp; done); clear hK K))
  refine WD_loopF [0, 1, 7] (fun m tm h' => ∃ j, m = xs.length - j ∧ h = h' ∧ tm 8 = .int .i64 (j : Int) ∧ (j ≤ xs.length) ∧ (∀ i (h1 : i < xs.length), i < j → p xs[i] = false)) _ ⟨0, rfl, rfl, (by simp (disch := first | omega | (simp; done) | fail) [wrap64c, if_pos, if_neg, opAnd, opOr, opXor, opDiff, opShr, opBit, hL, hf1]), (by first | omega | assumption | (simp (disch := first | omega | (simp; done) | fail) [wrap64c, if_pos, if_neg, opAnd, opOr, opXor, opDiff, opShr, opBit, hL, hf1] <;> omega)), (by intro i h1 h0; omega)⟩ ?_
  rintro m tm h' hFr ⟨j, rfl, rfl, e8, hj, hx⟩ K hK
  simp only [FrameL] at hFr
  obtain ⟨f0_0, f1_0, f7_0, -⟩ := hFr
  try simp (disch := first | omega | (simp; done) | fail) [wrap64c, if_pos, if_neg, opAnd, opOr, opXor, opDiff, opShr, opBit, hL, hf1] at f0_0 f1_0 f7_0
  have e0 := f0_0
  have e1 := f1_0
  have e7 := f7_0
  by_cases hlt : j < xs.length
  · obtain ⟨o_x, i_x, c_x, cs_x, own_x, ex_x, es_x, q_x, b_x, g_x, l_x, r_x⟩ := hv.open ((by omega))
    have z_x : ∀ h2 : i_x < cs_x.length, cs_x[i_x] = _ := fun h2 => r_x 0 ((by omega)) h2
    repeat (first
      | (refine WD_block (fun K hK => ?_))
      | (refine WD_seq (fun K hK => ?_))
      | (refine WD_region (fun K hK => ?_))
      | ((first | refine RunD_o rfl rfl rfl rfl rfl (fun X hX => ?_) | refine RunD_s rfl rfl rfl rfl (fun X hX => ?_) | refine WD_c rfl (fun X Y hX hY => ?_)); (try dsimp only); simp (disch := first | omega | (simp; done) | fail) [wrap64c, if_pos, if_neg, opAnd, opOr, opXor, opDiff, opShr, opBit, hL, hf1, e0, e1, e7, e8, hlt, q_x, g_x, l_x, r_x, z_x]; (first | refine hX _ _ ?_ | refine hX ?_ | refine hY ?_); (try clear hX X); try clear hY Y)
      | (refine RunD_nil ?_; refine hK _ _ ?_; clear hK K)
      | (refine RunD_nil ?_)
      | (refine WD_skip ?_)
      | (refine WD_exit ?_)
      | (refine WD_ret ?_)
      | (refine hK.1 _ _ ?_; clear hK K)
      | (refine hK.2.1 _ _ ?_; clear hK K)
      | (refine hK.2 _ _ _ ?hne ?_; (case hne => simp; done); clear hK K)
      | (refine hK.2.2 _ _ _ ?hne ?_; (case hne => simp; done); clear hK K))
    refine RunD_cf (fst := fst) (cap := cap) rfl rfl rfl rfl (by simp) (by simp) ?hf ?hk ?ha (hp xs[j] (List.getElem_mem hlt)) ?_
    (case hf => simp (disch := first | omega | (simp; done) | fail) [wrap64c, if_pos, if_neg, opAnd, opOr, opXor, opDiff, opShr, opBit, hL, hf1, e0, e1, e7, e8, hlt, q_x, g_x, l_x, r_x, z_x]; try rfl)
    (case hk => simp (disch := first | omega | (simp; done) | fail) [wrap64c, if_pos, if_neg, opAnd, opOr, opXor, opDiff, opShr, opBit, hL, hf1, e0, e1, e7, e8, hlt, q_x, g_x, l_x, r_x, z_x])
    (case ha => simp (disch := first | omega | (simp; done) | fail) [wrap64c, if_pos, if_neg, opAnd, opOr, opXor, opDiff, opShr, opBit, hL, hf1, e0, e1, e7, e8, hlt, q_x, g_x, l_x, r_x, z_x])
    cases hc : p xs[j]
    · repeat (first
        | (refine WD_block (fun K hK => ?_))
        | (refine WD_seq (fun K hK => ?_))
        | (refine WD_region (fun K hK => ?_))
        | ((first | refine RunD_o rfl rfl rfl rfl rfl (fun X hX => ?_) | refine RunD_s rfl rfl rfl rfl (fun X hX => ?_) | refine WD_c rfl (fun X Y hX hY => ?_)); (try dsimp only); simp (disch := first | omega | (simp; done) | fail) [wrap64c, if_pos, if_neg, opAnd, opOr, opXor, opDiff, opShr, opBit, hL, hf1, e0, e1, e7, e8, hlt, q_x, g_x, l_x, r_x, z_x, hc]; (first | refine hX _ _ ?_ | refine hX ?_ | refine hY ?_); (try clear hX X); try clear hY Y)
        | (refine RunD_nil ?_; refine hK _ _ ?_; clear hK K)
        | (refine RunD_nil ?_)
        | (refine WD_skip ?_)
        | (refine WD_exit ?_)
        | (refine WD_ret ?_)
        | (refine hK.1 _ _ ?_; clear hK K)
        | (refine hK.2.1 _ _ ?_; clear hK K)
        | (refine hK.2 _ _ _ ?hne ?_; (case hne => simp; done); clear hK K)
        | (refine hK.2.2 _ _ _ ?hne ?_; (case hne => simp; done); clear hK K))
      refine hK.1 _ _ _ ?hm ?hf ⟨j + 1, rfl, rfl, (by simp (disch := first | omega | (simp; done) | fail) [wrap64c, if_pos, if_neg, opAnd, opOr, opXor, opDiff, opShr, opBit, hL, hf1, e0, e1, e7, e8, hlt, q_x, g_x, l_x, r_x, z_x, hc] <;> omega), (by first | omega | assumption | (simp (disch := first | omega | (simp; done) | fail) [wrap64c, if_pos, if_neg, opAnd, opOr, opXor, opDiff, opShr, opBit, hL, hf1, e0, e1, e7, e8, hlt, q_x, g_x, l_x, r_x, z_x, hc] <;> omega)), ?c_hx⟩
      (case hm => first | omega | (simp; omega))
      (case hf => simp [FrameL, hL, hf1, e0, e1, e7, e8, hlt, q_x, g_x, l_x, r_x, z_x, hc, f0_0, f1_0, f7_0])
      case c_hx =>
        exact (fun i h1 hi => by
          by_cases e : i = j
          · subst e; exact hc
          · exact hx i h1 (by omega))
    · repeat (first
        | (refine WD_block (fun K hK => ?_))
        | (refine WD_seq (fun K hK => ?_))
        | (refine WD_region (fun K hK => ?_))
        | ((first | refine RunD_o rfl rfl rfl rfl rfl (fun X hX => ?_) | refine RunD_s rfl rfl rfl rfl (fun X hX => ?_) | refine WD_c rfl (fun X Y hX hY => ?_)); (try dsimp only); simp (disch := first | omega | (simp; done) | fail) [wrap64c, if_pos, if_neg, opAnd, opOr, opXor, opDiff, opShr, opBit, hL, hf1, e0, e1, e7, e8, hlt, q_x, g_x, l_x, r_x, z_x, hc]; (first | refine hX _ _ ?_ | refine hX ?_ | refine hY ?_); (try clear hX X); try clear hY Y)
        | (refine RunD_nil ?_; refine hK _ _ ?_; clear hK K)
        | (refine RunD_nil ?_)
        | (refine WD_skip ?_)
        | (refine WD_exit ?_)
        | (refine WD_ret ?_)
        | (refine hK.1 _ _ ?_; clear hK K)
        | (refine hK.2.1 _ _ ?_; clear hK K)
        | (refine hK.2 _ _ _ ?hne ?_; (case hne => simp; done); clear hK K)
        | (refine hK.2.2 _ _ _ ?hne ?_; (case hne => simp; done); clear hK K))
      exact done_ret rfl (by simp [idxI_at hx hlt hc])
  · repeat (first
      | (refine WD_block (fun K hK => ?_))
      | (refine WD_seq (fun K hK => ?_))
      | (refine WD_region (fun K hK => ?_))
      | ((first | refine RunD_o rfl rfl rfl rfl rfl (fun X hX => ?_) | refine RunD_s rfl rfl rfl rfl (fun X hX => ?_) | refine WD_c rfl (fun X Y hX hY => ?_)); (try dsimp only); simp (disch := first | omega | (simp; done) | fail) [wrap64c, if_pos, if_neg, opAnd, opOr, opXor, opDiff, opShr, opBit, hL, hf1, e0, e1, e7, e8, hlt]; (first | refine hX _ _ ?_ | refine hX ?_ | refine hY ?_); (try clear hX X); try clear hY Y)
      | (refine RunD_nil ?_; refine hK _ _ ?_; clear hK K)
      | (refine RunD_nil ?_)
      | (refine WD_skip ?_)
      | (refine WD_exit ?_)
      | (refine WD_ret ?_)
      | (refine hK.1 _ _ ?_; clear hK K)
      | (refine hK.2.1 _ _ ?_; clear hK K)
      | (refine hK.2 _ _ _ ?hne ?_; (case hne => simp; done); clear hK K)
      | (refine hK.2.2 _ _ _ ?hne ?_; (case hne => simp; done); clear hK K))
    exact done_ret rfl (by simp [idxI_none fun i h1 => hx i h1 (by omega)])
theorem containsFunc_ok (h : Hp) (v : Value) (xs : List Int) (p : Int → Bool) (f : Nat) (fst cap : Array Value) (hv : Ints h v xs) (hf : fnOK Try.prog f = true)
    (hp : ∀ x ∈ xs, CallOK Try.prog f (fst ++ #[.int .i64 x] ++ cap) h (.bool (p x)) h) : CallOK Try.prog 99 #[v, .func (.func f) fst cap] h (.bool (xs.any p)) h := by
  refine call_P 9 _ [.tmp 4] Try.func99 rfl rfl rfl (by first | rfl | simp) ?_
  repeat (first
    | (refine WD_block (fun K hK => ?_))
    | (refine WD_seq (fun K hK => ?_))
    | (refine WD_region (fun K hK => ?_))
    | ((first | refine RunD_o rfl rfl rfl rfl rfl (fun X hX => ?_) | refine RunD_s rfl rfl rfl rfl (fun X hX => ?_) | refine WD_c rfl (fun X Y hX hY => ?_)); (try dsimp only); simp (disch := first | omega | (simp; done) | fail) [wrap64c, if_pos, if_neg, opAnd, opOr, opXor, opDiff, opShr, opBit]; (first | refine hX _ _ ?_ | refine hX ?_ | refine hY ?_); (try clear hX X); try clear hY Y)
    | (refine RunD_nil ?_; refine hK _ _ ?_; clear hK K)
    | (refine RunD_nil ?_)
    | (refine WD_skip ?_)
    | (refine WD_exit ?_)
    | (refine WD_ret ?_)
    | (refine hK.1 _ _ ?_; clear hK K)
    | (refine hK.2.1 _ _ ?_; clear hK K)
    | (refine hK.2 _ _ _ ?hne ?_; (case hne => simp; done); clear hK K)
    | (refine hK.2.2 _ _ _ ?hne ?_; (case hne => simp; done); clear hK K))
  refine RunD_c rfl rfl rfl rfl (by simp) (by simp) ?ha (indexFunc_ok h v xs p f fst cap hv hf hp) ?_
  (case ha => simp (disch := first | omega | (simp; done) | fail) [wrap64c, if_pos, if_neg, opAnd, opOr, opXor, opDiff, opShr, opBit])
  have e := idxI_any p xs
  repeat (first
    | (refine WD_block (fun K hK => ?_))
    | (refine WD_seq (fun K hK => ?_))
    | (refine WD_region (fun K hK => ?_))
    | ((first | refine RunD_o rfl rfl rfl rfl rfl (fun X hX => ?_) | refine RunD_s rfl rfl rfl rfl (fun X hX => ?_) | refine WD_c rfl (fun X Y hX hY => ?_)); (try dsimp only); simp (disch := first | omega | (simp; done) | fail) [wrap64c, if_pos, if_neg, opAnd, opOr, opXor, opDiff, opShr, opBit, e]; (first | refine hX _ _ ?_ | refine hX ?_ | refine hY ?_); (try clear hX X); try clear hY Y)
    | (refine RunD_nil ?_; refine hK _ _ ?_; clear hK K)
    | (refine RunD_nil ?_)
    | (refine WD_skip ?_)
    | (refine WD_exit ?_)
    | (refine WD_ret ?_)
    | (refine hK.1 _ _ ?_; clear hK K)
    | (refine hK.2.1 _ _ ?_; clear hK K)
    | (refine hK.2 _ _ _ ?hne ?_; (case hne => simp; done); clear hK K)
    | (refine hK.2.2 _ _ _ ?hne ?_; (case hne => simp; done); clear hK K))
  exact done_ret rfl (by simp [← e])

theorem isNeg_ok (h : Hp) (x : Int) : CallOK Try.prog 100 #[.int .i64 x] h (.bool (decide (x < 0))) h := by
  refine call_P 5 _ [.tmp 2] Try.func100 rfl rfl rfl (by first | rfl | simp) ?_
  repeat (first
    | (refine WD_block (fun K hK => ?_))
    | (refine WD_seq (fun K hK => ?_))
    | (refine WD_region (fun K hK => ?_))
    | ((first | refine RunD_o rfl rfl rfl rfl rfl (fun X hX => ?_) | refine RunD_s rfl rfl rfl rfl (fun X hX => ?_) | refine WD_c rfl (fun X Y hX hY => ?_)); (try dsimp only); simp (disch := first | omega | (simp; done) | fail) [wrap64c, if_pos, if_neg, opAnd, opOr, opXor, opDiff, opShr, opBit]; (first | refine hX _ _ ?_ | refine hX ?_ | refine hY ?_); (try clear hX X); try clear hY Y)
    | (refine RunD_nil ?_; refine hK _ _ ?_; clear hK K)
    | (refine RunD_nil ?_)
    | (refine WD_skip ?_)
    | (refine WD_exit ?_)
    | (refine WD_ret ?_)
    | (refine hK.1 _ _ ?_; clear hK K)
    | (refine hK.2.1 _ _ ?_; clear hK K)
    | (refine hK.2 _ _ _ ?hne ?_; (case hne => simp; done); clear hK K)
    | (refine hK.2.2 _ _ _ ?hne ?_; (case hne => simp; done); clear hK K))
  exact done_ret rfl (by simp)
def chB (ch : List Int) (m : Int) : Bool := decide ((ch.length : Int) ≤ m) && !ch.any fun x => decide (x < 0)
theorem chB_pos {ch : List Int} {m : Int} (h : chB ch m = true) : ((ch.length : Int) ≤ m) ∧ ∀ x ∈ ch, 0 ≤ x := by
  unfold chB at h
  simp only [Bool.and_eq_true, decide_eq_true_eq, Bool.not_eq_true', List.any_eq_false] at h
  exact ⟨h.1, fun x hx => by have := h.2 x hx; omega⟩
theorem areChoices_ok (h : Hp) (v : Value) (ch : List Int) (m : Int) (hv : Ints h v ch) : CallOK Try.prog 65 #[v, .int .i64 m] h (.bool (chB ch m)) h := by
  refine call_P 14 _ [.tmp 4] Try.func65 rfl rfl rfl (by first | rfl | simp) ?_
  have hL := hv.lenD
  by_cases hc : (ch.length : Int) ≤ m
  · repeat (first
      | (refine WD_block (fun K hK => ?_))
      | (refine WD_seq (fun K hK => ?_))
      | (refine WD_region (fun K hK => ?_))
      | ((first | refine RunD_o rfl rfl rfl rfl rfl (fun X hX => ?_) | refine RunD_s rfl rfl rfl rfl (fun X hX => ?_) | refine RunD_g rfl rfl rfl rfl rfl rfl rfl (fun X Y hX hY => ?_) | refine RunD_gc rfl rfl rfl rfl rfl rfl (fun Y hY => ?_) | refine WD_c rfl (fun X Y hX hY => ?_)); (try dsimp only); simp (disch := first | omega | (simp; done) | fail) [wrap64c, if_pos, if_neg, opAnd, opOr, opXor, opDiff, opShr, opBit, hL, hc]; (first | refine hX _ _ ?_ | refine hX ?_ | refine hY ?_); (try clear hX X); try clear hY Y)
      | (refine RunD_nil ?_; refine hK _ _ ?_; clear hK K)
      | (refine RunD_nil ?_)
      | (refine WD_skip ?_)
      | (refine WD_exit ?_)
      | (refine WD_ret ?_)
      | (refine hK.1 _ _ ?_; clear hK K)
      | (refine hK.2.1 _ _ ?_; clear hK K)
      | (refine hK.2 _ _ _ ?hne ?_; (case hne => simp; done); clear hK K)
      | (refine hK.2.2 _ _ _ ?hne ?_; (case hne => simp; done); clear hK K))
    refine RunD_cT rfl rfl rfl rfl rfl rfl ?hb (by simp) (by simp) ?ha (containsFunc_ok h v ch (fun x => decide (x < 0)) 100 #[] #[] hv (by simp) (fun x _ => isNeg_ok h x)) ?_
    (case hb => simp (disch := first | omega | (simp; done) | fail) [wrap64c, if_pos, if_neg, opAnd, opOr, opXor, opDiff, opShr, opBit, hL, hc])
    (case ha => simp (disch := first | omega | (simp; done) | fail) [wrap64c, if_pos, if_neg, opAnd, opOr, opXor, opDiff, opShr, opBit, hL, hc])
    repeat (first
      | (refine WD_block (fun K hK => ?_))
      | (refine WD_seq (fun K hK => ?_))
      | (refine WD_region (fun K hK => ?_))
      | ((first | refine RunD_o rfl rfl rfl rfl rfl (fun X hX => ?_) | refine RunD_s rfl rfl rfl rfl (fun X hX => ?_) | refine RunD_g rfl rfl rfl rfl rfl rfl rfl (fun X Y hX hY => ?_) | refine RunD_gc rfl rfl rfl rfl rfl rfl (fun Y hY => ?_) | refine WD_c rfl (fun X Y hX hY => ?_)); (try dsimp only); simp (disch := first | omega | (simp; done) | fail) [wrap64c, if_pos, if_neg, opAnd, opOr, opXor, opDiff, opShr, opBit, hL, hc]; (first | refine hX _ _ ?_ | refine hX ?_ | refine hY ?_); (try clear hX X); try clear hY Y)
      | (refine RunD_nil ?_; refine hK _ _ ?_; clear hK K)
      | (refine RunD_nil ?_)
      | (refine WD_skip ?_)
      | (refine WD_exit ?_)
      | (refine WD_ret ?_)
      | (refine hK.1 _ _ ?_; clear hK K)
      | (refine hK.2.1 _ _ ?_; clear hK K)
      | (refine hK.2 _ _ _ ?hne ?_; (case hne => simp; done); clear hK K)
      | (refine hK.2.2 _ _ _ ?hne ?_; (case hne => simp; done); clear hK K))
    exact done_ret rfl (by simp [chB, hc])
  · repeat (first
      | (refine WD_block (fun K hK => ?_))
      | (refine WD_seq (fun K hK => ?_))
      | (refine WD_region (fun K hK => ?_))
      | ((first | refine RunD_o rfl rfl rfl rfl rfl (fun X hX => ?_) | refine RunD_s rfl rfl rfl rfl (fun X hX => ?_) | refine RunD_g rfl rfl rfl rfl rfl rfl rfl (fun X Y hX hY => ?_) | refine RunD_gc rfl rfl rfl rfl rfl rfl (fun Y hY => ?_) | refine WD_c rfl (fun X Y hX hY => ?_)); (try dsimp only); simp (disch := first | omega | (simp; done) | fail) [wrap64c, if_pos, if_neg, opAnd, opOr, opXor, opDiff, opShr, opBit, hL, hc]; (first | refine hX _ _ ?_ | refine hX ?_ | refine hY ?_); (try clear hX X); try clear hY Y)
      | (refine RunD_nil ?_; refine hK _ _ ?_; clear hK K)
      | (refine RunD_nil ?_)
      | (refine WD_skip ?_)
      | (refine WD_exit ?_)
      | (refine WD_ret ?_)
      | (refine hK.1 _ _ ?_; clear hK K)
      | (refine hK.2.1 _ _ ?_; clear hK K)
      | (refine hK.2 _ _ _ ?hne ?_; (case hne => simp; done); clear hK K)
      | (refine hK.2.2 _ _ _ ?hne ?_; (case hne => simp; done); clear hK K))
    exact done_ret rfl (by simp [chB, hc])

theorem chosen_ok (h : Hp) (v w : Value) (l : List Nat) (ch : List Int) (k : Nat) (hv : Ints h v (toN l)) (hw : Ints h w ch) (hne : l ≠ []) (hll : l.length < 2 ^ 40) (hp : ∀ x ∈ ch, 0 ≤ x) :
    CallOK Try.prog 68 #[v, w, .int .i64 (k : Int)] h (.int .i64 ((pickN ch k l : Nat) : Int)) h := by
  refine call_P 24 _ [.tmp 6] Try.func68 rfl rfl rfl (by first | rfl | simp) ?_
  have hL := hv.lenD
  have hM := hw.lenD
  have hgt := toN_get l
  have hln := toN_length l
  have hl0 : 0 < l.length := List.length_pos_iff.2 hne
  obtain ⟨o_x, i_x, c_x, cs_x, own_x, ex_x, es_x, q_x, b_x, g_x, l_x, r_x⟩ := hv.open ((by omega))
  have z_x : ∀ h2 : i_x < cs_x.length, cs_x[i_x] = _ := fun h2 => r_x 0 ((by omega)) h2
  by_cases hk : k < ch.length
  · obtain ⟨o_y, i_y, c_y, cs_y, own_y, ex_y, es_y, q_y, b_y, g_y, l_y, r_y⟩ := hw.open ((by omega))
    have z_y : ∀ h2 : i_y < cs_y.length, cs_y[i_y] = _ := fun h2 => r_y 0 ((by omega)) h2
    obtain ⟨q, hq⟩ : ∃ q : Nat, ch[k] = q := ⟨ch[k].toNat, by have := hp _ (List.getElem_mem hk); omega⟩
    have hml := Nat.mod_lt q hl0
    obtain ⟨r, hr⟩ : ∃ r, r = q % l.length := ⟨_, rfl⟩
    rw [← hr] at hml
    have hmd : Int.tmod (q : Int) (l.length : Int) = r := by rw [Int.tmod_eq_emod_of_nonneg (by omega), hr]; rfl
    have hne0 : ¬ ((l.length : Int) = 0) := by omega
    have hne1 : ¬ l = [] := hne
    have hpk : pickN ch k l = l[r] := by
      unfold pickN
      rw [dif_pos hk, hq, Int.toNat_natCast, ← hr, List.getD_eq_getElem?_getD, List.getElem?_eq_getElem hml]; rfl
    repeat (first
      | (refine WD_block (fun K hK => ?_))
      | (refine WD_seq (fun K hK => ?_))
      | (refine WD_region (fun K hK => ?_))
      | ((first | refine RunD_o rfl rfl rfl rfl rfl (fun X hX => ?_) | refine RunD_s rfl rfl rfl rfl (fun X hX => ?_) | refine WD_c rfl (fun X Y hX hY => ?_)); (try dsimp only); simp (disch := first | omega | (simp; done) | fail) [wrap64c, if_pos, if_neg, opAnd, opOr, opXor, opDiff, opShr, opBit, hL, hM, hgt, q_x, g_x, l_x, r_x, z_x, hk, q_y, g_y, l_y, r_y, z_y, hq, hmd, hne0, hne1]; (first | refine hX _ _ ?_ | refine hX ?_ | refine hY ?_); (try clear hX X); try clear hY Y)
      | (refine RunD_nil ?_; refine hK _ _ ?_; clear hK K)
      | (refine RunD_nil ?_)
      | (refine WD_skip ?_)
      | (refine WD_exit ?_)
      | (refine WD_ret ?_)
      | (refine hK.1 _ _ ?_; clear hK K)
      | (refine hK.2.1 _ _ ?_; clear hK K)
      | (refine hK.2 _ _ _ ?hne ?_; (case hne => simp; done); clear hK K)
      | (refine hK.2.2 _ _ _ ?hne ?_; (case hne => simp; done); clear hK K))
    exact done_ret rfl (by simp [hpk])
  · have hpk : pickN ch k l = l[0] := by
      unfold pickN
      rw [dif_neg hk, List.getD_eq_getElem?_getD, List.getElem?_eq_getElem hl0]; rfl
    repeat (first
      | (refine WD_block (fun K hK => ?_))
      | (refine WD_seq (fun K hK => ?_))
      | (refine WD_region (fun K hK => ?_))
      | ((first | refine RunD_o rfl rfl rfl rfl rfl (fun X hX => ?_) | refine RunD_s rfl rfl rfl rfl (fun X hX => ?_) | refine WD_c rfl (fun X Y hX hY => ?_)); (try dsimp only); simp (disch := first | omega | (simp; done) | fail) [wrap64c, if_pos, if_neg, opAnd, opOr, opXor, opDiff, opShr, opBit, hL, hM, hgt, q_x, g_x, l_x, r_x, z_x, hk]; (first | refine hX _ _ ?_ | refine hX ?_ | refine hY ?_); (try clear hX X); try clear hY Y)
      | (refine RunD_nil ?_; refine hK _ _ ?_; clear hK K)
      | (refine RunD_nil ?_)
      | (refine WD_skip ?_)
      | (refine WD_exit ?_)
      | (refine WD_ret ?_)
      | (refine hK.1 _ _ ?_; clear hK K)
      | (refine hK.2.1 _ _ ?_; clear hK K)
      | (refine hK.2 _ _ _ ?hne ?_; (case hne => simp; done); clear hK K)
      | (refine hK.2.2 _ _ _ ?hne ?_; (case hne => simp; done); clear hK K))
    exact done_ret rfl (by simp [hpk])
end Go.Proofs.Ytpehnhjgdgnnkaa
