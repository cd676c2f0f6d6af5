/- Choices; the functions that tell full runs. -/
import Derived.Test.YtdadnaliiegceaaB6
import Derived.Test.YtdadnaliiegceaaB4
namespace Go.Proofs.Ytdadnaliiegceaa
set_option linter.unusedSimpArgs false
set_option linter.unusedVariables false
set_option maxHeartbeats 4000000
open Go Go.Eng
attribute [local irreducible] WD RunD PreD Runs CallOK

/-- The first index for which something holds, or -1. -/
def idxF (p : Int → Bool) : List Int → Int
  | [] => -1
  | x :: l => if p x then 0 else if idxF p l < 0 then -1 else idxF p l + 1
theorem idxF_range (p : Int → Bool) : ∀ (l : List Int), -1 ≤ idxF p l ∧ idxF p l < l.length
  | [] => by simp [idxF]
  | x :: l => by
    have := idxF_range p l
    unfold idxF
    split
    · simp <;> omega
    · split <;> simp <;> omega
theorem idxF_at (p : Int → Bool) : ∀ (l : List Int) (j : Nat) (hj : j < l.length), (∀ i (hi : i < l.length), i < j → p l[i] = false) → p l[j] = true → idxF p l = j
  | [], _, hj, _, _ => absurd hj (by simp)
  | x :: l, 0, hj, h1, h2 => by simp at h2; simp [idxF, h2]
  | x :: l, j + 1, hj, h1, h2 => by
    have h0 := h1 0 (by simp) (by omega)
    simp at h0
    have := idxF_at p l j (by simpa using hj) (fun i hi hij => by have := h1 (i + 1) (by simpa using hi) (by omega); simpa using this) (by simpa using h2)
    simp [idxF, h0, this]; omega
theorem idxF_none (p : Int → Bool) : ∀ (l : List Int), (∀ x ∈ l, p x = false) → idxF p l = -1
  | [], _ => rfl
  | x :: l, h => by
    have := idxF_none p l fun y hy => h y (List.mem_cons_of_mem _ hy)
    simp [idxF, h x (List.mem_cons_self), this]
theorem idxF_neg (p : Int → Bool) : ∀ (l : List Int), idxF p l < 0 → ∀ x ∈ l, p x = false
  | [], _, x, hx => by cases hx
  | y :: l, h, x, hx => by
    unfold idxF at h
    split at h
    · omega
    · rename_i hy
      split at h
      · rename_i hl
        rcases List.mem_cons.1 hx with rfl | hx
        · simpa using hy
        · exact idxF_neg p l hl x hx
      · omega

theorem indexFunc_ok (h : Hp) (v : Value) (xs : List Int) (f : FuncId) (fst cap : Array Value) (p : Int → Bool) (hv : Ints h v xs) (hf : fnOK Try.prog f = true)
    (hc : ∀ x ∈ xs, CallOK Try.prog f (fst ++ #[.int .i64 x] ++ cap) h (.bool (p x)) h) : CallOK Try.prog 76 #[v, .func (.func f) fst cap] h (.int .i64 (idxF p xs)) h := by
  refine call_P 19 _ [.tmp 4] Try.func76 rfl rfl rfl (by first | rfl | simp) ?_
  have hvl := hv.len
  have lv := hv.lenD
  repeat (first
    | (refine WD_block (fun K hK => ?_))
    | (refine WD_seq (fun K hK => ?_))
    | (refine WD_region (fun K hK => ?_))
    | ((first | refine RunD_o rfl rfl rfl rfl rfl (fun X hX => ?_) | refine RunD_s rfl rfl rfl rfl (fun X hX => ?_)); (try dsimp only); simp (disch := first | omega | (simp; done) | fail) [wrap64c, if_pos, if_neg, lv]; refine hX _ _ ?_; clear hX X)
    | (refine RunD_nil ?_; refine hK _ _ ?_; clear hK K)
    | (refine RunD_nil ?_)
    | (refine WD_skip ?_)
    | (refine WD_exit ?_)
    | (refine WD_ret ?_)
    | (refine WD_true rfl ?hb ?_; (case hb => simp (disch := first | omega | (simp; done) | fail) [wrap64c, if_pos, if_neg, lv] <;> omega))
    | (refine WD_false rfl ?hb ?_; (case hb => simp (disch := first | omega | (simp; done) | fail) [wrap64c, if_pos, if_neg, lv] <;> omega))
    | (refine hK.1 _ _ ?_; clear hK K)
    | (refine hK.2.1 _ _ ?_; clear hK K)
    | (refine hK.2 _ _ _ ?hne ?_; (case hne => simp; done); clear hK K)
    | (refine hK.2.2 _ _ _ ?hne ?_; (case hne => simp; done); clear hK K))
  refine WD_loopF [0, 1, 7] (fun m tm h' => ∃ j, m = xs.length - j ∧ h = h' ∧ tm 8 = .int .i64 (j : Int) ∧ (j ≤ xs.length) ∧ (∀ i (hi : i < xs.length), i < j → p xs[i] = false)) _ ⟨0, rfl, rfl, (by simp (disch := first | omega | (simp; done) | fail) [wrap64c, if_pos, if_neg, lv]), (by first | omega | (simp (disch := first | omega | (simp; done) | fail) [wrap64c, if_pos, if_neg, lv]; done) | (simp (disch := first | omega | (simp; done) | fail) [wrap64c, if_pos, if_neg, lv] <;> omega) | assumption), (by intro i hi h0; omega)⟩ ?_
  rintro m tm h' hFr ⟨j, rfl, rfl, e8, hj, hx⟩ K hK
  simp only [FrameL] at hFr
  obtain ⟨f0_0, f1_0, f7_0, -⟩ := hFr
  try simp (disch := first | omega | (simp; done) | fail) [wrap64c, if_pos, if_neg, lv] at f0_0
  try simp (disch := first | omega | (simp; done) | fail) [wrap64c, if_pos, if_neg, lv] at f1_0
  try simp (disch := first | omega | (simp; done) | fail) [wrap64c, if_pos, if_neg, lv] at f7_0
  have e0 := f0_0
  have e1 := f1_0
  have e7 := f7_0
  by_cases hlt : j < xs.length
  · obtain ⟨o_x, i_x, c_x, cs_x, own_x, ex_x, es_x, q_x, b_x, g_x, l_x, r_x⟩ := hv.open ((by omega))
    have z_x : ∀ h2 : i_x < cs_x.length, cs_x[i_x] = _ := fun h2 => r_x 0 ((by omega)) h2
    repeat (first
      | (refine WD_block (fun K hK => ?_))
      | (refine WD_seq (fun K hK => ?_))
      | (refine WD_region (fun K hK => ?_))
      | ((first | refine RunD_o rfl rfl rfl rfl rfl (fun X hX => ?_) | refine RunD_s rfl rfl rfl rfl (fun X hX => ?_)); (try dsimp only); simp (disch := first | omega | (simp; done) | fail) [wrap64c, if_pos, if_neg, lv, e0, e1, e7, e8, hlt, q_x, g_x, l_x, r_x, z_x]; refine hX _ _ ?_; clear hX X)
      | (refine RunD_nil ?_; refine hK _ _ ?_; clear hK K)
      | (refine RunD_nil ?_)
      | (refine WD_skip ?_)
      | (refine WD_exit ?_)
      | (refine WD_ret ?_)
      | (refine WD_true rfl ?hb ?_; (case hb => simp (disch := first | omega | (simp; done) | fail) [wrap64c, if_pos, if_neg, lv, e0, e1, e7, e8, hlt, q_x, g_x, l_x, r_x, z_x] <;> omega))
      | (refine WD_false rfl ?hb ?_; (case hb => simp (disch := first | omega | (simp; done) | fail) [wrap64c, if_pos, if_neg, lv, e0, e1, e7, e8, hlt, q_x, g_x, l_x, r_x, z_x] <;> omega))
      | (refine hK.1 _ _ ?_; clear hK K)
      | (refine hK.2.1 _ _ ?_; clear hK K)
      | (refine hK.2 _ _ _ ?hne ?_; (case hne => simp; done); clear hK K)
      | (refine hK.2.2 _ _ _ ?hne ?_; (case hne => simp; done); clear hK K))
    refine RunD_cf (f := f) (fst := fst) (cap := cap) rfl rfl rfl rfl rfl (by simp) ?h3 hf ?ha (hc _ (List.getElem_mem hlt)) ?_
    (case h3 => simp [e1])
    (case ha => simp)
    by_cases hp : p xs[j] = true
    · repeat (first
        | (refine WD_block (fun K hK => ?_))
        | (refine WD_seq (fun K hK => ?_))
        | (refine WD_region (fun K hK => ?_))
        | ((first | refine RunD_o rfl rfl rfl rfl rfl (fun X hX => ?_) | refine RunD_s rfl rfl rfl rfl (fun X hX => ?_)); (try dsimp only); simp (disch := first | omega | (simp; done) | fail) [wrap64c, if_pos, if_neg, lv, e0, e1, e7, e8, hlt, q_x, g_x, l_x, r_x, z_x, hp]; refine hX _ _ ?_; clear hX X)
        | (refine RunD_nil ?_; refine hK _ _ ?_; clear hK K)
        | (refine RunD_nil ?_)
        | (refine WD_skip ?_)
        | (refine WD_exit ?_)
        | (refine WD_ret ?_)
        | (refine WD_true rfl ?hb ?_; (case hb => simp (disch := first | omega | (simp; done) | fail) [wrap64c, if_pos, if_neg, lv, e0, e1, e7, e8, hlt, q_x, g_x, l_x, r_x, z_x, hp] <;> omega))
        | (refine WD_false rfl ?hb ?_; (case hb => simp (disch := first | omega | (simp; done) | fail) [wrap64c, if_pos, if_neg, lv, e0, e1, e7, e8, hlt, q_x, g_x, l_x, r_x, z_x, hp] <;> omega))
        | (refine hK.1 _ _ ?_; clear hK K)
        | (refine hK.2.1 _ _ ?_; clear hK K)
        | (refine hK.2 _ _ _ ?hne ?_; (case hne => simp; done); clear hK K)
        | (refine hK.2.2 _ _ _ ?hne ?_; (case hne => simp; done); clear hK K))
      exact done_ret rfl (by simp [idxF_at p xs j hlt hx hp])
    · have hp' : p xs[j] = false := by simpa using hp
      repeat (first
        | (refine WD_block (fun K hK => ?_))
        | (refine WD_seq (fun K hK => ?_))
        | (refine WD_region (fun K hK => ?_))
        | ((first | refine RunD_o rfl rfl rfl rfl rfl (fun X hX => ?_) | refine RunD_s rfl rfl rfl rfl (fun X hX => ?_)); (try dsimp only); simp (disch := first | omega | (simp; done) | fail) [wrap64c, if_pos, if_neg, lv, e0, e1, e7, e8, hlt, q_x, g_x, l_x, r_x, z_x, hp, hp']; refine hX _ _ ?_; clear hX X)
        | (refine RunD_nil ?_; refine hK _ _ ?_; clear hK K)
        | (refine RunD_nil ?_)
        | (refine WD_skip ?_)
        | (refine WD_exit ?_)
        | (refine WD_ret ?_)
        | (refine WD_true rfl ?hb ?_; (case hb => simp (disch := first | omega | (simp; done) | fail) [wrap64c, if_pos, if_neg, lv, e0, e1, e7, e8, hlt, q_x, g_x, l_x, r_x, z_x, hp, hp'] <;> omega))
        | (refine WD_false rfl ?hb ?_; (case hb => simp (disch := first | omega | (simp; done) | fail) [wrap64c, if_pos, if_neg, lv, e0, e1, e7, e8, hlt, q_x, g_x, l_x, r_x, z_x, hp, hp'] <;> omega))
        | (refine hK.1 _ _ ?_; clear hK K)
        | (refine hK.2.1 _ _ ?_; clear hK K)
        | (refine hK.2 _ _ _ ?hne ?_; (case hne => simp; done); clear hK K)
        | (refine hK.2.2 _ _ _ ?hne ?_; (case hne => simp; done); clear hK K))
      refine hK.1 _ _ _ ?hm ?hf ⟨j + 1, rfl, rfl, (by first | (simp (disch := first | omega | (simp; done) | fail) [wrap64c, if_pos, if_neg, lv, e0, e1, e7, e8, hlt, q_x, g_x, l_x, r_x, z_x, hp, hp']; done) | (simp (disch := first | omega | (simp; done) | fail) [wrap64c, if_pos, if_neg, lv, e0, e1, e7, e8, hlt, q_x, g_x, l_x, r_x, z_x, hp, hp'] <;> omega)), (by first | omega | (simp (disch := first | omega | (simp; done) | fail) [wrap64c, if_pos, if_neg, lv, e0, e1, e7, e8, hlt, q_x, g_x, l_x, r_x, z_x, hp, hp']; done) | (simp (disch := first | omega | (simp; done) | fail) [wrap64c, if_pos, if_neg, lv, e0, e1, e7, e8, hlt, q_x, g_x, l_x, r_x, z_x, hp, hp'] <;> omega) | assumption), ?c_hx⟩
      (case hm => first | omega | (simp; omega))
      (case hf => simp [FrameL, lv, e0, e1, e7, e8, hlt, q_x, g_x, l_x, r_x, z_x, hp, hp', f0_0, f1_0, f7_0])
      case c_hx =>
        exact (fun i hi hij => by
          rcases Nat.lt_succ_iff_lt_or_eq.1 hij with q | q
          · exact hx i hi q
          · subst q; exact hp')
  · repeat (first
      | (refine WD_block (fun K hK => ?_))
      | (refine WD_seq (fun K hK => ?_))
      | (refine WD_region (fun K hK => ?_))
      | ((first | refine RunD_o rfl rfl rfl rfl rfl (fun X hX => ?_) | refine RunD_s rfl rfl rfl rfl (fun X hX => ?_)); (try dsimp only); simp (disch := first | omega | (simp; done) | fail) [wrap64c, if_pos, if_neg, lv, e0, e1, e7, e8, hlt]; refine hX _ _ ?_; clear hX X)
      | (refine RunD_nil ?_; refine hK _ _ ?_; clear hK K)
      | (refine RunD_nil ?_)
      | (refine WD_skip ?_)
      | (refine WD_exit ?_)
      | (refine WD_ret ?_)
      | (refine WD_true rfl ?hb ?_; (case hb => simp (disch := first | omega | (simp; done) | fail) [wrap64c, if_pos, if_neg, lv, e0, e1, e7, e8, hlt] <;> omega))
      | (refine WD_false rfl ?hb ?_; (case hb => simp (disch := first | omega | (simp; done) | fail) [wrap64c, if_pos, if_neg, lv, e0, e1, e7, e8, hlt] <;> omega))
      | (refine hK.1 _ _ ?_; clear hK K)
      | (refine hK.2.1 _ _ ?_; clear hK K)
      | (refine hK.2 _ _ _ ?hne ?_; (case hne => simp; done); clear hK K)
      | (refine hK.2.2 _ _ _ ?hne ?_; (case hne => simp; done); clear hK K))
    have : idxF p xs = -1 := idxF_none p xs fun x hx' => by
      obtain ⟨i, hi, rfl⟩ := List.getElem_of_mem hx'
      exact hx i hi (by omega)
    exact done_ret rfl (by simp [this])

theorem containsFunc_ok (h : Hp) (v : Value) (xs : List Int) (f : FuncId) (fst cap : Array Value) (p : Int → Bool) (hv : Ints h v xs) (hf : fnOK Try.prog f = true)
    (hc : ∀ x ∈ xs, CallOK Try.prog f (fst ++ #[.int .i64 x] ++ cap) h (.bool (p x)) h) : CallOK Try.prog 73 #[v, .func (.func f) fst cap] h (.bool (decide (0 ≤ idxF p xs))) h := by
  refine call_P 9 _ [.tmp 4] Try.func73 rfl rfl rfl (by first | rfl | simp) ?_
  repeat (first
    | (refine WD_block (fun K hK => ?_))
    | (refine WD_seq (fun K hK => ?_))
    | (refine WD_region (fun K hK => ?_))
    | ((first | refine RunD_o rfl rfl rfl rfl rfl (fun X hX => ?_) | refine RunD_s rfl rfl rfl rfl (fun X hX => ?_)); (try dsimp only); simp (disch := first | omega | (simp; done) | fail) [wrap64c, if_pos, if_neg]; refine hX _ _ ?_; clear hX X)
    | (refine RunD_nil ?_; refine hK _ _ ?_; clear hK K)
    | (refine RunD_nil ?_)
    | (refine WD_skip ?_)
    | (refine WD_exit ?_)
    | (refine WD_ret ?_)
    | (refine WD_true rfl ?hb ?_; (case hb => simp (disch := first | omega | (simp; done) | fail) [wrap64c, if_pos, if_neg] <;> omega))
    | (refine WD_false rfl ?hb ?_; (case hb => simp (disch := first | omega | (simp; done) | fail) [wrap64c, if_pos, if_neg] <;> omega))
    | (refine hK.1 _ _ ?_; clear hK K)
    | (refine hK.2.1 _ _ ?_; clear hK K)
    | (refine hK.2 _ _ _ ?hne ?_; (case hne => simp; done); clear hK K)
    | (refine hK.2.2 _ _ _ ?hne ?_; (case hne => simp; done); clear hK K))
  refine RunD_c rfl rfl rfl rfl (by simp) (by simp) ?ha (indexFunc_ok h v xs f fst cap p hv hf hc) ?_
  (case ha => simp (disch := first | omega | (simp; done) | fail) [wrap64c, if_pos, if_neg])
  repeat (first
    | (refine WD_block (fun K hK => ?_))
    | (refine WD_seq (fun K hK => ?_))
    | (refine WD_region (fun K hK => ?_))
    | ((first | refine RunD_o rfl rfl rfl rfl rfl (fun X hX => ?_) | refine RunD_s rfl rfl rfl rfl (fun X hX => ?_)); (try dsimp only); simp (disch := first | omega | (simp; done) | fail) [wrap64c, if_pos, if_neg]; refine hX _ _ ?_; clear hX X)
    | (refine RunD_nil ?_; refine hK _ _ ?_; clear hK K)
    | (refine RunD_nil ?_)
    | (refine WD_skip ?_)
    | (refine WD_exit ?_)
    | (refine WD_ret ?_)
    | (refine WD_true rfl ?hb ?_; (case hb => simp (disch := first | omega | (simp; done) | fail) [wrap64c, if_pos, if_neg] <;> omega))
    | (refine WD_false rfl ?hb ?_; (case hb => simp (disch := first | omega | (simp; done) | fail) [wrap64c, if_pos, if_neg] <;> omega))
    | (refine hK.1 _ _ ?_; clear hK K)
    | (refine hK.2.1 _ _ ?_; clear hK K)
    | (refine hK.2 _ _ _ ?hne ?_; (case hne => simp; done); clear hK K)
    | (refine hK.2.2 _ _ _ ?hne ?_; (case hne => simp; done); clear hK K))
  exact done_ret rfl (by simp)

theorem choice1_ok (h : Hp) (x : Int) : CallOK Try.prog 81 #[.int .i64 x] h (.bool (decide (x < 0))) h := by
  refine call_P 5 _ [.tmp 2] Try.func81 rfl rfl rfl (by first | rfl | simp) ?_
  repeat (first
    | (refine WD_block (fun K hK => ?_))
    | (refine WD_seq (fun K hK => ?_))
    | (refine WD_region (fun K hK => ?_))
    | ((first | refine RunD_o rfl rfl rfl rfl rfl (fun X hX => ?_) | refine RunD_s rfl rfl rfl rfl (fun X hX => ?_)); (try dsimp only); simp (disch := first | omega | (simp; done) | fail) [wrap64c, if_pos, if_neg]; refine hX _ _ ?_; clear hX X)
    | (refine RunD_nil ?_; refine hK _ _ ?_; clear hK K)
    | (refine RunD_nil ?_)
    | (refine WD_skip ?_)
    | (refine WD_exit ?_)
    | (refine WD_ret ?_)
    | (refine WD_true rfl ?hb ?_; (case hb => simp (disch := first | omega | (simp; done) | fail) [wrap64c, if_pos, if_neg] <;> omega))
    | (refine WD_false rfl ?hb ?_; (case hb => simp (disch := first | omega | (simp; done) | fail) [wrap64c, if_pos, if_neg] <;> omega))
    | (refine hK.1 _ _ ?_; clear hK K)
    | (refine hK.2.1 _ _ ?_; clear hK K)
    | (refine hK.2 _ _ _ ?hne ?_; (case hne => simp; done); clear hK K)
    | (refine hK.2.2 _ _ _ ?hne ?_; (case hne => simp; done); clear hK K))
  exact done_ret rfl (by simp)

/-- Whether numbers are choices. -/
def chB (cs : List Int) (most : Int) : Bool := decide ((cs.length : Int) ≤ most ∧ ∀ x ∈ cs, 0 ≤ x)
theorem imAreChoices_ok (h : Hp) (v : Value) (cs : List Int) (most : Int) (hv : Ints h v cs) : CallOK Try.prog 79 #[v, .int .i64 most] h (.bool (chB cs most)) h := by
  refine call_P 14 _ [.tmp 4] Try.func79 rfl rfl rfl (by first | rfl | simp) ?_
  have lv := hv.lenD
  by_cases c : (cs.length : Int) ≤ most
  · repeat (first
      | (refine WD_block (fun K hK => ?_))
      | (refine WD_seq (fun K hK => ?_))
      | (refine WD_region (fun K hK => ?_))
      | ((first | refine RunD_o rfl rfl rfl rfl rfl (fun X hX => ?_) | refine RunD_s rfl rfl rfl rfl (fun X hX => ?_) | (refine RunD_oT rfl rfl rfl rfl rfl rfl rfl ?hb (fun X hX => ?_); (case hb => simp (disch := first | omega | (simp; done) | fail) [wrap64c, if_pos, if_neg, lv, c] <;> omega))); (try dsimp only); simp (disch := first | omega | (simp; done) | fail) [wrap64c, if_pos, if_neg, lv, c]; refine hX _ _ ?_; clear hX X)
      | (refine RunD_oF rfl rfl rfl rfl rfl ?hb ?_; (case hb => simp (disch := first | omega | (simp; done) | fail) [wrap64c, if_pos, if_neg, lv, c] <;> omega))
      | ((first | refine RunD_oU (c := #[]) rfl rfl rfl rfl rfl ?hb ?_); (case hb => simp (disch := first | omega | (simp; done) | fail) [wrap64c, if_pos, if_neg, lv, c]; rfl))
      | (refine RunD_nil ?_; refine hK _ _ ?_; clear hK K)
      | (refine RunD_nil ?_)
      | (refine WD_skip ?_)
      | (refine WD_exit ?_)
      | (refine WD_ret ?_)
      | (refine WD_true rfl ?hb ?_; (case hb => simp (disch := first | omega | (simp; done) | fail) [wrap64c, if_pos, if_neg, lv, c] <;> omega))
      | (refine WD_false rfl ?hb ?_; (case hb => simp (disch := first | omega | (simp; done) | fail) [wrap64c, if_pos, if_neg, lv, c] <;> omega))
      | (refine hK.1 _ _ ?_; clear hK K)
      | (refine hK.2.1 _ _ ?_; clear hK K)
      | (refine hK.2 _ _ _ ?hne ?_; (case hne => simp; done); clear hK K)
      | (refine hK.2.2 _ _ _ ?hne ?_; (case hne => simp; done); clear hK K))
    have hcf := containsFunc_ok h v cs 81 #[] #[] (fun x => decide (x < 0)) hv (by simp) (fun x _ => by simpa using choice1_ok h x)
    by_cases c2 : ∀ x ∈ cs, 0 ≤ x
    · rw [idxF_none _ cs (fun x hx => by simpa using c2 x hx)] at hcf
      refine RunD_cT rfl rfl rfl rfl rfl rfl ?hb (by simp) (by simp) ?ha (hcf) ?_
      (case hb => simp (disch := first | omega | (simp; done) | fail) [wrap64c, if_pos, if_neg, lv, c])
      (case ha => simp (disch := first | omega | (simp; done) | fail) [wrap64c, if_pos, if_neg, lv, c])
      repeat (first
        | (refine WD_block (fun K hK => ?_))
        | (refine WD_seq (fun K hK => ?_))
        | (refine WD_region (fun K hK => ?_))
        | ((first | refine RunD_o rfl rfl rfl rfl rfl (fun X hX => ?_) | refine RunD_s rfl rfl rfl rfl (fun X hX => ?_) | (refine RunD_oT rfl rfl rfl rfl rfl rfl rfl ?hb (fun X hX => ?_); (case hb => simp (disch := first | omega | (simp; done) | fail) [wrap64c, if_pos, if_neg, lv, c] <;> omega))); (try dsimp only); simp (disch := first | omega | (simp; done) | fail) [wrap64c, if_pos, if_neg, lv, c]; refine hX _ _ ?_; clear hX X)
        | (refine RunD_oF rfl rfl rfl rfl rfl ?hb ?_; (case hb => simp (disch := first | omega | (simp; done) | fail) [wrap64c, if_pos, if_neg, lv, c] <;> omega))
        | ((first | refine RunD_oU (c := #[]) rfl rfl rfl rfl rfl ?hb ?_); (case hb => simp (disch := first | omega | (simp; done) | fail) [wrap64c, if_pos, if_neg, lv, c]; rfl))
        | (refine RunD_nil ?_; refine hK _ _ ?_; clear hK K)
        | (refine RunD_nil ?_)
        | (refine WD_skip ?_)
        | (refine WD_exit ?_)
        | (refine WD_ret ?_)
        | (refine WD_true rfl ?hb ?_; (case hb => simp (disch := first | omega | (simp; done) | fail) [wrap64c, if_pos, if_neg, lv, c] <;> omega))
        | (refine WD_false rfl ?hb ?_; (case hb => simp (disch := first | omega | (simp; done) | fail) [wrap64c, if_pos, if_neg, lv, c] <;> omega))
        | (refine hK.1 _ _ ?_; clear hK K)
        | (refine hK.2.1 _ _ ?_; clear hK K)
        | (refine hK.2 _ _ _ ?hne ?_; (case hne => simp; done); clear hK K)
        | (refine hK.2.2 _ _ _ ?hne ?_; (case hne => simp; done); clear hK K))
      exact done_ret rfl (by simp [chB, c]; exact c2)
    · have c3 : 0 ≤ idxF (fun x => decide (x < 0)) cs := by
        rcases Int.lt_or_le (idxF (fun x => decide (x < 0)) cs) 0 with hn | hn
        · exact absurd (fun x hx => by simpa using idxF_neg _ cs hn x hx) c2
        · exact hn
      rw [decide_eq_true c3] at hcf
      refine RunD_cT rfl rfl rfl rfl rfl rfl ?hb (by simp) (by simp) ?ha (hcf) ?_
      (case hb => simp (disch := first | omega | (simp; done) | fail) [wrap64c, if_pos, if_neg, lv, c])
      (case ha => simp (disch := first | omega | (simp; done) | fail) [wrap64c, if_pos, if_neg, lv, c])
      repeat (first
        | (refine WD_block (fun K hK => ?_))
        | (refine WD_seq (fun K hK => ?_))
        | (refine WD_region (fun K hK => ?_))
        | ((first | refine RunD_o rfl rfl rfl rfl rfl (fun X hX => ?_) | refine RunD_s rfl rfl rfl rfl (fun X hX => ?_) | (refine RunD_oT rfl rfl rfl rfl rfl rfl rfl ?hb (fun X hX => ?_); (case hb => simp (disch := first | omega | (simp; done) | fail) [wrap64c, if_pos, if_neg, lv, c] <;> omega))); (try dsimp only); simp (disch := first | omega | (simp; done) | fail) [wrap64c, if_pos, if_neg, lv, c]; refine hX _ _ ?_; clear hX X)
        | (refine RunD_oF rfl rfl rfl rfl rfl ?hb ?_; (case hb => simp (disch := first | omega | (simp; done) | fail) [wrap64c, if_pos, if_neg, lv, c] <;> omega))
        | ((first | refine RunD_oU (c := #[]) rfl rfl rfl rfl rfl ?hb ?_); (case hb => simp (disch := first | omega | (simp; done) | fail) [wrap64c, if_pos, if_neg, lv, c]; rfl))
        | (refine RunD_nil ?_; refine hK _ _ ?_; clear hK K)
        | (refine RunD_nil ?_)
        | (refine WD_skip ?_)
        | (refine WD_exit ?_)
        | (refine WD_ret ?_)
        | (refine WD_true rfl ?hb ?_; (case hb => simp (disch := first | omega | (simp; done) | fail) [wrap64c, if_pos, if_neg, lv, c] <;> omega))
        | (refine WD_false rfl ?hb ?_; (case hb => simp (disch := first | omega | (simp; done) | fail) [wrap64c, if_pos, if_neg, lv, c] <;> omega))
        | (refine hK.1 _ _ ?_; clear hK K)
        | (refine hK.2.1 _ _ ?_; clear hK K)
        | (refine hK.2 _ _ _ ?hne ?_; (case hne => simp; done); clear hK K)
        | (refine hK.2.2 _ _ _ ?hne ?_; (case hne => simp; done); clear hK K))
      exact done_ret rfl (by simp [chB, c2])
  · repeat (first
      | (refine WD_block (fun K hK => ?_))
      | (refine WD_seq (fun K hK => ?_))
      | (refine WD_region (fun K hK => ?_))
      | ((first | refine RunD_o rfl rfl rfl rfl rfl (fun X hX => ?_) | refine RunD_s rfl rfl rfl rfl (fun X hX => ?_) | (refine RunD_oT rfl rfl rfl rfl rfl rfl rfl ?hb (fun X hX => ?_); (case hb => simp (disch := first | omega | (simp; done) | fail) [wrap64c, if_pos, if_neg, lv, c] <;> omega))); (try dsimp only); simp (disch := first | omega | (simp; done) | fail) [wrap64c, if_pos, if_neg, lv, c]; refine hX _ _ ?_; clear hX X)
      | (refine RunD_oF rfl rfl rfl rfl rfl ?hb ?_; (case hb => simp (disch := first | omega | (simp; done) | fail) [wrap64c, if_pos, if_neg, lv, c] <;> omega))
      | ((first | refine RunD_oU (c := #[]) rfl rfl rfl rfl rfl ?hb ?_); (case hb => simp (disch := first | omega | (simp; done) | fail) [wrap64c, if_pos, if_neg, lv, c]; rfl))
      | (refine RunD_nil ?_; refine hK _ _ ?_; clear hK K)
      | (refine RunD_nil ?_)
      | (refine WD_skip ?_)
      | (refine WD_exit ?_)
      | (refine WD_ret ?_)
      | (refine WD_true rfl ?hb ?_; (case hb => simp (disch := first | omega | (simp; done) | fail) [wrap64c, if_pos, if_neg, lv, c] <;> omega))
      | (refine WD_false rfl ?hb ?_; (case hb => simp (disch := first | omega | (simp; done) | fail) [wrap64c, if_pos, if_neg, lv, c] <;> omega))
      | (refine hK.1 _ _ ?_; clear hK K)
      | (refine hK.2.1 _ _ ?_; clear hK K)
      | (refine hK.2 _ _ _ ?hne ?_; (case hne => simp; done); clear hK K)
      | (refine hK.2.2 _ _ _ ?hne ?_; (case hne => simp; done); clear hK K))
    exact done_ret rfl (by simp [chB, c])

noncomputable def byR (L : List (List Int)) (A cs : List Int) : Option (List Int × List Int) := if chB cs 60 = true then fullR L A cs else none
/-- What a function on chips and a list with a run and a truth as results is to do. -/
def FnCIL (f : FuncId) (R : List (List Int) → List Int → List Int → Option (List Int × List Int)) : Prop :=
  ∀ (h : Hp) (v w : Value) (L : List (List Int)) (A ms : List Int), Chips h v L A → Ints h w ms →
    ∃ v' h', CallOK Try.prog f #[v, w] h v' h' ∧ Adds h h' ∧ ∃ u, v' = .tuple #[u, .bool (R L A ms).isSome] ∧ IntsO (Btw h.next h'.next) h' u (fRun (R L A ms))
theorem chB_spec {cs : List Int} {m : Int} (h : chB cs m = true) : (cs.length : Int) ≤ m ∧ ∀ x ∈ cs, 0 ≤ x := by unfold chB at h; exact of_decide_eq_true h

theorem imRunBy_ok : FnCIL 45 byR := by
  intro h v w L A cs hv hw
  refine call_L (args := [v, w]) 21 _ [.tmp 4, .tmp 5] Try.func45 rfl rfl rfl ?_
  have hv0 := hv
  obtain ⟨a, b, rfl, hL, hA⟩ := hv
  repeat (first
    | (refine WD_block (fun K hK => ?_))
    | (refine WD_seq (fun K hK => ?_)))
  refine WD_region (fun K hK => ?_)
  repeat (first
    | ((first | refine RunD_o rfl rfl rfl rfl rfl (fun X hX => ?_) | refine RunD_s rfl rfl rfl rfl (fun X hX => ?_)); (try dsimp only); simp (disch := first | omega | (simp; done) | fail) [wrap64c, if_pos, if_neg]; refine hX _ _ ?_; clear hX X))
  refine RunD_heap fun h0 q_h0 => ?_
  have g_h0 : h0.get h.next = .cells [a, b] true true 1 := by simp [q_h0]
  have k_h0 : Adds h h0 := by rw [q_h0]; exact (by repeat (first | exact keep_self _ | exact adds_self _ | assumption | exact Adds.keeps (by assumption) | refine keeps_alloc ?_ _ | refine adds_alloc ?_ _ _ _ | (refine keeps_put ?_ ?hle _; (case hle => first | omega | (simp; done) | (simp; omega))) | (refine adds_put ?_ ?hle _ _ _; (case hle => first | omega | (simp; done) | (simp; omega)))))
  have n_h0 : h.next < h0.next := by simp [q_h0]; try omega
  repeat (first
    | (refine WD_block (fun K hK => ?_))
    | (refine WD_seq (fun K hK => ?_))
    | (refine WD_region (fun K hK => ?_))
    | ((first | refine RunD_o rfl rfl rfl rfl rfl (fun X hX => ?_) | refine RunD_s rfl rfl rfl rfl (fun X hX => ?_)); (try dsimp only); simp (disch := first | omega | (simp; done) | fail) [wrap64c, if_pos, if_neg, g_h0]; refine hX _ _ ?_; clear hX X)
    | (refine RunD_nil ?_; refine hK _ _ ?_; clear hK K)
    | (refine RunD_nil ?_)
    | (refine WD_skip ?_)
    | (refine WD_exit ?_)
    | (refine WD_ret ?_)
    | (refine WD_true rfl ?hb ?_; (case hb => simp (disch := first | omega | (simp; done) | fail) [wrap64c, if_pos, if_neg, g_h0] <;> omega))
    | (refine WD_false rfl ?hb ?_; (case hb => simp (disch := first | omega | (simp; done) | fail) [wrap64c, if_pos, if_neg, g_h0] <;> omega))
    | (refine hK.1 _ _ ?_; clear hK K)
    | (refine hK.2.1 _ _ ?_; clear hK K)
    | (refine hK.2 _ _ _ ?hne ?_; (case hne => simp; done); clear hK K)
    | (refine hK.2.2 _ _ _ ?hne ?_; (case hne => simp; done); clear hK K))
  refine RunD_c rfl rfl rfl rfl (by simp) (by simp) ?ha (imAreChoices_ok h0 w cs 60 (hw.keep k_h0.1)) ?_
  (case ha => simp (disch := first | omega | (simp; done) | fail) [wrap64c, if_pos, if_neg, g_h0])
  by_cases c : chB cs 60 = true
  · have eB : byR L A cs = fullR L A cs := if_pos c
    repeat (first
      | (refine WD_block (fun K hK => ?_))
      | (refine WD_seq (fun K hK => ?_))
      | (refine WD_region (fun K hK => ?_))
      | ((first | refine RunD_o rfl rfl rfl rfl rfl (fun X hX => ?_) | refine RunD_s rfl rfl rfl rfl (fun X hX => ?_)); (try dsimp only); simp (disch := first | omega | (simp; done) | fail) [wrap64c, if_pos, if_neg, g_h0, c]; refine hX _ _ ?_; clear hX X)
      | (refine RunD_nil ?_; refine hK _ _ ?_; clear hK K)
      | (refine RunD_nil ?_)
      | (refine WD_skip ?_)
      | (refine WD_exit ?_)
      | (refine WD_ret ?_)
      | (refine WD_true rfl ?hb ?_; (case hb => simp (disch := first | omega | (simp; done) | fail) [wrap64c, if_pos, if_neg, g_h0, c] <;> omega))
      | (refine WD_false rfl ?hb ?_; (case hb => simp (disch := first | omega | (simp; done) | fail) [wrap64c, if_pos, if_neg, g_h0, c] <;> omega))
      | (refine hK.1 _ _ ?_; clear hK K)
      | (refine hK.2.1 _ _ ?_; clear hK K)
      | (refine hK.2 _ _ _ ?hne ?_; (case hne => simp; done); clear hK K)
      | (refine hK.2.2 _ _ _ ?hne ?_; (case hne => simp; done); clear hK K))
    obtain ⟨v1, h1, hc1, ha1, u1, u2, rfl, hu1, hu2⟩ := imFull_ok h0 _ w L A cs (hv0.keep k_h0.1) (hw.keep k_h0.1) (chB_spec c).2
    obtain ⟨p, q, S1, S2, rfl, hp, hq, s1, s2, s3⟩ := hu2
    refine RunD_c rfl rfl rfl rfl (by simp) (by simp) ?ha (hc1) ?_
    (case ha => simp (disch := first | omega | (simp; done) | fail) [wrap64c, if_pos, if_neg, g_h0, c])
    have ntp := hp.nt
    have csp := hp.cs
    have ntq := hq.nt
    have csq := hq.cs
    have n1 := ha1.1.1
    have K1 := k_h0.trans ha1
    repeat (first
      | (refine WD_block (fun K hK => ?_))
      | (refine WD_seq (fun K hK => ?_))
      | (refine WD_region (fun K hK => ?_))
      | ((first | refine RunD_o rfl rfl rfl rfl rfl (fun X hX => ?_) | refine RunD_s rfl rfl rfl rfl (fun X hX => ?_)); (try dsimp only); simp (disch := first | omega | (simp; done) | fail) [wrap64c, if_pos, if_neg, g_h0, c, ntp, csp, ntq, csq, putCells]; refine hX _ _ ?_; clear hX X)
      | (refine RunD_nil ?_; refine hK _ _ ?_; clear hK K)
      | (refine RunD_nil ?_)
      | (refine WD_skip ?_)
      | (refine WD_exit ?_)
      | (refine WD_ret ?_)
      | (refine WD_true rfl ?hb ?_; (case hb => simp (disch := first | omega | (simp; done) | fail) [wrap64c, if_pos, if_neg, g_h0, c, ntp, csp, ntq, csq, putCells] <;> omega))
      | (refine WD_false rfl ?hb ?_; (case hb => simp (disch := first | omega | (simp; done) | fail) [wrap64c, if_pos, if_neg, g_h0, c, ntp, csp, ntq, csq, putCells] <;> omega))
      | (refine hK.1 _ _ ?_; clear hK K)
      | (refine hK.2.1 _ _ ?_; clear hK K)
      | (refine hK.2 _ _ _ ?hne ?_; (case hne => simp; done); clear hK K)
      | (refine hK.2.2 _ _ _ ?hne ?_; (case hne => simp; done); clear hK K))
    exact done_ret rfl ⟨(by repeat (first | exact keep_self _ | exact adds_self _ | assumption | exact Adds.keeps (by assumption) | refine keeps_alloc ?_ _ | refine adds_alloc ?_ _ _ _ | (refine keeps_put ?_ ?hle _; (case hle => first | omega | (simp; done) | (simp; omega))) | (refine adds_put ?_ ?hle _ _ _; (case hle => first | omega | (simp; done) | (simp; omega))))), u1, by rw [eB]; rfl, by rw [eB]; exact (hu1.same (Same.put (Same.trans (Same.refl _ _) (Same.of_keeps (Keeps.alloc _ _))) (by unfold Btw; omega) _)).sub fun x hx => by unfold Btw at *; simp; omega⟩
  · have c' : chB cs 60 = false := by simpa using c
    have eB : byR L A cs = none := if_neg c
    repeat (first
      | (refine WD_block (fun K hK => ?_))
      | (refine WD_seq (fun K hK => ?_))
      | (refine WD_region (fun K hK => ?_))
      | ((first | refine RunD_o rfl rfl rfl rfl rfl (fun X hX => ?_) | refine RunD_s rfl rfl rfl rfl (fun X hX => ?_)); (try dsimp only); simp (disch := first | omega | (simp; done) | fail) [wrap64c, if_pos, if_neg, g_h0, c, c']; refine hX _ _ ?_; clear hX X)
      | (refine RunD_nil ?_; refine hK _ _ ?_; clear hK K)
      | (refine RunD_nil ?_)
      | (refine WD_skip ?_)
      | (refine WD_exit ?_)
      | (refine WD_ret ?_)
      | (refine WD_true rfl ?hb ?_; (case hb => simp (disch := first | omega | (simp; done) | fail) [wrap64c, if_pos, if_neg, g_h0, c, c'] <;> omega))
      | (refine WD_false rfl ?hb ?_; (case hb => simp (disch := first | omega | (simp; done) | fail) [wrap64c, if_pos, if_neg, g_h0, c, c'] <;> omega))
      | (refine hK.1 _ _ ?_; clear hK K)
      | (refine hK.2.1 _ _ ?_; clear hK K)
      | (refine hK.2 _ _ _ ?hne ?_; (case hne => simp; done); clear hK K)
      | (refine hK.2.2 _ _ _ ?hne ?_; (case hne => simp; done); clear hK K))
    exact done_ret rfl ⟨k_h0, _, by rw [eB]; rfl, by rw [eB]; exact .nil _ _⟩

theorem spRunBy_ok : FnCIL 44 byR := by
  intro h v w L A cs hv hw
  refine call_L (args := [v, w]) 37 _ [.tmp 4, .tmp 5] Try.func44 rfl rfl rfl ?_
  have hv0 := hv
  have hwl := hw.len
  have lw := hw.lenD
  obtain ⟨a, b, rfl, hL, hA⟩ := hv
  repeat (first
    | (refine WD_block (fun K hK => ?_))
    | (refine WD_seq (fun K hK => ?_)))
  refine WD_region (fun K hK => ?_)
  repeat (first
    | ((first | refine RunD_o rfl rfl rfl rfl rfl (fun X hX => ?_) | refine RunD_s rfl rfl rfl rfl (fun X hX => ?_) | (refine RunD_oT rfl rfl rfl rfl rfl rfl rfl ?hb (fun X hX => ?_); (case hb => simp (disch := first | omega | (simp; done) | fail) [wrap64c, if_pos, if_neg, lw] <;> omega))); (try dsimp only); simp (disch := first | omega | (simp; done) | fail) [wrap64c, if_pos, if_neg, lw]; refine hX _ _ ?_; clear hX X)
    | (refine RunD_oF rfl rfl rfl rfl rfl ?hb ?_; (case hb => simp (disch := first | omega | (simp; done) | fail) [wrap64c, if_pos, if_neg, lw] <;> omega))
    | ((first | refine RunD_oU (c := #[]) rfl rfl rfl rfl rfl ?hb ?_); (case hb => simp (disch := first | omega | (simp; done) | fail) [wrap64c, if_pos, if_neg, lw]; rfl)))
  refine RunD_heap fun h0 q_h0 => ?_
  have g_h0 : h0.get h.next = .cells [a, b] true true 1 := by simp [q_h0]
  have k_h0 : Adds h h0 := by rw [q_h0]; exact (by repeat (first | exact keep_self _ | exact adds_self _ | assumption | exact Adds.keeps (by assumption) | refine keeps_alloc ?_ _ | refine adds_alloc ?_ _ _ _ | (refine keeps_put ?_ ?hle _; (case hle => first | omega | (simp; done) | (simp; omega))) | (refine adds_put ?_ ?hle _ _ _; (case hle => first | omega | (simp; done) | (simp; omega)))))
  have n_h0 : h.next < h0.next := by simp [q_h0]; try omega
  repeat (first
    | (refine WD_block (fun K hK => ?_))
    | (refine WD_seq (fun K hK => ?_))
    | (refine WD_region (fun K hK => ?_))
    | ((first | refine RunD_o rfl rfl rfl rfl rfl (fun X hX => ?_) | refine RunD_s rfl rfl rfl rfl (fun X hX => ?_) | (refine RunD_oT rfl rfl rfl rfl rfl rfl rfl ?hb (fun X hX => ?_); (case hb => simp (disch := first | omega | (simp; done) | fail) [wrap64c, if_pos, if_neg, lw, g_h0] <;> omega))); (try dsimp only); simp (disch := first | omega | (simp; done) | fail) [wrap64c, if_pos, if_neg, lw, g_h0]; refine hX _ _ ?_; clear hX X)
    | (refine RunD_oF rfl rfl rfl rfl rfl ?hb ?_; (case hb => simp (disch := first | omega | (simp; done) | fail) [wrap64c, if_pos, if_neg, lw, g_h0] <;> omega))
    | ((first | refine RunD_oU (c := #[]) rfl rfl rfl rfl rfl ?hb ?_); (case hb => simp (disch := first | omega | (simp; done) | fail) [wrap64c, if_pos, if_neg, lw, g_h0]; rfl))
    | (refine RunD_nil ?_; refine hK _ _ ?_; clear hK K)
    | (refine RunD_nil ?_)
    | (refine WD_skip ?_)
    | (refine WD_exit ?_)
    | (refine WD_ret ?_)
    | (refine WD_true rfl ?hb ?_; (case hb => simp (disch := first | omega | (simp; done) | fail) [wrap64c, if_pos, if_neg, lw, g_h0] <;> omega))
    | (refine WD_false rfl ?hb ?_; (case hb => simp (disch := first | omega | (simp; done) | fail) [wrap64c, if_pos, if_neg, lw, g_h0] <;> omega))
    | (refine hK.1 _ _ ?_; clear hK K)
    | (refine hK.2.1 _ _ ?_; clear hK K)
    | (refine hK.2 _ _ _ ?hne ?_; (case hne => simp; done); clear hK K)
    | (refine hK.2.2 _ _ _ ?hne ?_; (case hne => simp; done); clear hK K))
  refine RunD_c rfl rfl rfl rfl (by simp) (by simp) ?ha (waGood_ok h0 _ L A (hv0.keep k_h0.1)) ?_
  (case ha => simp (disch := first | omega | (simp; done) | fail) [wrap64c, if_pos, if_neg, lw, g_h0])
  by_cases c1 : goodB L A = true
  · by_cases c2 : cs.length ≤ 60
    · repeat (first
        | (refine WD_block (fun K hK => ?_))
        | (refine WD_seq (fun K hK => ?_))
        | (refine WD_region (fun K hK => ?_))
        | ((first | refine RunD_o rfl rfl rfl rfl rfl (fun X hX => ?_) | refine RunD_s rfl rfl rfl rfl (fun X hX => ?_) | (refine RunD_oT rfl rfl rfl rfl rfl rfl rfl ?hb (fun X hX => ?_); (case hb => simp (disch := first | omega | (simp; done) | fail) [wrap64c, if_pos, if_neg, lw, g_h0, c1, c2] <;> omega))); (try dsimp only); simp (disch := first | omega | (simp; done) | fail) [wrap64c, if_pos, if_neg, lw, g_h0, c1, c2]; refine hX _ _ ?_; clear hX X)
        | (refine RunD_oF rfl rfl rfl rfl rfl ?hb ?_; (case hb => simp (disch := first | omega | (simp; done) | fail) [wrap64c, if_pos, if_neg, lw, g_h0, c1, c2] <;> omega))
        | ((first | refine RunD_oU (c := #[]) rfl rfl rfl rfl rfl ?hb ?_); (case hb => simp (disch := first | omega | (simp; done) | fail) [wrap64c, if_pos, if_neg, lw, g_h0, c1, c2]; rfl))
        | (refine RunD_nil ?_; refine hK _ _ ?_; clear hK K)
        | (refine RunD_nil ?_)
        | (refine WD_skip ?_)
        | (refine WD_exit ?_)
        | (refine WD_ret ?_)
        | (refine WD_true rfl ?hb ?_; (case hb => simp (disch := first | omega | (simp; done) | fail) [wrap64c, if_pos, if_neg, lw, g_h0, c1, c2] <;> omega))
        | (refine WD_false rfl ?hb ?_; (case hb => simp (disch := first | omega | (simp; done) | fail) [wrap64c, if_pos, if_neg, lw, g_h0, c1, c2] <;> omega))
        | (refine hK.1 _ _ ?_; clear hK K)
        | (refine hK.2.1 _ _ ?_; clear hK K)
        | (refine hK.2 _ _ _ ?hne ?_; (case hne => simp; done); clear hK K)
        | (refine hK.2.2 _ _ _ ?hne ?_; (case hne => simp; done); clear hK K))
      refine WD_loopF [1, 2, 19, 20] (fun m tm h' => ∃ j, m = cs.length - j ∧ h0 = h' ∧ tm 21 = .int .i64 (j : Int) ∧ (j ≤ cs.length) ∧ (∀ i (hi : i < cs.length), i < j → 0 ≤ cs[i])) _ ⟨0, rfl, rfl, (by simp (disch := first | omega | (simp; done) | fail) [wrap64c, if_pos, if_neg, lw, g_h0, c1, c2]), (by first | omega | (simp (disch := first | omega | (simp; done) | fail) [wrap64c, if_pos, if_neg, lw, g_h0, c1, c2]; done) | (simp (disch := first | omega | (simp; done) | fail) [wrap64c, if_pos, if_neg, lw, g_h0, c1, c2] <;> omega) | assumption), (by intro i hi h0; omega)⟩ ?_
      rintro m tm h' hFr ⟨j, rfl, rfl, e21, hj, hx⟩ K hK
      simp only [FrameL] at hFr
      obtain ⟨f1_0, f2_0, f19_0, f20_0, -⟩ := hFr
      try simp (disch := first | omega | (simp; done) | fail) [wrap64c, if_pos, if_neg, lw, g_h0, c1, c2] at f1_0
      try simp (disch := first | omega | (simp; done) | fail) [wrap64c, if_pos, if_neg, lw, g_h0, c1, c2] at f2_0
      try simp (disch := first | omega | (simp; done) | fail) [wrap64c, if_pos, if_neg, lw, g_h0, c1, c2] at f19_0
      try simp (disch := first | omega | (simp; done) | fail) [wrap64c, if_pos, if_neg, lw, g_h0, c1, c2] at f20_0
      have e1 := f1_0
      have e2 := f2_0
      have e19 := f19_0
      have e20 := f20_0
      by_cases hlt : j < cs.length
      · obtain ⟨o_x, i_x, c_x, cs_x, own_x, ex_x, es_x, q_x, b_x, g_x, l_x, r_x⟩ := (hw.keep k_h0.1).open ((by omega))
        have z_x : ∀ h2 : i_x < cs_x.length, cs_x[i_x] = _ := fun h2 => r_x 0 ((by omega)) h2
        by_cases c3 : cs[j] < 0
        · have eB : byR L A cs = none := if_neg fun q => by have := (chB_spec q).2 _ (List.getElem_mem hlt); omega
          repeat (first
            | (refine WD_block (fun K hK => ?_))
            | (refine WD_seq (fun K hK => ?_))
            | (refine WD_region (fun K hK => ?_))
            | ((first | refine RunD_o rfl rfl rfl rfl rfl (fun X hX => ?_) | refine RunD_s rfl rfl rfl rfl (fun X hX => ?_) | (refine RunD_oT rfl rfl rfl rfl rfl rfl rfl ?hb (fun X hX => ?_); (case hb => simp (disch := first | omega | (simp; done) | fail) [wrap64c, if_pos, if_neg, lw, g_h0, c1, c2, e1, e2, e19, e20, e21, hlt, q_x, g_x, l_x, r_x, z_x, c3] <;> omega))); (try dsimp only); simp (disch := first | omega | (simp; done) | fail) [wrap64c, if_pos, if_neg, lw, g_h0, c1, c2, e1, e2, e19, e20, e21, hlt, q_x, g_x, l_x, r_x, z_x, c3]; refine hX _ _ ?_; clear hX X)
            | (refine RunD_oF rfl rfl rfl rfl rfl ?hb ?_; (case hb => simp (disch := first | omega | (simp; done) | fail) [wrap64c, if_pos, if_neg, lw, g_h0, c1, c2, e1, e2, e19, e20, e21, hlt, q_x, g_x, l_x, r_x, z_x, c3] <;> omega))
            | ((first | refine RunD_oU (c := #[]) rfl rfl rfl rfl rfl ?hb ?_); (case hb => simp (disch := first | omega | (simp; done) | fail) [wrap64c, if_pos, if_neg, lw, g_h0, c1, c2, e1, e2, e19, e20, e21, hlt, q_x, g_x, l_x, r_x, z_x, c3]; rfl))
            | (refine RunD_nil ?_; refine hK _ _ ?_; clear hK K)
            | (refine RunD_nil ?_)
            | (refine WD_skip ?_)
            | (refine WD_exit ?_)
            | (refine WD_ret ?_)
            | (refine WD_true rfl ?hb ?_; (case hb => simp (disch := first | omega | (simp; done) | fail) [wrap64c, if_pos, if_neg, lw, g_h0, c1, c2, e1, e2, e19, e20, e21, hlt, q_x, g_x, l_x, r_x, z_x, c3] <;> omega))
            | (refine WD_false rfl ?hb ?_; (case hb => simp (disch := first | omega | (simp; done) | fail) [wrap64c, if_pos, if_neg, lw, g_h0, c1, c2, e1, e2, e19, e20, e21, hlt, q_x, g_x, l_x, r_x, z_x, c3] <;> omega))
            | (refine hK.1 _ _ ?_; clear hK K)
            | (refine hK.2.1 _ _ ?_; clear hK K)
            | (refine hK.2 _ _ _ ?hne ?_; (case hne => simp; done); clear hK K)
            | (refine hK.2.2 _ _ _ ?hne ?_; (case hne => simp; done); clear hK K))
          exact done_ret rfl ⟨k_h0, _, by rw [eB]; rfl, by rw [eB]; exact .nil _ _⟩
        · repeat (first
            | (refine WD_block (fun K hK => ?_))
            | (refine WD_seq (fun K hK => ?_))
            | (refine WD_region (fun K hK => ?_))
            | ((first | refine RunD_o rfl rfl rfl rfl rfl (fun X hX => ?_) | refine RunD_s rfl rfl rfl rfl (fun X hX => ?_) | (refine RunD_oT rfl rfl rfl rfl rfl rfl rfl ?hb (fun X hX => ?_); (case hb => simp (disch := first | omega | (simp; done) | fail) [wrap64c, if_pos, if_neg, lw, g_h0, c1, c2, e1, e2, e19, e20, e21, hlt, q_x, g_x, l_x, r_x, z_x, c3] <;> omega))); (try dsimp only); simp (disch := first | omega | (simp; done) | fail) [wrap64c, if_pos, if_neg, lw, g_h0, c1, c2, e1, e2, e19, e20, e21, hlt, q_x, g_x, l_x, r_x, z_x, c3]; refine hX _ _ ?_; clear hX X)
            | (refine RunD_oF rfl rfl rfl rfl rfl ?hb ?_; (case hb => simp (disch := first | omega | (simp; done) | fail) [wrap64c, if_pos, if_neg, lw, g_h0, c1, c2, e1, e2, e19, e20, e21, hlt, q_x, g_x, l_x, r_x, z_x, c3] <;> omega))
            | ((first | refine RunD_oU (c := #[]) rfl rfl rfl rfl rfl ?hb ?_); (case hb => simp (disch := first | omega | (simp; done) | fail) [wrap64c, if_pos, if_neg, lw, g_h0, c1, c2, e1, e2, e19, e20, e21, hlt, q_x, g_x, l_x, r_x, z_x, c3]; rfl))
            | (refine RunD_nil ?_; refine hK _ _ ?_; clear hK K)
            | (refine RunD_nil ?_)
            | (refine WD_skip ?_)
            | (refine WD_exit ?_)
            | (refine WD_ret ?_)
            | (refine WD_true rfl ?hb ?_; (case hb => simp (disch := first | omega | (simp; done) | fail) [wrap64c, if_pos, if_neg, lw, g_h0, c1, c2, e1, e2, e19, e20, e21, hlt, q_x, g_x, l_x, r_x, z_x, c3] <;> omega))
            | (refine WD_false rfl ?hb ?_; (case hb => simp (disch := first | omega | (simp; done) | fail) [wrap64c, if_pos, if_neg, lw, g_h0, c1, c2, e1, e2, e19, e20, e21, hlt, q_x, g_x, l_x, r_x, z_x, c3] <;> omega))
            | (refine hK.1 _ _ ?_; clear hK K)
            | (refine hK.2.1 _ _ ?_; clear hK K)
            | (refine hK.2 _ _ _ ?hne ?_; (case hne => simp; done); clear hK K)
            | (refine hK.2.2 _ _ _ ?hne ?_; (case hne => simp; done); clear hK K))
          refine hK.1 _ _ _ ?hm ?hf ⟨j + 1, rfl, rfl, (by first | (simp (disch := first | omega | (simp; done) | fail) [wrap64c, if_pos, if_neg, lw, g_h0, c1, c2, e1, e2, e19, e20, e21, hlt, q_x, g_x, l_x, r_x, z_x, c3]; done) | (simp (disch := first | omega | (simp; done) | fail) [wrap64c, if_pos, if_neg, lw, g_h0, c1, c2, e1, e2, e19, e20, e21, hlt, q_x, g_x, l_x, r_x, z_x, c3] <;> omega)), (by first | omega | (simp (disch := first | omega | (simp; done) | fail) [wrap64c, if_pos, if_neg, lw, g_h0, c1, c2, e1, e2, e19, e20, e21, hlt, q_x, g_x, l_x, r_x, z_x, c3]; done) | (simp (disch := first | omega | (simp; done) | fail) [wrap64c, if_pos, if_neg, lw, g_h0, c1, c2, e1, e2, e19, e20, e21, hlt, q_x, g_x, l_x, r_x, z_x, c3] <;> omega) | assumption), ?c_hx⟩
          (case hm => first | omega | (simp; omega))
          (case hf => simp [FrameL, lw, g_h0, c1, c2, e1, e2, e19, e20, e21, hlt, q_x, g_x, l_x, r_x, z_x, c3, f1_0, f2_0, f19_0, f20_0])
          case c_hx =>
            exact (fun i hi hij => by
              rcases Nat.lt_succ_iff_lt_or_eq.1 hij with q | q
              · exact hx i hi q
              · subst q; omega)
      · have c4 : ∀ x ∈ cs, 0 ≤ x := fun x hx' => by
          obtain ⟨i, hi, rfl⟩ := List.getElem_of_mem hx'
          exact hx i hi (by omega)
        have eB : byR L A cs = fullA L cs 61 [] A := by
          unfold byR chB fullR
          rw [if_pos (by simp [c4]; exact ⟨by omega, c4⟩), if_pos c1]
        repeat (first
          | (refine WD_block (fun K hK => ?_))
          | (refine WD_seq (fun K hK => ?_))
          | (refine WD_region (fun K hK => ?_))
          | ((first | refine RunD_o rfl rfl rfl rfl rfl (fun X hX => ?_) | refine RunD_s rfl rfl rfl rfl (fun X hX => ?_) | (refine RunD_oT rfl rfl rfl rfl rfl rfl rfl ?hb (fun X hX => ?_); (case hb => simp (disch := first | omega | (simp; done) | fail) [wrap64c, if_pos, if_neg, lw, g_h0, c1, c2, e1, e2, e19, e20, e21, hlt] <;> omega))); (try dsimp only); simp (disch := first | omega | (simp; done) | fail) [wrap64c, if_pos, if_neg, lw, g_h0, c1, c2, e1, e2, e19, e20, e21, hlt]; refine hX _ _ ?_; clear hX X)
          | (refine RunD_oF rfl rfl rfl rfl rfl ?hb ?_; (case hb => simp (disch := first | omega | (simp; done) | fail) [wrap64c, if_pos, if_neg, lw, g_h0, c1, c2, e1, e2, e19, e20, e21, hlt] <;> omega))
          | ((first | refine RunD_oU (c := #[]) rfl rfl rfl rfl rfl ?hb ?_); (case hb => simp (disch := first | omega | (simp; done) | fail) [wrap64c, if_pos, if_neg, lw, g_h0, c1, c2, e1, e2, e19, e20, e21, hlt]; rfl))
          | (refine RunD_nil ?_; refine hK _ _ ?_; clear hK K)
          | (refine RunD_nil ?_)
          | (refine WD_skip ?_)
          | (refine WD_exit ?_)
          | (refine WD_ret ?_)
          | (refine WD_true rfl ?hb ?_; (case hb => simp (disch := first | omega | (simp; done) | fail) [wrap64c, if_pos, if_neg, lw, g_h0, c1, c2, e1, e2, e19, e20, e21, hlt] <;> omega))
          | (refine WD_false rfl ?hb ?_; (case hb => simp (disch := first | omega | (simp; done) | fail) [wrap64c, if_pos, if_neg, lw, g_h0, c1, c2, e1, e2, e19, e20, e21, hlt] <;> omega))
          | (refine hK.1 _ _ ?_; clear hK K)
          | (refine hK.2.1 _ _ ?_; clear hK K)
          | (refine hK.2 _ _ _ ?hne ?_; (case hne => simp; done); clear hK K)
          | (refine hK.2.2 _ _ _ ?hne ?_; (case hne => simp; done); clear hK K))
        obtain ⟨v1, h1, hc1, ha1, u1, u2, rfl, hu1, hu2⟩ := waFull_ok h0 _ w L A cs (hv0.keep k_h0.1) (hw.keep k_h0.1) (good_of c1).ok c4
        refine RunD_c rfl rfl rfl rfl (by simp) (by simp) ?ha (hc1) ?_
        (case ha => simp (disch := first | omega | (simp; done) | fail) [wrap64c, if_pos, if_neg, lw, g_h0, c1, c2, e1, e2, e19, e20, e21, hlt])
        repeat (first
          | (refine WD_block (fun K hK => ?_))
          | (refine WD_seq (fun K hK => ?_))
          | (refine WD_region (fun K hK => ?_))
          | ((first | refine RunD_o rfl rfl rfl rfl rfl (fun X hX => ?_) | refine RunD_s rfl rfl rfl rfl (fun X hX => ?_) | (refine RunD_oT rfl rfl rfl rfl rfl rfl rfl ?hb (fun X hX => ?_); (case hb => simp (disch := first | omega | (simp; done) | fail) [wrap64c, if_pos, if_neg, lw, g_h0, c1, c2, e1, e2, e19, e20, e21, hlt] <;> omega))); (try dsimp only); simp (disch := first | omega | (simp; done) | fail) [wrap64c, if_pos, if_neg, lw, g_h0, c1, c2, e1, e2, e19, e20, e21, hlt]; refine hX _ _ ?_; clear hX X)
          | (refine RunD_oF rfl rfl rfl rfl rfl ?hb ?_; (case hb => simp (disch := first | omega | (simp; done) | fail) [wrap64c, if_pos, if_neg, lw, g_h0, c1, c2, e1, e2, e19, e20, e21, hlt] <;> omega))
          | ((first | refine RunD_oU (c := #[]) rfl rfl rfl rfl rfl ?hb ?_); (case hb => simp (disch := first | omega | (simp; done) | fail) [wrap64c, if_pos, if_neg, lw, g_h0, c1, c2, e1, e2, e19, e20, e21, hlt]; rfl))
          | (refine RunD_nil ?_; refine hK _ _ ?_; clear hK K)
          | (refine RunD_nil ?_)
          | (refine WD_skip ?_)
          | (refine WD_exit ?_)
          | (refine WD_ret ?_)
          | (refine WD_true rfl ?hb ?_; (case hb => simp (disch := first | omega | (simp; done) | fail) [wrap64c, if_pos, if_neg, lw, g_h0, c1, c2, e1, e2, e19, e20, e21, hlt] <;> omega))
          | (refine WD_false rfl ?hb ?_; (case hb => simp (disch := first | omega | (simp; done) | fail) [wrap64c, if_pos, if_neg, lw, g_h0, c1, c2, e1, e2, e19, e20, e21, hlt] <;> omega))
          | (refine hK.1 _ _ ?_; clear hK K)
          | (refine hK.2.1 _ _ ?_; clear hK K)
          | (refine hK.2 _ _ _ ?hne ?_; (case hne => simp; done); clear hK K)
          | (refine hK.2.2 _ _ _ ?hne ?_; (case hne => simp; done); clear hK K))
        exact done_ret rfl ⟨k_h0.trans ha1, u1, by rw [eB]; rfl, by rw [eB]; exact hu1.sub fun x hx => by unfold Btw at *; omega⟩
    · have eB : byR L A cs = none := if_neg fun q => by have := (chB_spec q).1; omega
      repeat (first
        | (refine WD_block (fun K hK => ?_))
        | (refine WD_seq (fun K hK => ?_))
        | (refine WD_region (fun K hK => ?_))
        | ((first | refine RunD_o rfl rfl rfl rfl rfl (fun X hX => ?_) | refine RunD_s rfl rfl rfl rfl (fun X hX => ?_) | (refine RunD_oT rfl rfl rfl rfl rfl rfl rfl ?hb (fun X hX => ?_); (case hb => simp (disch := first | omega | (simp; done) | fail) [wrap64c, if_pos, if_neg, lw, g_h0, c1, c2] <;> omega))); (try dsimp only); simp (disch := first | omega | (simp; done) | fail) [wrap64c, if_pos, if_neg, lw, g_h0, c1, c2]; refine hX _ _ ?_; clear hX X)
        | (refine RunD_oF rfl rfl rfl rfl rfl ?hb ?_; (case hb => simp (disch := first | omega | (simp; done) | fail) [wrap64c, if_pos, if_neg, lw, g_h0, c1, c2] <;> omega))
        | ((first | refine RunD_oU (c := #[]) rfl rfl rfl rfl rfl ?hb ?_); (case hb => simp (disch := first | omega | (simp; done) | fail) [wrap64c, if_pos, if_neg, lw, g_h0, c1, c2]; rfl))
        | (refine RunD_nil ?_; refine hK _ _ ?_; clear hK K)
        | (refine RunD_nil ?_)
        | (refine WD_skip ?_)
        | (refine WD_exit ?_)
        | (refine WD_ret ?_)
        | (refine WD_true rfl ?hb ?_; (case hb => simp (disch := first | omega | (simp; done) | fail) [wrap64c, if_pos, if_neg, lw, g_h0, c1, c2] <;> omega))
        | (refine WD_false rfl ?hb ?_; (case hb => simp (disch := first | omega | (simp; done) | fail) [wrap64c, if_pos, if_neg, lw, g_h0, c1, c2] <;> omega))
        | (refine hK.1 _ _ ?_; clear hK K)
        | (refine hK.2.1 _ _ ?_; clear hK K)
        | (refine hK.2 _ _ _ ?hne ?_; (case hne => simp; done); clear hK K)
        | (refine hK.2.2 _ _ _ ?hne ?_; (case hne => simp; done); clear hK K))
      exact done_ret rfl ⟨k_h0, _, by rw [eB]; rfl, by rw [eB]; exact .nil _ _⟩
  · have c1' : goodB L A = false := by simpa using c1
    have eB : byR L A cs = none := by unfold byR fullR; rw [if_neg c1]; split <;> rfl
    repeat (first
      | (refine WD_block (fun K hK => ?_))
      | (refine WD_seq (fun K hK => ?_))
      | (refine WD_region (fun K hK => ?_))
      | ((first | refine RunD_o rfl rfl rfl rfl rfl (fun X hX => ?_) | refine RunD_s rfl rfl rfl rfl (fun X hX => ?_) | (refine RunD_oT rfl rfl rfl rfl rfl rfl rfl ?hb (fun X hX => ?_); (case hb => simp (disch := first | omega | (simp; done) | fail) [wrap64c, if_pos, if_neg, lw, g_h0, c1, c1'] <;> omega))); (try dsimp only); simp (disch := first | omega | (simp; done) | fail) [wrap64c, if_pos, if_neg, lw, g_h0, c1, c1']; refine hX _ _ ?_; clear hX X)
      | (refine RunD_oF rfl rfl rfl rfl rfl ?hb ?_; (case hb => simp (disch := first | omega | (simp; done) | fail) [wrap64c, if_pos, if_neg, lw, g_h0, c1, c1'] <;> omega))
      | ((first | refine RunD_oU (c := #[]) rfl rfl rfl rfl rfl ?hb ?_); (case hb => simp (disch := first | omega | (simp; done) | fail) [wrap64c, if_pos, if_neg, lw, g_h0, c1, c1']; rfl))
      | (refine RunD_nil ?_; refine hK _ _ ?_; clear hK K)
      | (refine RunD_nil ?_)
      | (refine WD_skip ?_)
      | (refine WD_exit ?_)
      | (refine WD_ret ?_)
      | (refine WD_true rfl ?hb ?_; (case hb => simp (disch := first | omega | (simp; done) | fail) [wrap64c, if_pos, if_neg, lw, g_h0, c1, c1'] <;> omega))
      | (refine WD_false rfl ?hb ?_; (case hb => simp (disch := first | omega | (simp; done) | fail) [wrap64c, if_pos, if_neg, lw, g_h0, c1, c1'] <;> omega))
      | (refine hK.1 _ _ ?_; clear hK K)
      | (refine hK.2.1 _ _ ?_; clear hK K)
      | (refine hK.2 _ _ _ ?hne ?_; (case hne => simp; done); clear hK K)
      | (refine hK.2.2 _ _ _ ?hne ?_; (case hne => simp; done); clear hK K))
    exact done_ret rfl ⟨k_h0, _, by rw [eB]; rfl, by rw [eB]; exact .nil _ _⟩

/-- What a function on chips with a run and a truth as results is to do. -/
def FnCL' (f : FuncId) (R : List (List Int) → List Int → Option (List Int)) : Prop :=
  ∀ (h : Hp) (v : Value) (L : List (List Int)) (A : List Int), Chips h v L A →
    ∃ v' h', CallOK Try.prog f #[v] h v' h' ∧ Adds h h' ∧ ∃ u, v' = .tuple #[u, .bool (R L A).isSome] ∧ IntsO (Btw h.next h'.next) h' u ((R L A).getD [])
def fst? : Option (List Int × List Int) → Option (List Int)
  | some q => some q.1
  | none => none
theorem fst_getD (r : Option (List Int × List Int)) : (fst? r).getD [] = fRun r := by cases r <;> rfl
theorem fst_isSome (r : Option (List Int × List Int)) : (fst? r).isSome = r.isSome := by cases r <;> rfl
theorem Ints.nil (h : Hp) : Ints h (.slice none 0 0) [] := (IntsO.nil (fun _ => False) h).ints
noncomputable def firstR (L : List (List Int)) (A : List Int) : Option (List Int) := fst? (fullR L A [])
theorem chB_nil : chB [] 60 = true := by simp [chB]

theorem imFirstRun_ok : FnCL' 41 firstR := by
  intro h v L A hv
  refine call_L (args := [v]) 8 _ [.tmp 2, .tmp 3] Try.func41 rfl rfl rfl ?_
  have hv0 := hv
  obtain ⟨a, b, rfl, hL, hA⟩ := hv
  repeat (first
    | (refine WD_block (fun K hK => ?_))
    | (refine WD_seq (fun K hK => ?_)))
  refine WD_region (fun K hK => ?_)
  repeat (first
    | ((first | refine RunD_o rfl rfl rfl rfl rfl (fun X hX => ?_) | refine RunD_s rfl rfl rfl rfl (fun X hX => ?_)); (try dsimp only); simp (disch := first | omega | (simp; done) | fail) [wrap64c, if_pos, if_neg]; refine hX _ _ ?_; clear hX X))
  refine RunD_heap fun h0 q_h0 => ?_
  have g_h0 : h0.get h.next = .cells [a, b] true true 1 := by simp [q_h0]
  have k_h0 : Adds h h0 := by rw [q_h0]; exact (by repeat (first | exact keep_self _ | exact adds_self _ | assumption | exact Adds.keeps (by assumption) | refine keeps_alloc ?_ _ | refine adds_alloc ?_ _ _ _ | (refine keeps_put ?_ ?hle _; (case hle => first | omega | (simp; done) | (simp; omega))) | (refine adds_put ?_ ?hle _ _ _; (case hle => first | omega | (simp; done) | (simp; omega)))))
  have n_h0 : h.next < h0.next := by simp [q_h0]; try omega
  repeat (first
    | (refine WD_block (fun K hK => ?_))
    | (refine WD_seq (fun K hK => ?_))
    | (refine WD_region (fun K hK => ?_))
    | ((first | refine RunD_o rfl rfl rfl rfl rfl (fun X hX => ?_) | refine RunD_s rfl rfl rfl rfl (fun X hX => ?_)); (try dsimp only); simp (disch := first | omega | (simp; done) | fail) [wrap64c, if_pos, if_neg, g_h0]; refine hX _ _ ?_; clear hX X)
    | (refine RunD_nil ?_; refine hK _ _ ?_; clear hK K)
    | (refine RunD_nil ?_)
    | (refine WD_skip ?_)
    | (refine WD_exit ?_)
    | (refine WD_ret ?_)
    | (refine WD_true rfl ?hb ?_; (case hb => simp (disch := first | omega | (simp; done) | fail) [wrap64c, if_pos, if_neg, g_h0] <;> omega))
    | (refine WD_false rfl ?hb ?_; (case hb => simp (disch := first | omega | (simp; done) | fail) [wrap64c, if_pos, if_neg, g_h0] <;> omega))
    | (refine hK.1 _ _ ?_; clear hK K)
    | (refine hK.2.1 _ _ ?_; clear hK K)
    | (refine hK.2 _ _ _ ?hne ?_; (case hne => simp; done); clear hK K)
    | (refine hK.2.2 _ _ _ ?hne ?_; (case hne => simp; done); clear hK K))
  obtain ⟨v1, h1, hc1, ha1, u1, rfl, hu1⟩ := imRunBy_ok h0 _ (.slice none 0 0) L A [] (hv0.keep k_h0.1) (Ints.nil _)
  have eB : byR L A [] = fullR L A [] := if_pos chB_nil
  rw [eB] at hu1 hc1
  refine RunD_c rfl rfl rfl rfl (by simp) (by simp) ?ha (hc1) ?_
  (case ha => simp (disch := first | omega | (simp; done) | fail) [wrap64c, if_pos, if_neg, g_h0])
  repeat (first
    | (refine WD_block (fun K hK => ?_))
    | (refine WD_seq (fun K hK => ?_))
    | (refine WD_region (fun K hK => ?_))
    | ((first | refine RunD_o rfl rfl rfl rfl rfl (fun X hX => ?_) | refine RunD_s rfl rfl rfl rfl (fun X hX => ?_)); (try dsimp only); simp (disch := first | omega | (simp; done) | fail) [wrap64c, if_pos, if_neg, g_h0]; refine hX _ _ ?_; clear hX X)
    | (refine RunD_nil ?_; refine hK _ _ ?_; clear hK K)
    | (refine RunD_nil ?_)
    | (refine WD_skip ?_)
    | (refine WD_exit ?_)
    | (refine WD_ret ?_)
    | (refine WD_true rfl ?hb ?_; (case hb => simp (disch := first | omega | (simp; done) | fail) [wrap64c, if_pos, if_neg, g_h0] <;> omega))
    | (refine WD_false rfl ?hb ?_; (case hb => simp (disch := first | omega | (simp; done) | fail) [wrap64c, if_pos, if_neg, g_h0] <;> omega))
    | (refine hK.1 _ _ ?_; clear hK K)
    | (refine hK.2.1 _ _ ?_; clear hK K)
    | (refine hK.2 _ _ _ ?hne ?_; (case hne => simp; done); clear hK K)
    | (refine hK.2.2 _ _ _ ?hne ?_; (case hne => simp; done); clear hK K))
  exact done_ret rfl ⟨k_h0.trans ha1, u1, by rw [firstR, fst_isSome]; rfl, by rw [firstR, fst_getD]; exact hu1.sub fun x hx => by unfold Btw at *; omega⟩

theorem spFirstRun_ok : FnCL' 40 firstR := by
  intro h v L A hv
  refine call_L (args := [v]) 18 _ [.tmp 2, .tmp 3] Try.func40 rfl rfl rfl ?_
  have hv0 := hv
  obtain ⟨a, b, rfl, hL, hA⟩ := hv
  repeat (first
    | (refine WD_block (fun K hK => ?_))
    | (refine WD_seq (fun K hK => ?_)))
  refine WD_region (fun K hK => ?_)
  repeat (first
    | ((first | refine RunD_o rfl rfl rfl rfl rfl (fun X hX => ?_) | refine RunD_s rfl rfl rfl rfl (fun X hX => ?_)); (try dsimp only); simp (disch := first | omega | (simp; done) | fail) [wrap64c, if_pos, if_neg]; refine hX _ _ ?_; clear hX X))
  refine RunD_heap fun h0 q_h0 => ?_
  have g_h0 : h0.get h.next = .cells [a, b] true true 1 := by simp [q_h0]
  have k_h0 : Adds h h0 := by rw [q_h0]; exact (by repeat (first | exact keep_self _ | exact adds_self _ | assumption | exact Adds.keeps (by assumption) | refine keeps_alloc ?_ _ | refine adds_alloc ?_ _ _ _ | (refine keeps_put ?_ ?hle _; (case hle => first | omega | (simp; done) | (simp; omega))) | (refine adds_put ?_ ?hle _ _ _; (case hle => first | omega | (simp; done) | (simp; omega)))))
  have n_h0 : h.next < h0.next := by simp [q_h0]; try omega
  repeat (first
    | (refine WD_block (fun K hK => ?_))
    | (refine WD_seq (fun K hK => ?_))
    | (refine WD_region (fun K hK => ?_))
    | ((first | refine RunD_o rfl rfl rfl rfl rfl (fun X hX => ?_) | refine RunD_s rfl rfl rfl rfl (fun X hX => ?_)); (try dsimp only); simp (disch := first | omega | (simp; done) | fail) [wrap64c, if_pos, if_neg, g_h0]; refine hX _ _ ?_; clear hX X)
    | (refine RunD_nil ?_; refine hK _ _ ?_; clear hK K)
    | (refine RunD_nil ?_)
    | (refine WD_skip ?_)
    | (refine WD_exit ?_)
    | (refine WD_ret ?_)
    | (refine WD_true rfl ?hb ?_; (case hb => simp (disch := first | omega | (simp; done) | fail) [wrap64c, if_pos, if_neg, g_h0] <;> omega))
    | (refine WD_false rfl ?hb ?_; (case hb => simp (disch := first | omega | (simp; done) | fail) [wrap64c, if_pos, if_neg, g_h0] <;> omega))
    | (refine hK.1 _ _ ?_; clear hK K)
    | (refine hK.2.1 _ _ ?_; clear hK K)
    | (refine hK.2 _ _ _ ?hne ?_; (case hne => simp; done); clear hK K)
    | (refine hK.2.2 _ _ _ ?hne ?_; (case hne => simp; done); clear hK K))
  refine RunD_c rfl rfl rfl rfl (by simp) (by simp) ?ha (waGood_ok h0 _ L A (hv0.keep k_h0.1)) ?_
  (case ha => simp (disch := first | omega | (simp; done) | fail) [wrap64c, if_pos, if_neg, g_h0])
  by_cases c1 : goodB L A = true
  · repeat (first
      | (refine WD_block (fun K hK => ?_))
      | (refine WD_seq (fun K hK => ?_))
      | (refine WD_region (fun K hK => ?_))
      | ((first | refine RunD_o rfl rfl rfl rfl rfl (fun X hX => ?_) | refine RunD_s rfl rfl rfl rfl (fun X hX => ?_)); (try dsimp only); simp (disch := first | omega | (simp; done) | fail) [wrap64c, if_pos, if_neg, g_h0, c1]; refine hX _ _ ?_; clear hX X)
      | (refine RunD_nil ?_; refine hK _ _ ?_; clear hK K)
      | (refine RunD_nil ?_)
      | (refine WD_skip ?_)
      | (refine WD_exit ?_)
      | (refine WD_ret ?_)
      | (refine WD_true rfl ?hb ?_; (case hb => simp (disch := first | omega | (simp; done) | fail) [wrap64c, if_pos, if_neg, g_h0, c1] <;> omega))
      | (refine WD_false rfl ?hb ?_; (case hb => simp (disch := first | omega | (simp; done) | fail) [wrap64c, if_pos, if_neg, g_h0, c1] <;> omega))
      | (refine hK.1 _ _ ?_; clear hK K)
      | (refine hK.2.1 _ _ ?_; clear hK K)
      | (refine hK.2 _ _ _ ?hne ?_; (case hne => simp; done); clear hK K)
      | (refine hK.2.2 _ _ _ ?hne ?_; (case hne => simp; done); clear hK K))
    obtain ⟨v1, h1, hc1, ha1, u1, u2, rfl, hu1, hu2⟩ := waFull_ok h0 _ (.slice none 0 0) L A [] (hv0.keep k_h0.1) (Ints.nil _) (good_of c1).ok (by simp)
    have eB : fullR L A [] = fullA L [] 61 [] A := if_pos c1
    rw [← eB] at hu1 hc1
    refine RunD_c rfl rfl rfl rfl (by simp) (by simp) ?ha (hc1) ?_
    (case ha => simp (disch := first | omega | (simp; done) | fail) [wrap64c, if_pos, if_neg, g_h0, c1])
    repeat (first
      | (refine WD_block (fun K hK => ?_))
      | (refine WD_seq (fun K hK => ?_))
      | (refine WD_region (fun K hK => ?_))
      | ((first | refine RunD_o rfl rfl rfl rfl rfl (fun X hX => ?_) | refine RunD_s rfl rfl rfl rfl (fun X hX => ?_)); (try dsimp only); simp (disch := first | omega | (simp; done) | fail) [wrap64c, if_pos, if_neg, g_h0, c1]; refine hX _ _ ?_; clear hX X)
      | (refine RunD_nil ?_; refine hK _ _ ?_; clear hK K)
      | (refine RunD_nil ?_)
      | (refine WD_skip ?_)
      | (refine WD_exit ?_)
      | (refine WD_ret ?_)
      | (refine WD_true rfl ?hb ?_; (case hb => simp (disch := first | omega | (simp; done) | fail) [wrap64c, if_pos, if_neg, g_h0, c1] <;> omega))
      | (refine WD_false rfl ?hb ?_; (case hb => simp (disch := first | omega | (simp; done) | fail) [wrap64c, if_pos, if_neg, g_h0, c1] <;> omega))
      | (refine hK.1 _ _ ?_; clear hK K)
      | (refine hK.2.1 _ _ ?_; clear hK K)
      | (refine hK.2 _ _ _ ?hne ?_; (case hne => simp; done); clear hK K)
      | (refine hK.2.2 _ _ _ ?hne ?_; (case hne => simp; done); clear hK K))
    exact done_ret rfl ⟨k_h0.trans ha1, u1, by rw [firstR, fst_isSome]; rfl, by rw [firstR, fst_getD]; exact hu1.sub fun x hx => by unfold Btw at *; omega⟩
  · have c1' : goodB L A = false := by simpa using c1
    have eB : fullR L A [] = none := if_neg c1
    repeat (first
      | (refine WD_block (fun K hK => ?_))
      | (refine WD_seq (fun K hK => ?_))
      | (refine WD_region (fun K hK => ?_))
      | ((first | refine RunD_o rfl rfl rfl rfl rfl (fun X hX => ?_) | refine RunD_s rfl rfl rfl rfl (fun X hX => ?_)); (try dsimp only); simp (disch := first | omega | (simp; done) | fail) [wrap64c, if_pos, if_neg, g_h0, c1, c1']; refine hX _ _ ?_; clear hX X)
      | (refine RunD_nil ?_; refine hK _ _ ?_; clear hK K)
      | (refine RunD_nil ?_)
      | (refine WD_skip ?_)
      | (refine WD_exit ?_)
      | (refine WD_ret ?_)
      | (refine WD_true rfl ?hb ?_; (case hb => simp (disch := first | omega | (simp; done) | fail) [wrap64c, if_pos, if_neg, g_h0, c1, c1'] <;> omega))
      | (refine WD_false rfl ?hb ?_; (case hb => simp (disch := first | omega | (simp; done) | fail) [wrap64c, if_pos, if_neg, g_h0, c1, c1'] <;> omega))
      | (refine hK.1 _ _ ?_; clear hK K)
      | (refine hK.2.1 _ _ ?_; clear hK K)
      | (refine hK.2 _ _ _ ?hne ?_; (case hne => simp; done); clear hK K)
      | (refine hK.2.2 _ _ _ ?hne ?_; (case hne => simp; done); clear hK K))
    exact done_ret rfl ⟨k_h0, _, by rw [firstR, eB]; rfl, by rw [firstR, eB]; exact .nil _ _⟩

noncomputable def endR (L : List (List Int)) (A : List Int) : Bool := goodB L A && !(fullR L A []).isSome
theorem imNeverEnds_ok (h : Hp) (v : Value) (L : List (List Int)) (A : List Int) (hv : Chips h v L A) : CallOK Try.prog 32 #[v] h (.tuple #[.bool (endR L A), .bool (goodB L A)]) h := by
  refine call_P 18 _ [.tmp 2, .tmp 3] Try.func32 rfl rfl rfl (by first | rfl | simp) ?_
  have hv0 := hv
  obtain ⟨a, b, rfl, hL, hA⟩ := hv
  repeat (first
    | (refine WD_block (fun K hK => ?_))
    | (refine WD_seq (fun K hK => ?_)))
  refine WD_region (fun K hK => ?_)
  repeat (first
    | ((first | refine RunD_o rfl rfl rfl rfl rfl (fun X hX => ?_) | refine RunD_s rfl rfl rfl rfl (fun X hX => ?_)); (try dsimp only); simp (disch := first | omega | (simp; done) | fail) [wrap64c, if_pos, if_neg]; refine hX _ _ ?_; clear hX X))
  refine RunD_heap fun h0 q_h0 => ?_
  have g_h0 : h0.get h.next = .cells [a, b] true true 1 := by simp [q_h0]
  have k_h0 : Adds h h0 := by rw [q_h0]; exact (by repeat (first | exact keep_self _ | exact adds_self _ | assumption | exact Adds.keeps (by assumption) | refine keeps_alloc ?_ _ | refine adds_alloc ?_ _ _ _ | (refine keeps_put ?_ ?hle _; (case hle => first | omega | (simp; done) | (simp; omega))) | (refine adds_put ?_ ?hle _ _ _; (case hle => first | omega | (simp; done) | (simp; omega)))))
  have n_h0 : h.next < h0.next := by simp [q_h0]; try omega
  repeat (first
    | (refine WD_block (fun K hK => ?_))
    | (refine WD_seq (fun K hK => ?_))
    | (refine WD_region (fun K hK => ?_))
    | ((first | refine RunD_o rfl rfl rfl rfl rfl (fun X hX => ?_) | refine RunD_s rfl rfl rfl rfl (fun X hX => ?_)); (try dsimp only); simp (disch := first | omega | (simp; done) | fail) [wrap64c, if_pos, if_neg, g_h0]; refine hX _ _ ?_; clear hX X)
    | (refine RunD_nil ?_; refine hK _ _ ?_; clear hK K)
    | (refine RunD_nil ?_)
    | (refine WD_skip ?_)
    | (refine WD_exit ?_)
    | (refine WD_ret ?_)
    | (refine WD_true rfl ?hb ?_; (case hb => simp (disch := first | omega | (simp; done) | fail) [wrap64c, if_pos, if_neg, g_h0] <;> omega))
    | (refine WD_false rfl ?hb ?_; (case hb => simp (disch := first | omega | (simp; done) | fail) [wrap64c, if_pos, if_neg, g_h0] <;> omega))
    | (refine hK.1 _ _ ?_; clear hK K)
    | (refine hK.2.1 _ _ ?_; clear hK K)
    | (refine hK.2 _ _ _ ?hne ?_; (case hne => simp; done); clear hK K)
    | (refine hK.2.2 _ _ _ ?hne ?_; (case hne => simp; done); clear hK K))
  refine RunD_c rfl rfl rfl rfl (by simp) (by simp) ?ha (imAreChips_ok h0 _ L A (hv0.keep k_h0.1)) ?_
  (case ha => simp (disch := first | omega | (simp; done) | fail) [wrap64c, if_pos, if_neg, g_h0])
  by_cases c1 : goodB L A = true
  · repeat (first
      | (refine WD_block (fun K hK => ?_))
      | (refine WD_seq (fun K hK => ?_))
      | (refine WD_region (fun K hK => ?_))
      | ((first | refine RunD_o rfl rfl rfl rfl rfl (fun X hX => ?_) | refine RunD_s rfl rfl rfl rfl (fun X hX => ?_)); (try dsimp only); simp (disch := first | omega | (simp; done) | fail) [wrap64c, if_pos, if_neg, g_h0, c1]; refine hX _ _ ?_; clear hX X)
      | (refine RunD_nil ?_; refine hK _ _ ?_; clear hK K)
      | (refine RunD_nil ?_)
      | (refine WD_skip ?_)
      | (refine WD_exit ?_)
      | (refine WD_ret ?_)
      | (refine WD_true rfl ?hb ?_; (case hb => simp (disch := first | omega | (simp; done) | fail) [wrap64c, if_pos, if_neg, g_h0, c1] <;> omega))
      | (refine WD_false rfl ?hb ?_; (case hb => simp (disch := first | omega | (simp; done) | fail) [wrap64c, if_pos, if_neg, g_h0, c1] <;> omega))
      | (refine hK.1 _ _ ?_; clear hK K)
      | (refine hK.2.1 _ _ ?_; clear hK K)
      | (refine hK.2 _ _ _ ?hne ?_; (case hne => simp; done); clear hK K)
      | (refine hK.2.2 _ _ _ ?hne ?_; (case hne => simp; done); clear hK K))
    obtain ⟨v1, h1, hc1, ha1, u1, u2, rfl, hu1, hu2⟩ := imFull_ok h0 _ (.slice none 0 0) L A [] (hv0.keep k_h0.1) (Ints.nil _) (by simp)
    obtain ⟨p, q, S1, S2, rfl, hp, hq, s1, s2, s3⟩ := hu2
    refine RunD_c rfl rfl rfl rfl (by simp) (by simp) ?ha (hc1) ?_
    (case ha => simp (disch := first | omega | (simp; done) | fail) [wrap64c, if_pos, if_neg, g_h0, c1])
    have ntp := hp.nt
    have csp := hp.cs
    have ntq := hq.nt
    have csq := hq.cs
    have n1 := ha1.1.1
    have K1 := k_h0.trans ha1
    repeat (first
      | (refine WD_block (fun K hK => ?_))
      | (refine WD_seq (fun K hK => ?_))
      | (refine WD_region (fun K hK => ?_))
      | ((first | refine RunD_o rfl rfl rfl rfl rfl (fun X hX => ?_) | refine RunD_s rfl rfl rfl rfl (fun X hX => ?_)); (try dsimp only); simp (disch := first | omega | (simp; done) | fail) [wrap64c, if_pos, if_neg, g_h0, c1, ntp, csp, ntq, csq, putCells]; refine hX _ _ ?_; clear hX X)
      | (refine RunD_nil ?_; refine hK _ _ ?_; clear hK K)
      | (refine RunD_nil ?_)
      | (refine WD_skip ?_)
      | (refine WD_exit ?_)
      | (refine WD_ret ?_)
      | (refine WD_true rfl ?hb ?_; (case hb => simp (disch := first | omega | (simp; done) | fail) [wrap64c, if_pos, if_neg, g_h0, c1, ntp, csp, ntq, csq, putCells] <;> omega))
      | (refine WD_false rfl ?hb ?_; (case hb => simp (disch := first | omega | (simp; done) | fail) [wrap64c, if_pos, if_neg, g_h0, c1, ntp, csp, ntq, csq, putCells] <;> omega))
      | (refine hK.1 _ _ ?_; clear hK K)
      | (refine hK.2.1 _ _ ?_; clear hK K)
      | (refine hK.2 _ _ _ ?hne ?_; (case hne => simp; done); clear hK K)
      | (refine hK.2.2 _ _ _ ?hne ?_; (case hne => simp; done); clear hK K))
    exact done_ret rfl ⟨by simp [endR, c1], (by repeat (first | exact keep_self _ | exact adds_self _ | assumption | exact Adds.keeps (by assumption) | refine keeps_alloc ?_ _ | refine adds_alloc ?_ _ _ _ | (refine keeps_put ?_ ?hle _; (case hle => first | omega | (simp; done) | (simp; omega))) | (refine adds_put ?_ ?hle _ _ _; (case hle => first | omega | (simp; done) | (simp; omega)))))⟩
  · have c1' : goodB L A = false := by simpa using c1
    repeat (first
      | (refine WD_block (fun K hK => ?_))
      | (refine WD_seq (fun K hK => ?_))
      | (refine WD_region (fun K hK => ?_))
      | ((first | refine RunD_o rfl rfl rfl rfl rfl (fun X hX => ?_) | refine RunD_s rfl rfl rfl rfl (fun X hX => ?_)); (try dsimp only); simp (disch := first | omega | (simp; done) | fail) [wrap64c, if_pos, if_neg, g_h0, c1, c1']; refine hX _ _ ?_; clear hX X)
      | (refine RunD_nil ?_; refine hK _ _ ?_; clear hK K)
      | (refine RunD_nil ?_)
      | (refine WD_skip ?_)
      | (refine WD_exit ?_)
      | (refine WD_ret ?_)
      | (refine WD_true rfl ?hb ?_; (case hb => simp (disch := first | omega | (simp; done) | fail) [wrap64c, if_pos, if_neg, g_h0, c1, c1'] <;> omega))
      | (refine WD_false rfl ?hb ?_; (case hb => simp (disch := first | omega | (simp; done) | fail) [wrap64c, if_pos, if_neg, g_h0, c1, c1'] <;> omega))
      | (refine hK.1 _ _ ?_; clear hK K)
      | (refine hK.2.1 _ _ ?_; clear hK K)
      | (refine hK.2 _ _ _ ?hne ?_; (case hne => simp; done); clear hK K)
      | (refine hK.2.2 _ _ _ ?hne ?_; (case hne => simp; done); clear hK K))
    exact done_ret rfl (by simp [endR, c1', k_h0.1])
theorem spNeverEnds_ok (h : Hp) (v : Value) (L : List (List Int)) (A : List Int) (hv : Chips h v L A) : CallOK Try.prog 31 #[v] h (.tuple #[.bool (endR L A), .bool (goodB L A)]) h := by
  refine call_P 18 _ [.tmp 2, .tmp 3] Try.func31 rfl rfl rfl (by first | rfl | simp) ?_
  have hv0 := hv
  obtain ⟨a, b, rfl, hL, hA⟩ := hv
  repeat (first
    | (refine WD_block (fun K hK => ?_))
    | (refine WD_seq (fun K hK => ?_)))
  refine WD_region (fun K hK => ?_)
  repeat (first
    | ((first | refine RunD_o rfl rfl rfl rfl rfl (fun X hX => ?_) | refine RunD_s rfl rfl rfl rfl (fun X hX => ?_)); (try dsimp only); simp (disch := first | omega | (simp; done) | fail) [wrap64c, if_pos, if_neg]; refine hX _ _ ?_; clear hX X))
  refine RunD_heap fun h0 q_h0 => ?_
  have g_h0 : h0.get h.next = .cells [a, b] true true 1 := by simp [q_h0]
  have k_h0 : Adds h h0 := by rw [q_h0]; exact (by repeat (first | exact keep_self _ | exact adds_self _ | assumption | exact Adds.keeps (by assumption) | refine keeps_alloc ?_ _ | refine adds_alloc ?_ _ _ _ | (refine keeps_put ?_ ?hle _; (case hle => first | omega | (simp; done) | (simp; omega))) | (refine adds_put ?_ ?hle _ _ _; (case hle => first | omega | (simp; done) | (simp; omega)))))
  have n_h0 : h.next < h0.next := by simp [q_h0]; try omega
  repeat (first
    | (refine WD_block (fun K hK => ?_))
    | (refine WD_seq (fun K hK => ?_))
    | (refine WD_region (fun K hK => ?_))
    | ((first | refine RunD_o rfl rfl rfl rfl rfl (fun X hX => ?_) | refine RunD_s rfl rfl rfl rfl (fun X hX => ?_)); (try dsimp only); simp (disch := first | omega | (simp; done) | fail) [wrap64c, if_pos, if_neg, g_h0]; refine hX _ _ ?_; clear hX X)
    | (refine RunD_nil ?_; refine hK _ _ ?_; clear hK K)
    | (refine RunD_nil ?_)
    | (refine WD_skip ?_)
    | (refine WD_exit ?_)
    | (refine WD_ret ?_)
    | (refine WD_true rfl ?hb ?_; (case hb => simp (disch := first | omega | (simp; done) | fail) [wrap64c, if_pos, if_neg, g_h0] <;> omega))
    | (refine WD_false rfl ?hb ?_; (case hb => simp (disch := first | omega | (simp; done) | fail) [wrap64c, if_pos, if_neg, g_h0] <;> omega))
    | (refine hK.1 _ _ ?_; clear hK K)
    | (refine hK.2.1 _ _ ?_; clear hK K)
    | (refine hK.2 _ _ _ ?hne ?_; (case hne => simp; done); clear hK K)
    | (refine hK.2.2 _ _ _ ?hne ?_; (case hne => simp; done); clear hK K))
  refine RunD_c rfl rfl rfl rfl (by simp) (by simp) ?ha (waGood_ok h0 _ L A (hv0.keep k_h0.1)) ?_
  (case ha => simp (disch := first | omega | (simp; done) | fail) [wrap64c, if_pos, if_neg, g_h0])
  by_cases c1 : goodB L A = true
  · repeat (first
      | (refine WD_block (fun K hK => ?_))
      | (refine WD_seq (fun K hK => ?_))
      | (refine WD_region (fun K hK => ?_))
      | ((first | refine RunD_o rfl rfl rfl rfl rfl (fun X hX => ?_) | refine RunD_s rfl rfl rfl rfl (fun X hX => ?_)); (try dsimp only); simp (disch := first | omega | (simp; done) | fail) [wrap64c, if_pos, if_neg, g_h0, c1]; refine hX _ _ ?_; clear hX X)
      | (refine RunD_nil ?_; refine hK _ _ ?_; clear hK K)
      | (refine RunD_nil ?_)
      | (refine WD_skip ?_)
      | (refine WD_exit ?_)
      | (refine WD_ret ?_)
      | (refine WD_true rfl ?hb ?_; (case hb => simp (disch := first | omega | (simp; done) | fail) [wrap64c, if_pos, if_neg, g_h0, c1] <;> omega))
      | (refine WD_false rfl ?hb ?_; (case hb => simp (disch := first | omega | (simp; done) | fail) [wrap64c, if_pos, if_neg, g_h0, c1] <;> omega))
      | (refine hK.1 _ _ ?_; clear hK K)
      | (refine hK.2.1 _ _ ?_; clear hK K)
      | (refine hK.2 _ _ _ ?hne ?_; (case hne => simp; done); clear hK K)
      | (refine hK.2.2 _ _ _ ?hne ?_; (case hne => simp; done); clear hK K))
    obtain ⟨v1, h1, hc1, ha1, u1, u2, rfl, hu1, hu2⟩ := waFull_ok h0 _ (.slice none 0 0) L A [] (hv0.keep k_h0.1) (Ints.nil _) (good_of c1).ok (by simp)
    have eB : fullR L A [] = fullA L [] 61 [] A := if_pos c1
    refine RunD_c rfl rfl rfl rfl (by simp) (by simp) ?ha (hc1) ?_
    (case ha => simp (disch := first | omega | (simp; done) | fail) [wrap64c, if_pos, if_neg, g_h0, c1])
    repeat (first
      | (refine WD_block (fun K hK => ?_))
      | (refine WD_seq (fun K hK => ?_))
      | (refine WD_region (fun K hK => ?_))
      | ((first | refine RunD_o rfl rfl rfl rfl rfl (fun X hX => ?_) | refine RunD_s rfl rfl rfl rfl (fun X hX => ?_)); (try dsimp only); simp (disch := first | omega | (simp; done) | fail) [wrap64c, if_pos, if_neg, g_h0, c1]; refine hX _ _ ?_; clear hX X)
      | (refine RunD_nil ?_; refine hK _ _ ?_; clear hK K)
      | (refine RunD_nil ?_)
      | (refine WD_skip ?_)
      | (refine WD_exit ?_)
      | (refine WD_ret ?_)
      | (refine WD_true rfl ?hb ?_; (case hb => simp (disch := first | omega | (simp; done) | fail) [wrap64c, if_pos, if_neg, g_h0, c1] <;> omega))
      | (refine WD_false rfl ?hb ?_; (case hb => simp (disch := first | omega | (simp; done) | fail) [wrap64c, if_pos, if_neg, g_h0, c1] <;> omega))
      | (refine hK.1 _ _ ?_; clear hK K)
      | (refine hK.2.1 _ _ ?_; clear hK K)
      | (refine hK.2 _ _ _ ?hne ?_; (case hne => simp; done); clear hK K)
      | (refine hK.2.2 _ _ _ ?hne ?_; (case hne => simp; done); clear hK K))
    exact done_ret rfl ⟨by simp [endR, c1, eB], (k_h0.trans ha1).1⟩
  · have c1' : goodB L A = false := by simpa using c1
    repeat (first
      | (refine WD_block (fun K hK => ?_))
      | (refine WD_seq (fun K hK => ?_))
      | (refine WD_region (fun K hK => ?_))
      | ((first | refine RunD_o rfl rfl rfl rfl rfl (fun X hX => ?_) | refine RunD_s rfl rfl rfl rfl (fun X hX => ?_)); (try dsimp only); simp (disch := first | omega | (simp; done) | fail) [wrap64c, if_pos, if_neg, g_h0, c1, c1']; refine hX _ _ ?_; clear hX X)
      | (refine RunD_nil ?_; refine hK _ _ ?_; clear hK K)
      | (refine RunD_nil ?_)
      | (refine WD_skip ?_)
      | (refine WD_exit ?_)
      | (refine WD_ret ?_)
      | (refine WD_true rfl ?hb ?_; (case hb => simp (disch := first | omega | (simp; done) | fail) [wrap64c, if_pos, if_neg, g_h0, c1, c1'] <;> omega))
      | (refine WD_false rfl ?hb ?_; (case hb => simp (disch := first | omega | (simp; done) | fail) [wrap64c, if_pos, if_neg, g_h0, c1, c1'] <;> omega))
      | (refine hK.1 _ _ ?_; clear hK K)
      | (refine hK.2.1 _ _ ?_; clear hK K)
      | (refine hK.2 _ _ _ ?hne ?_; (case hne => simp; done); clear hK K)
      | (refine hK.2.2 _ _ _ ?hne ?_; (case hne => simp; done); clear hK K))
    exact done_ret rfl (by simp [endR, c1', k_h0.1])

/-- What a function on chips with chips and a truth as results is to do. -/
def FnCC (f : FuncId) (R : List (List Int) → List Int → Option (List Int)) : Prop :=
  ∀ (h : Hp) (v : Value) (L : List (List Int)) (A : List Int), Chips h v L A →
    ∃ v' h', CallOK Try.prog f #[v] h v' h' ∧ Adds h h' ∧ ∃ u, v' = .tuple #[u, .bool (R L A).isSome] ∧ ChipsO (Btw h.next h'.next) h' u (chL L (R L A)) (chA (R L A))
noncomputable def finalR (L : List (List Int)) (A : List Int) : Option (List Int) := snd? (fullR L A [])
theorem snd_isSome (r : Option (List Int × List Int)) : (snd? r).isSome = r.isSome := by cases r <;> rfl

theorem imFinalChips_ok : FnCC 47 finalR := by
  intro h v L A hv
  refine call_L (args := [v]) 15 _ [.cell 2 28, .tmp 3] Try.func47 rfl rfl rfl ?_
  have hv0 := hv
  obtain ⟨a, b, rfl, hL, hA⟩ := hv
  repeat (first
    | (refine WD_block (fun K hK => ?_))
    | (refine WD_seq (fun K hK => ?_)))
  refine WD_region (fun K hK => ?_)
  repeat (first
    | ((first | refine RunD_o rfl rfl rfl rfl rfl (fun X hX => ?_) | refine RunD_s rfl rfl rfl rfl (fun X hX => ?_)); (try dsimp only); simp (disch := first | omega | (simp; done) | fail) [wrap64c, if_pos, if_neg]; refine hX _ _ ?_; clear hX X))
  first | refine WD_heap fun h0 q_h0 => ?_ | refine RunD_heap fun h0 q_h0 => ?_ | refine PreD_heap fun h0 q_h0 => ?_ | refine Done_heap fun h0 q_h0 => ?_
  have k0 : Adds h h0 := by rw [q_h0]; exact (by repeat (first | exact keep_self _ | exact adds_self _ | assumption | exact Adds.keeps (by assumption) | refine keeps_alloc ?_ _ | refine adds_alloc ?_ _ _ _ | (refine keeps_put ?_ ?hle _; (case hle => first | omega | (simp; done) | (simp; omega))) | (refine adds_put ?_ ?hle _ _ _; (case hle => first | omega | (simp; done) | (simp; omega)))))
  have n0 : h0.next = h.next + 2 := by simp [q_h0]
  have g0 : h0.get h.next = .cells [a, b] true true 1 := by simp [q_h0]
  have z0 : h0.get (h.next + 1) = .cells [.slice none 0 0, .slice none 0 0] true true 1 := by simp [q_h0]
  repeat (first
    | (refine WD_block (fun K hK => ?_))
    | (refine WD_seq (fun K hK => ?_))
    | (refine WD_region (fun K hK => ?_))
    | ((first | refine RunD_o rfl rfl rfl rfl rfl (fun X hX => ?_) | refine RunD_s rfl rfl rfl rfl (fun X hX => ?_)); (try dsimp only); simp (disch := first | omega | (simp; done) | fail) [wrap64c, if_pos, if_neg, g0, z0]; refine hX _ _ ?_; clear hX X)
    | (refine RunD_nil ?_; refine hK _ _ ?_; clear hK K)
    | (refine RunD_nil ?_)
    | (refine WD_skip ?_)
    | (refine WD_exit ?_)
    | (refine WD_ret ?_)
    | (refine WD_true rfl ?hb ?_; (case hb => simp (disch := first | omega | (simp; done) | fail) [wrap64c, if_pos, if_neg, g0, z0] <;> omega))
    | (refine WD_false rfl ?hb ?_; (case hb => simp (disch := first | omega | (simp; done) | fail) [wrap64c, if_pos, if_neg, g0, z0] <;> omega))
    | (refine hK.1 _ _ ?_; clear hK K)
    | (refine hK.2.1 _ _ ?_; clear hK K)
    | (refine hK.2 _ _ _ ?hne ?_; (case hne => simp; done); clear hK K)
    | (refine hK.2.2 _ _ _ ?hne ?_; (case hne => simp; done); clear hK K))
  obtain ⟨v1, h1, hc1, ha1, u1, u2, rfl, hu1, hu2⟩ := imFull_ok h0 _ (.slice none 0 0) L A [] (hv0.keep k0.1) (Ints.nil _) (by simp)
  obtain ⟨p, q, S1, S2, rfl, hp, hq, s1, s2, s3⟩ := hu2
  refine RunD_c rfl rfl rfl rfl (by simp) (by simp) ?ha (hc1) ?_
  (case ha => simp (disch := first | omega | (simp; done) | fail) [wrap64c, if_pos, if_neg, g0, z0])
  have ntp := hp.nt
  have csp := hp.cs
  have ntq := hq.nt
  have csq := hq.cs
  have n1 := ha1.1.1
  have K1 := k0.trans ha1
  have z1 : h1.get (h.next + 1) = .cells [.slice none 0 0, .slice none 0 0] true true 1 := by rw [ha1.1.2 _ (by omega)]; exact z0
  repeat (first
    | (refine WD_block (fun K hK => ?_))
    | (refine WD_seq (fun K hK => ?_))
    | (refine WD_region (fun K hK => ?_))
    | ((first | refine RunD_o rfl rfl rfl rfl rfl (fun X hX => ?_) | refine RunD_s rfl rfl rfl rfl (fun X hX => ?_)); (try dsimp only); simp (disch := first | omega | (simp; done) | fail) [wrap64c, if_pos, if_neg, g0, z0, ntp, csp, ntq, csq, z1, putCells]; refine hX _ _ ?_; clear hX X)
    | (refine RunD_nil ?_; refine hK _ _ ?_; clear hK K)
    | (refine RunD_nil ?_)
    | (refine WD_skip ?_)
    | (refine WD_exit ?_)
    | (refine WD_ret ?_)
    | (refine WD_true rfl ?hb ?_; (case hb => simp (disch := first | omega | (simp; done) | fail) [wrap64c, if_pos, if_neg, g0, z0, ntp, csp, ntq, csq, z1, putCells] <;> omega))
    | (refine WD_false rfl ?hb ?_; (case hb => simp (disch := first | omega | (simp; done) | fail) [wrap64c, if_pos, if_neg, g0, z0, ntp, csp, ntq, csq, z1, putCells] <;> omega))
    | (refine hK.1 _ _ ?_; clear hK K)
    | (refine hK.2.1 _ _ ?_; clear hK K)
    | (refine hK.2 _ _ _ ?hne ?_; (case hne => simp; done); clear hK K)
    | (refine hK.2.2 _ _ _ ?hne ?_; (case hne => simp; done); clear hK K))
  first | refine WD_heap fun h2 q_h2 => ?_ | refine RunD_heap fun h2 q_h2 => ?_ | refine PreD_heap fun h2 q_h2 => ?_ | refine Done_heap fun h2 q_h2 => ?_
  have K12 : Adds h h2 := by rw [q_h2]; exact (by repeat (first | exact keep_self _ | exact adds_self _ | assumption | exact Adds.keeps (by assumption) | refine keeps_alloc ?_ _ | refine adds_alloc ?_ _ _ _ | (refine keeps_put ?_ ?hle _; (case hle => first | omega | (simp; done) | (simp; omega))) | (refine adds_put ?_ ?hle _ _ _; (case hle => first | omega | (simp; done) | (simp; omega)))))
  have e2 : h2.get (h.next + 1) = .cells [p, q] true true 1 := by simp [q_h2]
  have sm : ∀ S : Nat → Prop, (∀ x, S x → Btw h0.next h1.next x) → Same S h1 h2 := fun S hS => by
    rw [q_h2]
    exact ⟨by simp, fun o ho ho' => by have := hS o ho; unfold Btw at this; simp [show ¬ o = h1.next by omega, show ¬ o = h.next + 1 by omega]⟩
  have n2 : h1.next ≤ h2.next := by simp [q_h2]
  refine done_ret (by simp [e2]; rfl) ⟨K12, _, by rw [finalR, snd_isSome]; rfl, p, q, S1, S2, by simp, hp.same (sm S1 s1), hq.same (sm S2 s2), fun x hx => ?_, fun x hx => ?_, s3⟩
  · have := s1 x hx; unfold Btw at *; omega
  · have := s2 x hx; unfold Btw at *; omega

theorem spFinalChips_ok : FnCC 46 finalR := by
  intro h v L A hv
  refine call_L (args := [v]) 23 _ [.cell 2 28, .tmp 3] Try.func46 rfl rfl rfl ?_
  have hv0 := hv
  obtain ⟨a, b, rfl, hL, hA⟩ := hv
  repeat (first
    | (refine WD_block (fun K hK => ?_))
    | (refine WD_seq (fun K hK => ?_)))
  refine WD_region (fun K hK => ?_)
  repeat (first
    | ((first | refine RunD_o rfl rfl rfl rfl rfl (fun X hX => ?_) | refine RunD_s rfl rfl rfl rfl (fun X hX => ?_)); (try dsimp only); simp (disch := first | omega | (simp; done) | fail) [wrap64c, if_pos, if_neg]; refine hX _ _ ?_; clear hX X))
  first | refine WD_heap fun h0 q_h0 => ?_ | refine RunD_heap fun h0 q_h0 => ?_ | refine PreD_heap fun h0 q_h0 => ?_ | refine Done_heap fun h0 q_h0 => ?_
  have k0 : Adds h h0 := by rw [q_h0]; exact (by repeat (first | exact keep_self _ | exact adds_self _ | assumption | exact Adds.keeps (by assumption) | refine keeps_alloc ?_ _ | refine adds_alloc ?_ _ _ _ | (refine keeps_put ?_ ?hle _; (case hle => first | omega | (simp; done) | (simp; omega))) | (refine adds_put ?_ ?hle _ _ _; (case hle => first | omega | (simp; done) | (simp; omega)))))
  have n0 : h0.next = h.next + 2 := by simp [q_h0]
  have g0 : h0.get h.next = .cells [a, b] true true 1 := by simp [q_h0]
  have z0 : h0.get (h.next + 1) = .cells [.slice none 0 0, .slice none 0 0] true true 1 := by simp [q_h0]
  repeat (first
    | (refine WD_block (fun K hK => ?_))
    | (refine WD_seq (fun K hK => ?_))
    | (refine WD_region (fun K hK => ?_))
    | ((first | refine RunD_o rfl rfl rfl rfl rfl (fun X hX => ?_) | refine RunD_s rfl rfl rfl rfl (fun X hX => ?_)); (try dsimp only); simp (disch := first | omega | (simp; done) | fail) [wrap64c, if_pos, if_neg, g0, z0]; refine hX _ _ ?_; clear hX X)
    | (refine RunD_nil ?_; refine hK _ _ ?_; clear hK K)
    | (refine RunD_nil ?_)
    | (refine WD_skip ?_)
    | (refine WD_exit ?_)
    | (refine WD_ret ?_)
    | (refine WD_true rfl ?hb ?_; (case hb => simp (disch := first | omega | (simp; done) | fail) [wrap64c, if_pos, if_neg, g0, z0] <;> omega))
    | (refine WD_false rfl ?hb ?_; (case hb => simp (disch := first | omega | (simp; done) | fail) [wrap64c, if_pos, if_neg, g0, z0] <;> omega))
    | (refine hK.1 _ _ ?_; clear hK K)
    | (refine hK.2.1 _ _ ?_; clear hK K)
    | (refine hK.2 _ _ _ ?hne ?_; (case hne => simp; done); clear hK K)
    | (refine hK.2.2 _ _ _ ?hne ?_; (case hne => simp; done); clear hK K))
  refine RunD_c rfl rfl rfl rfl (by simp) (by simp) ?ha (waGood_ok h0 _ L A (hv0.keep k0.1)) ?_
  (case ha => simp (disch := first | omega | (simp; done) | fail) [wrap64c, if_pos, if_neg, g0, z0])
  by_cases c1 : goodB L A = true
  · have ho := (good_of c1).ok
    obtain ⟨r1, r2⟩ := row_le ho.sh
    repeat (first
      | (refine WD_block (fun K hK => ?_))
      | (refine WD_seq (fun K hK => ?_))
      | (refine WD_region (fun K hK => ?_))
      | ((first | refine RunD_o rfl rfl rfl rfl rfl (fun X hX => ?_) | refine RunD_s rfl rfl rfl rfl (fun X hX => ?_)); (try dsimp only); simp (disch := first | omega | (simp; done) | fail) [wrap64c, if_pos, if_neg, g0, z0, c1]; refine hX _ _ ?_; clear hX X)
      | (refine RunD_nil ?_; refine hK _ _ ?_; clear hK K)
      | (refine RunD_nil ?_)
      | (refine WD_skip ?_)
      | (refine WD_exit ?_)
      | (refine WD_ret ?_)
      | (refine WD_true rfl ?hb ?_; (case hb => simp (disch := first | omega | (simp; done) | fail) [wrap64c, if_pos, if_neg, g0, z0, c1] <;> omega))
      | (refine WD_false rfl ?hb ?_; (case hb => simp (disch := first | omega | (simp; done) | fail) [wrap64c, if_pos, if_neg, g0, z0, c1] <;> omega))
      | (refine hK.1 _ _ ?_; clear hK K)
      | (refine hK.2.1 _ _ ?_; clear hK K)
      | (refine hK.2 _ _ _ ?hne ?_; (case hne => simp; done); clear hK K)
      | (refine hK.2.2 _ _ _ ?hne ?_; (case hne => simp; done); clear hK K))
    obtain ⟨v1, h1, hc1, ha1, u1, u2, rfl, hu1, hu2⟩ := waFull_ok h0 _ (.slice none 0 0) L A [] (hv0.keep k0.1) (Ints.nil _) ho (by simp)
    have eB : fullR L A [] = fullA L [] 61 [] A := if_pos c1
    rw [← eB] at hu1 hu2 hc1
    refine RunD_c rfl rfl rfl rfl (by simp) (by simp) ?ha (hc1) ?_
    (case ha => simp (disch := first | omega | (simp; done) | fail) [wrap64c, if_pos, if_neg, g0, z0, c1])
    have n1 := ha1.1.1
    have K1 := k0.trans ha1
    have g1 : h1.get h.next = .cells [a, b] true true 1 := by rw [ha1.1.2 _ (by omega)]; exact g0
    have z1 : h1.get (h.next + 1) = .cells [.slice none 0 0, .slice none 0 0] true true 1 := by rw [ha1.1.2 _ (by omega)]; exact z0
    cases hr : fullR L A [] with
    | none =>
      have hr' := hr
      repeat (first
        | (refine WD_block (fun K hK => ?_))
        | (refine WD_seq (fun K hK => ?_))
        | (refine WD_region (fun K hK => ?_))
        | ((first | refine RunD_o rfl rfl rfl rfl rfl (fun X hX => ?_) | refine RunD_s rfl rfl rfl rfl (fun X hX => ?_)); (try dsimp only); simp (disch := first | omega | (simp; done) | fail) [wrap64c, if_pos, if_neg, g0, z0, c1, g1, z1, hr', putCells]; refine hX _ _ ?_; clear hX X)
        | (refine RunD_nil ?_; refine hK _ _ ?_; clear hK K)
        | (refine RunD_nil ?_)
        | (refine WD_skip ?_)
        | (refine WD_exit ?_)
        | (refine WD_ret ?_)
        | (refine WD_true rfl ?hb ?_; (case hb => simp (disch := first | omega | (simp; done) | fail) [wrap64c, if_pos, if_neg, g0, z0, c1, g1, z1, hr', putCells] <;> omega))
        | (refine WD_false rfl ?hb ?_; (case hb => simp (disch := first | omega | (simp; done) | fail) [wrap64c, if_pos, if_neg, g0, z0, c1, g1, z1, hr', putCells] <;> omega))
        | (refine hK.1 _ _ ?_; clear hK K)
        | (refine hK.2.1 _ _ ?_; clear hK K)
        | (refine hK.2 _ _ _ ?hne ?_; (case hne => simp; done); clear hK K)
        | (refine hK.2.2 _ _ _ ?hne ?_; (case hne => simp; done); clear hK K))
      refine done_ret (by simp [putCells, z1]; rfl) ⟨(by repeat (first | exact keep_self _ | exact adds_self _ | assumption | exact Adds.keeps (by assumption) | refine keeps_alloc ?_ _ | refine adds_alloc ?_ _ _ _ | (refine keeps_put ?_ ?hle _; (case hle => first | omega | (simp; done) | (simp; omega))) | (refine adds_put ?_ ?hle _ _ _; (case hle => first | omega | (simp; done) | (simp; omega))))), _, by rw [finalR, hr]; rfl, ?_⟩
      rw [finalR, hr]
      exact .nil _ _
    | some B =>
      have hr' := hr
      rw [hr] at hu2
      repeat (first
        | (refine WD_block (fun K hK => ?_))
        | (refine WD_seq (fun K hK => ?_))
        | (refine WD_region (fun K hK => ?_))
        | ((first | refine RunD_o rfl rfl rfl rfl rfl (fun X hX => ?_) | refine RunD_s rfl rfl rfl rfl (fun X hX => ?_)); (try dsimp only); simp (disch := first | omega | (simp; done) | fail) [wrap64c, if_pos, if_neg, g0, z0, c1, g1, z1, hr']; refine hX _ _ ?_; clear hX X)
        | (refine RunD_nil ?_; refine hK _ _ ?_; clear hK K)
        | (refine RunD_nil ?_)
        | (refine WD_skip ?_)
        | (refine WD_exit ?_)
        | (refine WD_ret ?_)
        | (refine WD_true rfl ?hb ?_; (case hb => simp (disch := first | omega | (simp; done) | fail) [wrap64c, if_pos, if_neg, g0, z0, c1, g1, z1, hr'] <;> omega))
        | (refine WD_false rfl ?hb ?_; (case hb => simp (disch := first | omega | (simp; done) | fail) [wrap64c, if_pos, if_neg, g0, z0, c1, g1, z1, hr'] <;> omega))
        | (refine hK.1 _ _ ?_; clear hK K)
        | (refine hK.2.1 _ _ ?_; clear hK K)
        | (refine hK.2 _ _ _ ?hne ?_; (case hne => simp; done); clear hK K)
        | (refine hK.2.2 _ _ _ ?hne ?_; (case hne => simp; done); clear hK K))
      obtain ⟨v2, h2, hc2, ha2, u3, rfl, hu3⟩ := waWith_ok h1 _ u2 L A B.2 (hv0.keep K1.1) hu2.ints r1 r2
      refine RunD_c rfl rfl rfl rfl (by simp) (by simp) ?ha (hc2) ?_
      (case ha => simp (disch := first | omega | (simp; done) | fail) [wrap64c, if_pos, if_neg, g0, z0, c1, g1, z1, hr'])
      have z2 : h2.get (h.next + 1) = .cells [.slice none 0 0, .slice none 0 0] true true 1 := by rw [ha2.1.2 _ (by omega)]; exact z1
      have n2 := ha2.1.1
      have K2 := K1.trans ha2
      have nt1 := hu2.nt
      have cs1 := hu2.cs
      have nt2 := hu3.nt
      have cs2 := hu3.cs
      repeat (first
        | (refine WD_block (fun K hK => ?_))
        | (refine WD_seq (fun K hK => ?_))
        | (refine WD_region (fun K hK => ?_))
        | ((first | refine RunD_o rfl rfl rfl rfl rfl (fun X hX => ?_) | refine RunD_s rfl rfl rfl rfl (fun X hX => ?_)); (try dsimp only); simp (disch := first | omega | (simp; done) | fail) [wrap64c, if_pos, if_neg, g0, z0, c1, g1, z1, hr', z2, nt1, cs1, nt2, cs2, putCells]; refine hX _ _ ?_; clear hX X)
        | (refine RunD_nil ?_; refine hK _ _ ?_; clear hK K)
        | (refine RunD_nil ?_)
        | (refine WD_skip ?_)
        | (refine WD_exit ?_)
        | (refine WD_ret ?_)
        | (refine WD_true rfl ?hb ?_; (case hb => simp (disch := first | omega | (simp; done) | fail) [wrap64c, if_pos, if_neg, g0, z0, c1, g1, z1, hr', z2, nt1, cs1, nt2, cs2, putCells] <;> omega))
        | (refine WD_false rfl ?hb ?_; (case hb => simp (disch := first | omega | (simp; done) | fail) [wrap64c, if_pos, if_neg, g0, z0, c1, g1, z1, hr', z2, nt1, cs1, nt2, cs2, putCells] <;> omega))
        | (refine hK.1 _ _ ?_; clear hK K)
        | (refine hK.2.1 _ _ ?_; clear hK K)
        | (refine hK.2 _ _ _ ?hne ?_; (case hne => simp; done); clear hK K)
        | (refine hK.2.2 _ _ _ ?hne ?_; (case hne => simp; done); clear hK K))
      refine done_ret (by simp [putCells, z2]; rfl) ⟨(by repeat (first | exact keep_self _ | exact adds_self _ | assumption | exact Adds.keeps (by assumption) | refine keeps_alloc ?_ _ | refine adds_alloc ?_ _ _ _ | (refine keeps_put ?_ ?hle _; (case hle => first | omega | (simp; done) | (simp; omega))) | (refine adds_put ?_ ?hle _ _ _; (case hle => first | omega | (simp; done) | (simp; omega))))), _, by rw [finalR, hr]; rfl, ?_⟩
      rw [finalR, hr]
      refine ⟨u3, u2, Btw h1.next h2.next, Btw h0.next h1.next, by simp, hu3.same (Same.put (Same.refl _ _) (by unfold Btw; omega) _), (hu2.keep ha2.1).same (Same.put (Same.refl _ _) (by unfold Btw; omega) _), ?_, ?_, ?_⟩ <;> intro x <;> simp [Btw] <;> omega
  · have c1' : goodB L A = false := by simpa using c1
    have eB : fullR L A [] = none := if_neg c1
    repeat (first
      | (refine WD_block (fun K hK => ?_))
      | (refine WD_seq (fun K hK => ?_))
      | (refine WD_region (fun K hK => ?_))
      | ((first | refine RunD_o rfl rfl rfl rfl rfl (fun X hX => ?_) | refine RunD_s rfl rfl rfl rfl (fun X hX => ?_)); (try dsimp only); simp (disch := first | omega | (simp; done) | fail) [wrap64c, if_pos, if_neg, g0, z0, c1, c1', putCells]; refine hX _ _ ?_; clear hX X)
      | (refine RunD_nil ?_; refine hK _ _ ?_; clear hK K)
      | (refine RunD_nil ?_)
      | (refine WD_skip ?_)
      | (refine WD_exit ?_)
      | (refine WD_ret ?_)
      | (refine WD_true rfl ?hb ?_; (case hb => simp (disch := first | omega | (simp; done) | fail) [wrap64c, if_pos, if_neg, g0, z0, c1, c1', putCells] <;> omega))
      | (refine WD_false rfl ?hb ?_; (case hb => simp (disch := first | omega | (simp; done) | fail) [wrap64c, if_pos, if_neg, g0, z0, c1, c1', putCells] <;> omega))
      | (refine hK.1 _ _ ?_; clear hK K)
      | (refine hK.2.1 _ _ ?_; clear hK K)
      | (refine hK.2 _ _ _ ?hne ?_; (case hne => simp; done); clear hK K)
      | (refine hK.2.2 _ _ _ ?hne ?_; (case hne => simp; done); clear hK K))
    refine done_ret (by simp [putCells, z0]; rfl) ⟨(by repeat (first | exact keep_self _ | exact adds_self _ | assumption | exact Adds.keeps (by assumption) | refine keeps_alloc ?_ _ | refine adds_alloc ?_ _ _ _ | (refine keeps_put ?_ ?hle _; (case hle => first | omega | (simp; done) | (simp; omega))) | (refine adds_put ?_ ?hle _ _ _; (case hle => first | omega | (simp; done) | (simp; omega))))), _, by rw [finalR, eB]; rfl, ?_⟩
    rw [finalR, eB]
    exact .nil _ _
end Go.Proofs.Ytdadnaliiegceaa
