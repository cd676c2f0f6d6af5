/- All orders of n items, each handed to a function; the reference's list of them. -/
import Derived.Test.YtnjabaeajjhliaaT8
import Derived.Test.YtnjabaeajjhliaaEngZe
namespace Go.Proofs.Ytnjabaeajjhliaa
set_option linter.unusedSimpArgs false
set_option linter.unusedVariables false
set_option maxHeartbeats 4000000
open Go Go.Eng
attribute [local irreducible] WD RunD PreD Runs CallOK

theorem fam_range (m a : Nat) : fam (List.range m) a = decide (a < m) := by simp [fam]
theorem free_good {n : Nat} (h1 : 1 ≤ n) (h7 : n ≤ 7) : SpGood n (List.range (bit n)) where
  n1 := h1
  n7 := h7
  srt := List.pairwise_lt_range
  lt x hx := by simpa using hx
  zero := by simp; exact bit_pos n
  full := by have := bit_pos n; simp; omega
  inn x hx h0 := by
    have hx' : x < bit n := by simpa using hx
    have hb7 := bit7 h7
    obtain ⟨i, hi⟩ : ∃ i, x.testBit i = true := by
      apply Classical.byContradiction
      intro hn
      exact h0 (eq_bits fun i => by
        rw [Nat.zero_testBit]
        cases h : x.testBit i
        · rfl
        · exact absurd ⟨i, h⟩ hn)
    have hi7 : i < 7 := by
      apply Classical.byContradiction
      intro hge
      rw [hi_bit (show x < bit 7 by have : bit 7 = 128 := rfl; omega) (by omega)] at hi
      cases hi
    intro he
    have h2 := innerN_bit (fam (List.range (bit n))) x i
    rw [he, Nat.zero_testBit, hi, fam_range] at h2
    have h3 := nXor_lt (n := n) hx' (bit_lt_bit (show i < n from by
      apply Classical.byContradiction
      intro hge
      rw [hi_bit hx' (by omega)] at hi
      cases hi))
    simp [h3, hi7] at h2
  uni x hx y hy := by
    simp at hx hy ⊢
    exact nOr_lt hx hy

section
variable {σ : Type} (P : σ → (Nat → Prop) → Hp → Prop) (step : σ → List Nat → σ) (Good : List Nat → Prop) (base : Nat) (S : Nat → Prop) (fid : Nat) (dc : Array Value)
/-- What the function that gets the orders does. -/
structure DoerN : Prop where
  stab : ∀ s T h h', P s T h → base ≤ h.next → h.next ≤ h'.next → (∀ o, o < h.next → (o < base ∨ T o) → h'.get o = h.get o) → P s T h'
  run : ∀ s T h w v, P s T h → base ≤ h.next → Ints h v (toN w) → Good w → ∃ u h', CallOK Try.prog fid (#[v] ++ dc) h u h' ∧ Wr (fun o => S o ∨ T o) h h' ∧ ∃ T', P (step s w) T' h' ∧ ∀ o, T' o → (T o ∨ h.next ≤ o) ∧ o < h'.next
  low : ∀ o, S o → o < base
  fn : fnOK Try.prog fid = true
end

theorem orders_ok {σ : Type} (P : σ → (Nat → Prop) → Hp → Prop) (step : σ → List Nat → σ) (Good : List Nat → Prop) (base : Nat) (S : Nat → Prop) (fid : Nat) (dc : Array Value) (D : DoerN P step Good base S fid dc) (n : Nat) (h1 : 1 ≤ n) (h7 : n ≤ 7) (h : Hp) (s : σ)
    (hP : P s (fun _ => False) h) (hbase : base ≤ h.next) (hgood : ∀ w ∈ permsF n n [], Good w) :
    ∃ u h', CallOK Try.prog 81 #[.int .i64 (n : Int), .func (.func fid) #[] dc] h u h' ∧ Wr S h h' ∧ ∃ T, P ((permsF n n []).foldl step s) T h' ∧ ∀ o, T o → h.next ≤ o ∧ o < h'.next := by
  refine callY_L (args := [.int .i64 (n : Int), .func (.func fid) #[] dc]) 14 _ [] Try.func81 rfl rfl rfl ?_
  try simp (disch := first | omega | (simp; done) | fail) [wrap64c, if_pos, if_neg, opAnd, opOr, opXor, opDiff, opShr, opBit]
  first | refine WY_heap fun h0 q_h0 => ?_ | refine callG_heap fun h0 q_h0 => ?_ | refine callP_heap fun h0 q_h0 => ?_ | refine RY_heap fun h0 q_h0 => ?_ | refine PY_heap fun h0 q_h0 => ?_ | refine doneY_heap fun h0 q_h0 => ?_ | refine loopK_heap fun h0 q_h0 => ?_ | refine thenY_heap fun h0 q_h0 => ?_ | refine thenM_heap fun h0 q_h0 => ?_
  have k0 : Adds h h0 := by rw [q_h0]; exact (by first | exact aK | exact kK)
  have n0 : h0.next = h.next + 1 := by simp [q_h0]
  have g1 : h0.get h.next = .cells [.func (.func fid) #[] dc] true true 1 := by simp [q_h0]
  obtain ⟨_, h2, hc1, ha1, b, rfl, hb⟩ := freeSpace_ok h0 n h1 h7
  refine callG_c (by simp) (by simp) ?ha (hc1) ?_
  (case ha => simp (disch := first | omega | (simp; done) | fail) [wrap64c, if_pos, if_neg, opAnd, opOr, opXor, opDiff, opShr, opBit])
  have nt := hb.nt
  have cs := hb.cs
  try simp (disch := first | omega | (simp; done) | fail) [wrap64c, if_pos, if_neg, opAnd, opOr, opXor, opDiff, opShr, opBit, nt, cs, putCells]
  first | refine WY_heap fun h3 q_h3 => ?_ | refine callG_heap fun h3 q_h3 => ?_ | refine callP_heap fun h3 q_h3 => ?_ | refine RY_heap fun h3 q_h3 => ?_ | refine PY_heap fun h3 q_h3 => ?_ | refine doneY_heap fun h3 q_h3 => ?_ | refine loopK_heap fun h3 q_h3 => ?_ | refine thenY_heap fun h3 q_h3 => ?_ | refine thenM_heap fun h3 q_h3 => ?_
  have k3 : Adds h2 h3 := by rw [q_h3]; exact (by first | exact aK | exact kK)
  have n3 : h3.next = h2.next + 1 := by simp [q_h3]
  have A3 := (k0.trans ha1).trans k3
  have nh := A3.1.1
  have P3 := D.stab s _ h h3 hP hbase A3.1.1 fun o ho _ => A3.1.2 o ho
  have g3 : h3.get h.next = .cells [.func (.func fid) #[] dc] true true 1 := by rw [k3.1.2 _ (by have := ha1.1.1; omega), ha1.1.2 _ (by omega)]; exact g1
  have D2 : Doer (fun s T h' => (P s T h' ∧ ∀ o, T o → h3.next ≤ o) ∧ h'.get h.next = .cells [.func (.func fid) #[] dc] true true 1) step Good h3.next S 132 #[.pointer (some ⟨h.next, 0, none⟩)] := {
    stab := fun s T h' h'' hp hb1 hb2 hs => ⟨⟨D.stab s T h' h'' hp.1.1 (by omega) hb2 (fun o hl ho => hs o hl (ho.elim (fun h => .inl (by omega)) .inr)), hp.1.2⟩, by rw [hs _ (by have := ha1.1.1; omega) (.inl (by have := ha1.1.1; omega))]; exact hp.2⟩
    run := fun s T h' w v hp hb1 hv hg => by
      obtain ⟨u, h4, hc4, W4, T4, P4, hT4⟩ := D.run s T h' w v hp.1.1 (by omega) hv hg
      have gd := hp.2
      have hfn := D.fn
      have key : ∃ v' h'', CallOK Try.prog 132 #[v, .pointer (some ⟨h.next, 0, none⟩)] h' v' h'' ∧ v' = .bool true ∧ h'' = h4 := by
        refine callY_L (args := [v, .pointer (some ⟨h.next, 0, none⟩)]) 7 _ [.tmp 3] Try.func132 rfl rfl rfl ?_
        try simp (disch := first | omega | (simp; done) | fail) [wrap64c, if_pos, if_neg, opAnd, opOr, opXor, opDiff, opShr, opBit, nt, cs, gd, hfn]
        refine callG_f (fst := #[]) (cap := dc) (by simp) (by simp) ?hf ?hk ?ha (hc4) ?_
        (case hf => simp (disch := first | omega | (simp; done) | fail) [wrap64c, if_pos, if_neg, opAnd, opOr, opXor, opDiff, opShr, opBit, nt, cs, gd, hfn]; try rfl)
        (case hk => simp (disch := first | omega | (simp; done) | fail) [wrap64c, if_pos, if_neg, opAnd, opOr, opXor, opDiff, opShr, opBit, nt, cs, gd, hfn])
        (case ha => simp (disch := first | omega | (simp; done) | fail) [wrap64c, if_pos, if_neg, opAnd, opOr, opXor, opDiff, opShr, opBit, nt, cs, gd, hfn])
        try simp (disch := first | omega | (simp; done) | fail) [wrap64c, if_pos, if_neg, opAnd, opOr, opXor, opDiff, opShr, opBit, nt, cs, gd, hfn]
        exact done_ret rfl ⟨rfl, rfl⟩
      obtain ⟨_, _, hc5, rfl, rfl⟩ := key
      refine ⟨_, hc5, W4, T4, ⟨⟨P4, fun o ho => ?_⟩, ?_⟩, hT4⟩
      · rcases (hT4 o ho).1 with h1 | h1
        · exact hp.1.2 o h1
        · omega
      · rw [W4.upd.2 _ (by have := ha1.1.1; omega) (fun e => ?_)]
        · exact hp.2
        · rcases e with e | e
          · have := D.low _ e; omega
          · have := hp.1.2 _ e; have := ha1.1.1; omega
    low := fun o ho => by have := D.low o ho; omega
    fn := by simp }
  have hM : wordsF (fam (List.range (bit n))) n n [] 0 = permsF n n [] := words_perms h7 (fun a ha => by rw [fam_range]; simp [ha]) n [] 0 (fun i => by simp) (fun i hi => by cases hi)
  obtain ⟨u, h5, hc5, W5, T5, P5, hT5⟩ := words_ok _ step Good h3.next S 132 #[.pointer (some ⟨h.next, 0, none⟩)] D2 n (List.range (bit n)) (free_good h1 h7) h3 b s ((hb.read.keep k3.1).sub fun o ho => by
    unfold Btw at ho
    refine ⟨by omega, fun e => ?_⟩
    have := D.low o e; omega) ⟨⟨P3, fun _ hf => hf.elim⟩, g3⟩ (Nat.le_refl _) (by rw [hM]; exact hgood)
  refine callG_c (by simp) (by simp) ?ha (hc5) ?_
  (case ha => simp (disch := first | omega | (simp; done) | fail) [wrap64c, if_pos, if_neg, opAnd, opOr, opXor, opDiff, opShr, opBit, nt, cs])
  try simp (disch := first | omega | (simp; done) | fail) [wrap64c, if_pos, if_neg, opAnd, opOr, opXor, opDiff, opShr, opBit, nt, cs]
  rw [hM] at P5
  exact done_end rfl ⟨wr_trans2 (.of_adds A3) W5 fun o _ e => e, T5, P5.1.1, fun o ho => ⟨by have := (hT5 o ho).1; omega, (hT5 o ho).2⟩⟩

theorem l1Has_ok (h : Hp) (v : Value) (xs : List Nat) (x : Nat) (hv : Ints h v (toN xs)) : CallOK Try.prog 130 #[v, .int .i64 (x : Int)] h (.bool (decide (x ∈ xs))) h := by
  refine callY_P 17 _ [.tmp 4] Try.func130 rfl rfl rfl (by first | rfl | simp) ?_
  have hL := hv.lenD
  have hsh := hv.short
  have hgt := toN_get xs
  have hln := toN_length xs
  try simp (disch := first | omega | (simp; done) | fail) [wrap64c, if_pos, if_neg, opAnd, opOr, opXor, opDiff, opShr, opBit, hL, hgt]
  refine WD_loopC [1, 7, 8] (fun m tm h' => ∃ j, m = xs.length - j ∧ h = h' ∧ tm 9 = .int .i64 (j : Int) ∧ (j ≤ xs.length) ∧ (¬ x ∈ xs.take j)) _ ⟨0, rfl, rfl, (by simp (disch := first | omega | (simp; done) | fail) [wrap64c, if_pos, if_neg, opAnd, opOr, opXor, opDiff, opShr, opBit, hL, hgt]), (by first | omega | assumption | (simp (disch := first | omega | (simp; done) | fail) [wrap64c, if_pos, if_neg, opAnd, opOr, opXor, opDiff, opShr, opBit, hL, hgt] <;> omega)), (by simp)⟩ ?_
  rintro m tm h' hFr ⟨j, rfl, rfl, e9, hj, hx⟩
  simp only [FrameL] at hFr
  obtain ⟨f1_0, f7_0, f8_0, -⟩ := hFr
  try simp (disch := first | omega | (simp; done) | fail) [wrap64c, if_pos, if_neg, opAnd, opOr, opXor, opDiff, opShr, opBit, hL, hgt] at f1_0 f7_0 f8_0
  have e1 := f1_0
  have e7 := f7_0
  have e8 := f8_0
  by_cases hlt : j < xs.length
  · obtain ⟨o_q, i_q, c_q, cs_q, own_q, ex_q, es_q, q_q, b_q, g_q, l_q, r_q⟩ := hv.open ((by omega))
    have z_q : ∀ h2 : i_q < cs_q.length, cs_q[i_q] = _ := fun h2 => r_q 0 ((by omega)) h2
    by_cases he : xs[j] = x
    · have hm : x ∈ xs := he ▸ List.getElem_mem hlt
      try simp (disch := first | omega | (simp; done) | fail) [wrap64c, if_pos, if_neg, opAnd, opOr, opXor, opDiff, opShr, opBit, hL, hgt, e1, e7, e8, e9, hlt, q_q, g_q, l_q, r_q, z_q, he]
      exact done_ret rfl (by simp [hm])
    · have hb : ((xs[j] : Int) == (x : Int)) = false := by simp; omega
      try simp (disch := first | omega | (simp; done) | fail) [wrap64c, if_pos, if_neg, opAnd, opOr, opXor, opDiff, opShr, opBit, hL, hgt, e1, e7, e8, e9, hlt, q_q, g_q, l_q, r_q, z_q, he, hb]
      refine loopK_next _ ?hm ?hf ⟨j + 1, rfl, rfl, (by simp (disch := first | omega | (simp; done) | fail) [wrap64c, if_pos, if_neg, opAnd, opOr, opXor, opDiff, opShr, opBit, hL, hgt, e1, e7, e8, e9, hlt, q_q, g_q, l_q, r_q, z_q, he, hb] <;> omega), (by first | omega | assumption | (simp (disch := first | omega | (simp; done) | fail) [wrap64c, if_pos, if_neg, opAnd, opOr, opXor, opDiff, opShr, opBit, hL, hgt, e1, e7, e8, e9, hlt, q_q, g_q, l_q, r_q, z_q, he, hb] <;> omega)), (by rw [List.take_succ_eq_append_getElem hlt, List.mem_append, List.mem_singleton]; exact not_or.2 ⟨hx, Ne.symm he⟩)⟩
      (case hm => first | omega | (simp; omega))
      (case hf => simp [FrameL, hL, hgt, e1, e7, e8, e9, hlt, q_q, g_q, l_q, r_q, z_q, he, hb, f1_0, f7_0, f8_0])
  · rw [List.take_of_length_le (by omega)] at hx
    try simp (disch := first | omega | (simp; done) | fail) [wrap64c, if_pos, if_neg, opAnd, opOr, opXor, opDiff, opShr, opBit, hL, hgt, e1, e7, e8, e9, hlt]
    exact done_ret rfl (by simp [hx])

theorem permsF_len (n : Nat) : ∀ (k : Nat) (l : List Nat), (permsF n k l).length ≤ n ^ k
  | 0, l => by simp [permsF]
  | k + 1, l => by
    have key : ∀ (c : List Nat), (c.flatMap fun x => if x ∈ l then [] else permsF n k (l ++ [x])).length ≤ c.length * n ^ k := by
      intro c
      induction c with
      | nil => simp
      | cons a c ih =>
        rw [List.flatMap_cons, List.length_append, List.length_cons, Nat.add_mul, Nat.one_mul]
        have : (if a ∈ l then [] else permsF n k (l ++ [a])).length ≤ n ^ k := by
          split
          · simp
          · exact permsF_len n k _
        omega
    have := key (List.range n)
    rw [permsF, Nat.pow_succ, Nat.mul_comm]
    simpa using this
theorem permsF_mem (n : Nat) : ∀ (k : Nat) (l : List Nat), (∀ x ∈ l, x < n) → ∀ w ∈ permsF n k l, w.length = l.length + k ∧ ∀ x ∈ w, x < n
  | 0, l, h, w, hw => by
    simp [permsF] at hw
    subst hw; exact ⟨rfl, h⟩
  | k + 1, l, h, w, hw => by
    rw [permsF, List.mem_flatMap] at hw
    obtain ⟨x, hx, hw⟩ := hw
    split at hw
    · cases hw
    · have := permsF_mem n k (l ++ [x]) (fun y hy => by
        rcases List.mem_append.1 hy with h1 | h1
        · exact h y h1
        · simp at h1 hx; omega) w hw
      exact ⟨by have := this.1; simp at this; omega, this.2⟩
end Go.Proofs.Ytnjabaeajjhliaa
