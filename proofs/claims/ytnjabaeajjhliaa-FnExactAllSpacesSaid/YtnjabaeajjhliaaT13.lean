/- The least names: by the program and by the reference. -/
import Derived.Test.YtnjabaeajjhliaaT12
namespace Go.Proofs.Ytnjabaeajjhliaa
set_option linter.unusedSimpArgs false
set_option linter.unusedVariables false
set_option maxHeartbeats 4000000
open Go Go.Eng
attribute [local irreducible] WD RunD PreD Runs CallOK

def leastStep (n : Nat) (xs best w : List Nat) : List Nat := if cmpL (toN (namedN n w xs)) (toN best) < 0 then namedN n w xs else best
def leastN (n : Nat) (xs : List Nat) : List Nat := (permsF n n []).foldl (leastStep n xs) xs
theorem named_len (n : Nat) (w xs : List Nat) : (namedN n w xs).length ≤ bit n := by
  have : (namedN n w xs).length ≤ (List.range (bit n)).length := List.length_filter_le _ _
  simpa using this
theorem renK_id {n s : Nat} : ∀ k, k ≤ n → renK (List.range n) s k = s % 2 ^ k
  | 0, _ => by simp [renK, Nat.mod_one]
  | k + 1, hk => by
    rw [renK, renK_id k (by omega)]
    have hg : (List.range n).getD k 0 = k := by simp [List.getD_eq_getElem?_getD, show k < n by omega]
    rw [hg]
    apply eq_bits
    intro i
    rw [Nat.testBit_mod_two_pow]
    by_cases hs : s.testBit k = true
    · rw [if_pos hs, nOr_bit, bit_bit, Nat.testBit_mod_two_pow]
      by_cases e : k = i
      · subst e; simp [hs]
      · by_cases h1 : i < k
        · simp [h1, show i < k + 1 by omega, e]
        · simp [h1, show ¬ i < k + 1 by omega, e]
    · rw [if_neg hs, Nat.testBit_mod_two_pow]
      by_cases e : k = i
      · subst e; simp [hs]
      · by_cases h1 : i < k
        · simp [h1, show i < k + 1 by omega]
        · simp [h1, show ¬ i < k + 1 by omega]
theorem renN_id {n s : Nat} (hs : s < bit n) : renN (List.range n) s = s := by
  unfold renN
  rw [List.length_range, renK_id n (Nat.le_refl _)]
  exact Nat.mod_eq_of_lt hs
theorem named_id {n : Nat} {xs : List Nat} (g : SpGood n xs) : namedN n (List.range n) xs = xs := by
  refine srt_ext (namedN_srt _ _ _) g.srt fun a => ?_
  rw [namedN_mem (fun k hk => by simp [List.getD_eq_getElem?_getD] at hk ⊢; simp [hk]), List.mem_map]
  constructor
  · rintro ⟨x, hx, rfl⟩
    rw [renN_id (g.lt x hx)]; exact hx
  · intro ha
    exact ⟨a, ha, renN_id (g.lt a ha)⟩
theorem leastStep_len {n : Nat} {xs best w : List Nat} (h : best.length ≤ bit n) : (leastStep n xs best w).length ≤ bit n := by
  unfold leastStep
  split
  · exact named_len _ _ _
  · exact h
theorem leastFold_len {n : Nat} {xs : List Nat} : ∀ (l : List (List Nat)) (best : List Nat), best.length ≤ bit n → (l.foldl (leastStep n xs) best).length ≤ bit n
  | [], _, h => h
  | w :: l, best, h => leastFold_len l _ (leastStep_len h)
theorem leastN_len {n : Nat} {xs : List Nat} (g : SpGood n xs) : (leastN n xs).length ≤ bit n := leastFold_len _ _ g.len

theorem leastNamed_ok (h : Hp) (v : Value) (n : Nat) (xs : List Nat) (hv : Space h v n (toN xs)) (g : SpGood n xs) :
    ∃ v' h', CallOK Try.prog 76 #[v] h v' h' ∧ Adds h h' ∧ SpaceO (Btw h.next h'.next) h' v' n (toN (leastN n xs)) := by
  refine callY_L (args := [v]) 14 _ [.cell 2 32] Try.func76 rfl rfl rfl ?_
  obtain ⟨b, rfl, hX⟩ := hv
  have n7 := g.n7
  have hb7 := bit7 n7
  have hl7 := g.len7
  try simp (disch := first | omega | (simp; done) | fail) [wrap64c, if_pos, if_neg, opAnd, opOr, opXor, opDiff, opShr, opBit]
  first | refine WY_heap fun h0 q_h0 => ?_ | refine callG_heap fun h0 q_h0 => ?_ | refine callP_heap fun h0 q_h0 => ?_ | refine RY_heap fun h0 q_h0 => ?_ | refine PY_heap fun h0 q_h0 => ?_ | refine doneY_heap fun h0 q_h0 => ?_ | refine loopK_heap fun h0 q_h0 => ?_ | refine thenY_heap fun h0 q_h0 => ?_ | refine thenM_heap fun h0 q_h0 => ?_
  have k0 : Adds h h0 := by rw [q_h0]; exact (by first | exact aK | exact kK)
  have n0 : h0.next = h.next + 2 := by simp [q_h0]
  have gs0 : h0.get h.next = .cells [.int .i64 (n : Int), b] true true 1 := by simp [q_h0]
  have gr0 : h0.get (h.next + 1) = .cells [.int .i64 0, .slice none 0 0] true true 1 := by simp [q_h0]
  refine WD_drawC 6 rfl (by kernel_rfl) ?_
  try simp (disch := first | omega | (simp; done) | fail) [wrap64c, if_pos, if_neg, opAnd, opOr, opXor, opDiff, opShr, opBit, gs0]
  obtain ⟨u, h1, hc1, ha1, hi1⟩ := firstNames_ok h0 n n7
  refine callP_c (by simp) (by simp) ?ha (hc1) ?hadd ?_
  (case ha => simp (disch := first | omega | (simp; done) | fail) [wrap64c, if_pos, if_neg, opAnd, opOr, opXor, opDiff, opShr, opBit, gs0])
  (case hadd => first | assumption | exact adds_self _ | (simp; done))
  try simp (disch := first | omega | (simp; done) | fail) [wrap64c, if_pos, if_neg, opAnd, opOr, opXor, opDiff, opShr, opBit, gs0]
  obtain ⟨_, h2, hc2, ha2, d, rfl, hd⟩ := rename_ok h1 (.agg #[.int .i64 (n : Int), b]) u n xs (List.range n) (.mk ((hX.keep k0.1).keep ha1.1)) hi1.ints n7 g.lt (by omega) (by simp) (fun k hk => by simp [List.getD_eq_getElem?_getD] at hk ⊢; simp [hk])
  rw [named_id g] at hd
  refine callP_c (by simp) (by simp) ?ha (hc2) ?hadd ?_
  (case ha => simp (disch := first | omega | (simp; done) | fail) [wrap64c, if_pos, if_neg, opAnd, opOr, opXor, opDiff, opShr, opBit, gs0])
  (case hadd => first | assumption | exact adds_self _ | (simp; done))
  have nt := hd.nt
  have cs := hd.cs
  have gs2 : h2.get h.next = .cells [.int .i64 (n : Int), b] true true 1 := by have := ha1.1.1; rw [ha2.1.2 _ (by omega), ha1.1.2 _ (by omega)]; exact gs0
  try simp (disch := first | omega | (simp; done) | fail) [wrap64c, if_pos, if_neg, opAnd, opOr, opXor, opDiff, opShr, opBit, gs0, nt, cs, gs2, putCells]
  first | refine WY_heap fun h3 q_h3 => ?_ | refine callG_heap fun h3 q_h3 => ?_ | refine callP_heap fun h3 q_h3 => ?_ | refine RY_heap fun h3 q_h3 => ?_ | refine PY_heap fun h3 q_h3 => ?_ | refine doneY_heap fun h3 q_h3 => ?_ | refine loopK_heap fun h3 q_h3 => ?_ | refine thenY_heap fun h3 q_h3 => ?_ | refine thenM_heap fun h3 q_h3 => ?_
  have k3 : Adds h2 h3 := by rw [q_h3]; exact (by first | exact aK | exact kK)
  have n3 : h3.next = h2.next + 1 := by simp [q_h3]
  have A3 := ((k0.trans ha1).trans ha2).trans k3
  have nn1 := ha1.1.1
  have nn2 := ha2.1.1
  have gs3 : h3.get h.next = .cells [.int .i64 (n : Int), b] true true 1 := by rw [k3.1.2 _ (by omega), ha2.1.2 _ (by omega), ha1.1.2 _ (by omega)]; exact gs0
  have gr3 : h3.get (h.next + 1) = .cells [.int .i64 0, .slice none 0 0] true true 1 := by rw [k3.1.2 _ (by omega), ha2.1.2 _ (by omega), ha1.1.2 _ (by omega)]; exact gr0
  have go3 : h3.get h2.next = .cells [.int .i64 (n : Int), d] true true 1 := by simp [q_h3]
  have hX3 := hX.old.keep A3.1
  have D : DoerN (fun (best : List Nat) (T : Nat → Prop) h' => (∀ o, T o → h3.next ≤ o ∧ o < h'.next) ∧ h'.get h.next = .cells [.int .i64 (n : Int), b] true true 1 ∧ IntsF (fun x => x < h.next) h' b (toN xs) ∧ best.length ≤ bit n ∧
      ∃ u, h'.get h2.next = .cells [.int .i64 (n : Int), u] true true 1 ∧ IntsO (fun x => Btw h1.next h2.next x ∨ T x) h' u (toN best)) (leastStep n xs) (OrdN n) h3.next (fun o => o = h2.next) 129 #[.pointer (some ⟨h.next, 0, none⟩), .pointer (some ⟨h2.next, 0, none⟩)] := {
    stab := fun s T h' h'' hp hb1 hb2 hs => by
      obtain ⟨p1, p2, p3, p4, u, p5, p6⟩ := hp
      refine ⟨fun o ho => ⟨(p1 o ho).1, by have := (p1 o ho).2; omega⟩, by rw [hs _ (by omega) (.inl (by omega))]; exact p2, p3.same ⟨hb2, fun q hq hl => hs q hl (.inl (by omega))⟩, p4, u, by rw [hs _ (by omega) (.inl (by omega))]; exact p5, p6.same ⟨hb2, fun q hq hl => hs q hl ?_⟩⟩
      rcases hq with hq | hq
      · exact .inl (by unfold Btw at hq; omega)
      · exact .inr hq
    run := fun s T h' w v hp hb1 hv hg => by
      obtain ⟨p1, p2, p3, p4, u, p5, p6⟩ := hp
      have p2 := p2
      have p5 := p5
      have key : ∃ v' h'', CallOK Try.prog 129 #[v, .pointer (some ⟨h.next, 0, none⟩), .pointer (some ⟨h2.next, 0, none⟩)] h' v' h'' ∧ ∃ h4 e, Adds h' h4 ∧ IntsO (Btw h'.next h4.next) h4 e (toN (namedN n w xs)) ∧
          h'' = if cmpL (toN (namedN n w xs)) (toN s) < 0 then h4.put h2.next (.cells [.int .i64 (n : Int), e] true true 1) else h4 := by
        refine callY_L (args := [v, .pointer (some ⟨h.next, 0, none⟩), .pointer (some ⟨h2.next, 0, none⟩)]) 13 _ [] Try.func129 rfl rfl rfl ?_
        obtain ⟨_, h4, hc4, ha4, e, rfl, he⟩ := rename_ok h' (.agg #[.int .i64 (n : Int), b]) v n xs w (.mk p3.ints) hv n7 g.lt (by omega) hg.1 hg.2
        try simp (disch := first | omega | (simp; done) | fail) [wrap64c, if_pos, if_neg, opAnd, opOr, opXor, opDiff, opShr, opBit, gs0, nt, cs, gs2, gs3, p2, p5]
        refine callG_c (by simp) (by simp) ?ha (hc4) ?_
        (case ha => simp (disch := first | omega | (simp; done) | fail) [wrap64c, if_pos, if_neg, opAnd, opOr, opXor, opDiff, opShr, opBit, gs0, nt, cs, gs2, gs3, p2, p5])
        have nt4 := he.nt
        have cs4 := he.cs
        have nn4 := ha4.1.1
        have gu4 : h4.get h2.next = .cells [.int .i64 (n : Int), u] true true 1 := by rw [ha4.1.2 _ (by omega)]; exact p5
        try simp (disch := first | omega | (simp; done) | fail) [wrap64c, if_pos, if_neg, opAnd, opOr, opXor, opDiff, opShr, opBit, gs0, nt, cs, gs2, gs3, p2, p5, nt4, cs4, gu4, putCells]
        first | refine WY_heap fun h5 q_h5 => ?_ | refine callG_heap fun h5 q_h5 => ?_ | refine callP_heap fun h5 q_h5 => ?_ | refine RY_heap fun h5 q_h5 => ?_ | refine PY_heap fun h5 q_h5 => ?_ | refine doneY_heap fun h5 q_h5 => ?_ | refine loopK_heap fun h5 q_h5 => ?_ | refine thenY_heap fun h5 q_h5 => ?_ | refine thenM_heap fun h5 q_h5 => ?_
        have k5 : Adds h4 h5 := by rw [q_h5]; exact (by first | exact aK | exact kK)
        have n5 : h5.next = h4.next + 1 := by simp [q_h5]
        have ge5 : h5.get h4.next = .cells [.int .i64 (n : Int), e] true true 1 := by simp [q_h5]
        have gu5 : h5.get h2.next = .cells [.int .i64 (n : Int), u] true true 1 := by rw [k5.1.2 _ (by omega)]; exact gu4
        have hu5 := (p6.keep ha4.1).keep k5.1
        have he5 := he.keep k5.1
        try simp (disch := first | omega | (simp; done) | fail) [wrap64c, if_pos, if_neg, opAnd, opOr, opXor, opDiff, opShr, opBit, gs0, nt, cs, gs2, gs3, p2, p5, nt4, cs4, gu4, ge5, gu5]
        refine callG_c (by simp) (by simp) ?ha (compare_ok h5 (.agg #[.int .i64 (n : Int), e]) (.agg #[.int .i64 (n : Int), u]) n n _ _ (.mk he5.ints) (.mk hu5.ints)) ?_
        (case ha => simp (disch := first | omega | (simp; done) | fail) [wrap64c, if_pos, if_neg, opAnd, opOr, opXor, opDiff, opShr, opBit, gs0, nt, cs, gs2, gs3, p2, p5, nt4, cs4, gu4, ge5, gu5])
        have hwr : ∀ a : Int, cmpL (toN (namedN n w xs)) (toN s) = a → True := fun _ _ => trivial
        by_cases hc : cmpL (toN (namedN n w xs)) (toN s) < 0
        · try simp (disch := first | omega | (simp; done) | fail) [wrap64c, if_pos, if_neg, opAnd, opOr, opXor, opDiff, opShr, opBit, gs0, nt, cs, gs2, gs3, p2, p5, nt4, cs4, gu4, ge5, gu5, hc, putCells]
          exact done_end rfl ⟨h5, e, ha4.trans k5, he5.sub fun o ho => ⟨ho.1, by have := ho.2; omega⟩, by simp [hc]⟩
        · try simp (disch := first | omega | (simp; done) | fail) [wrap64c, if_pos, if_neg, opAnd, opOr, opXor, opDiff, opShr, opBit, gs0, nt, cs, gs2, gs3, p2, p5, nt4, cs4, gu4, ge5, gu5, hc, putCells]
          exact done_end rfl ⟨h5, e, ha4.trans k5, he5.sub fun o ho => ⟨ho.1, by have := ho.2; omega⟩, by simp [hc]⟩
      obtain ⟨q, h'', hc3, h4, e, ha4, he4, heq⟩ := key
      have nn4 := ha4.1.1
      by_cases hc : cmpL (toN (namedN n w xs)) (toN s) < 0
      · rw [if_pos hc] at heq
        subst heq
        refine ⟨q, _, hc3, (Wr.of_adds ha4).put (.inl rfl) fun _ => rfl, Btw h'.next h4.next, ⟨fun o ho => ⟨by have := ho.1; omega, ho.2⟩, ?_, ?_, leastStep_len p4, e, by simp, ?_⟩, fun o ho => ⟨.inr ho.1, ho.2⟩⟩
        · simp [show h.next ≠ h2.next by omega]
          rw [ha4.1.2 _ (by omega)]; exact p2
        · exact (p3.keep ha4.1).same ⟨by simp, fun x hx hl => by simp [show x ≠ h2.next by omega]⟩
        · rw [leastStep, if_pos hc]
          exact (he4.same (Same.put (Same.refl _ _) (by unfold Btw; omega) _)).sub fun o ho => .inr ho
      · rw [if_neg hc] at heq
        subst heq
        refine ⟨q, _, hc3, .of_adds ha4, T, ⟨fun o ho => ⟨(p1 o ho).1, by have := (p1 o ho).2; omega⟩, ?_, p3.keep ha4.1, leastStep_len p4, u, ?_, ?_⟩, fun o ho => ⟨.inl ho, by have := (p1 o ho).2; omega⟩⟩
        · rw [ha4.1.2 _ (by omega)]; exact p2
        · rw [ha4.1.2 _ (by omega)]; exact p5
        · rw [leastStep, if_neg hc]
          exact p6.keep ha4.1
    low := fun o ho => by omega
    fn := by simp }
  try simp (disch := first | omega | (simp; done) | fail) [wrap64c, if_pos, if_neg, opAnd, opOr, opXor, opDiff, opShr, opBit, gs0, nt, cs, gs2, gs3]
  obtain ⟨q, h4, hc4, W4, T4, P4, hT4⟩ := orders_ok _ _ _ _ _ _ _ D n g.n1 n7 h3 xs ⟨fun _ hf => hf.elim, gs3, hX3, g.len, d, go3, (hd.keep k3.1).sub fun o ho => .inl ⟨by have := ho.1; omega, ho.2⟩⟩ (Nat.le_refl _) (ordN_perms n)
  refine callG_c (by simp) (by simp) ?ha (hc4) ?_
  (case ha => simp (disch := first | omega | (simp; done) | fail) [wrap64c, if_pos, if_neg, opAnd, opOr, opXor, opDiff, opShr, opBit, gs0, nt, cs, gs2, gs3])
  obtain ⟨p1, p2, p3, p4, u4, p5, p6⟩ := P4
  have p5 := p5
  have gr4 : h4.get (h.next + 1) = .cells [.int .i64 0, .slice none 0 0] true true 1 := by rw [W4.upd.2 _ (by omega) (by omega)]; exact gr3
  have nt4 := p6.nt
  have cs4 := p6.cs
  try simp (disch := first | omega | (simp; done) | fail) [wrap64c, if_pos, if_neg, opAnd, opOr, opXor, opDiff, opShr, opBit, gs0, nt, cs, gs2, gs3, p5, gr4, nt4, cs4, putCells]
  have nn4 := W4.upd.1
  have A4 : Adds h h4 := A3.wr W4 fun o ho => by omega
  refine done_ret (by simp [putCells]; rfl) ⟨(by first | exact aK | exact kK), u4, by simp, ?_⟩
  refine (p6.same (Same.put (Same.refl _ _) ?_ _)).sub fun o ho => ?_
  · rintro (h | h)
    · unfold Btw at h; omega
    · have := (hT4 _ h).1; omega
  · rcases ho with ho | ho
    · unfold Btw at ho; exact ⟨by omega, by simp; omega⟩
    · exact ⟨by have := (hT4 _ ho).1; omega, by simpa using (hT4 _ ho).2⟩

theorem alLeast_ok (h : Hp) (v : Value) (n : Nat) (xs : List Nat) (hv : Space h v n (toN xs)) (g : SpGood n xs) :
    ∃ v' h', CallOK Try.prog 75 #[v] h v' h' ∧ Adds h h' ∧ IntsO (Btw h.next h'.next) h' v' (toN (leastN n xs)) := by
  refine callY_L (args := [v]) 27 _ [.tmp 2] Try.func75 rfl rfl rfl ?_
  obtain ⟨b, rfl, hX⟩ := hv
  have n7 := g.n7
  have hb7 := bit7 n7
  have hl7 := g.len7
  try simp (disch := first | omega | (simp; done) | fail) [wrap64c, if_pos, if_neg, opAnd, opOr, opXor, opDiff, opShr, opBit]
  first | refine WY_heap fun h0 q_h0 => ?_ | refine callG_heap fun h0 q_h0 => ?_ | refine callP_heap fun h0 q_h0 => ?_ | refine RY_heap fun h0 q_h0 => ?_ | refine PY_heap fun h0 q_h0 => ?_ | refine doneY_heap fun h0 q_h0 => ?_ | refine loopK_heap fun h0 q_h0 => ?_ | refine thenY_heap fun h0 q_h0 => ?_ | refine thenM_heap fun h0 q_h0 => ?_
  have k0 : Adds h h0 := by rw [q_h0]; exact (by first | exact aK | exact kK)
  have n0 : h0.next = h.next + 1 := by simp [q_h0]
  have gs0 : h0.get h.next = .cells [.int .i64 (n : Int), b] true true 1 := by simp [q_h0]
  have hX0 := hX.keep k0.1
  obtain ⟨u, h1, hc1, ha1, hG1⟩ := alOrders_ok n n7 n h0 (.slice none 0 0) [] (nilInts h0) (by simp)
  try simp (disch := first | omega | (simp; done) | fail) [wrap64c, if_pos, if_neg, opAnd, opOr, opXor, opDiff, opShr, opBit, gs0]
  refine callG_c (by simp) (by simp) ?ha (hc1) ?_
  (case ha => simp (disch := first | omega | (simp; done) | fail) [wrap64c, if_pos, if_neg, opAnd, opOr, opXor, opDiff, opShr, opBit, gs0])
  obtain ⟨L, hLe⟩ : ∃ L, L = permsF n n [] := ⟨_, rfl⟩
  have hLl : L.length ≤ 823543 := by rw [hLe]; exact perms_lt n7 n n7 []
  have hLg : ∀ w ∈ L, OrdN n w := by rw [hLe]; exact ordN_perms n
  rw [← hLe] at hG1
  have hR1 := (hG1.read (by rw [rowsN_length]; omega)).rows
  have hM := hR1.lenD
  have hln := rowsN_length L
  have g1 : h1.get h.next = .cells [.int .i64 (n : Int), b] true true 1 := by rw [ha1.1.2 _ (by omega)]; exact gs0
  have A1 := k0.trans ha1
  try simp (disch := first | omega | (simp; done) | fail) [wrap64c, if_pos, if_neg, opAnd, opOr, opXor, opDiff, opShr, opBit, gs0, hM, hln]
  refine WD_loopC [1, 11, 12] (fun m tm h' => ∃ j u, m = L.length - j ∧ tm 3 = u ∧ tm 13 = .int .i64 (j : Int) ∧ (j ≤ L.length) ∧ (Adds h1 h') ∧ (Ints h' u (toN ((L.take j).foldl (leastStep n xs) xs)))) _ ⟨0, b, rfl, (by simp (disch := first | omega | (simp; done) | fail) [wrap64c, if_pos, if_neg, opAnd, opOr, opXor, opDiff, opShr, opBit, gs0, hM, hln]), (by simp (disch := first | omega | (simp; done) | fail) [wrap64c, if_pos, if_neg, opAnd, opOr, opXor, opDiff, opShr, opBit, gs0, hM, hln]), (by first | omega | assumption | (simp (disch := first | omega | (simp; done) | fail) [wrap64c, if_pos, if_neg, opAnd, opOr, opXor, opDiff, opShr, opBit, gs0, hM, hln] <;> omega)), (adds_self _), (by simpa using hX0.keep ha1.1)⟩ ?_
  rintro m tm h' hFr ⟨j, u, rfl, e3, e13, hj, ha, hu⟩
  simp only [FrameL] at hFr
  obtain ⟨f1_0, f11_0, f12_0, -⟩ := hFr
  try simp (disch := first | omega | (simp; done) | fail) [wrap64c, if_pos, if_neg, opAnd, opOr, opXor, opDiff, opShr, opBit, gs0, hM, hln] at f1_0 f11_0 f12_0
  have e1 := f1_0
  have e11 := f11_0
  have e12 := f12_0
  have g2 : h'.get h.next = .cells [.int .i64 (n : Int), b] true true 1 := by rw [ha.1.2 _ (by have := ha1.1.1; omega)]; exact g1
  have hfl := leastFold_len (n := n) (xs := xs) (L.take j) xs g.len
  by_cases hlt : j < L.length
  · obtain ⟨o_x, i_x, c_x, cs_x, own_x, ex_x, es_x, us_x, q_x, b_x, g_x, l_x, r_x, R_x⟩ := (hR1.keep ha.1).open ((by omega))
    have z_x : ∀ h2 : i_x < cs_x.length, cs_x[i_x] = _ := fun h2 => r_x 0 ((by omega)) h2
    have hw := R_x j (by omega)
    have hwe : (rowsN L)[j]'(by simp; omega) = toN L[j] := by simp [rowsN]
    rw [hwe] at hw
    obtain ⟨w1, w2⟩ := hLg _ (List.getElem_mem hlt)
    have hs : (L.take (j + 1)).foldl (leastStep n xs) xs = leastStep n xs ((L.take j).foldl (leastStep n xs) xs) L[j] := by
      rw [List.take_succ_eq_append_getElem hlt, List.foldl_append]; rfl
    rename Hp => hq
    obtain ⟨u2, h2, hc2, ha2, hA2⟩ := alNamed_ok hq (.agg #[.int .i64 (n : Int), b]) (us_x j) n xs L[j] (.mk ((hX0.keep ha1.1).keep ha.1)) hw (by omega) g.lt7 (by omega) (fun k hk => by have := w2 k hk; omega)
    rw [putAll_named (n := n) w2] at hA2
    have hnl := named_len n L[j] xs
    have hI2 := (hA2.own (by simp; omega)).ints
    try simp (disch := first | omega | (simp; done) | fail) [wrap64c, if_pos, if_neg, opAnd, opOr, opXor, opDiff, opShr, opBit, gs0, hM, hln, e1, e3, e11, e12, e13, g2, hlt, q_x, g_x, l_x, r_x, z_x]
    refine callG_c (by simp) (by simp) ?ha (hc2) ?_
    (case ha => simp (disch := first | omega | (simp; done) | fail) [wrap64c, if_pos, if_neg, opAnd, opOr, opXor, opDiff, opShr, opBit, gs0, hM, hln, e1, e3, e11, e12, e13, g2, hlt, q_x, g_x, l_x, r_x, z_x])
    try simp (disch := first | omega | (simp; done) | fail) [wrap64c, if_pos, if_neg, opAnd, opOr, opXor, opDiff, opShr, opBit, gs0, hM, hln, e1, e3, e11, e12, e13, g2, hlt, q_x, g_x, l_x, r_x, z_x]
    refine callG_c (by simp) (by simp) ?ha (alBefore_ok h2 u2 u _ _ hI2 (hu.keep ha2.1)) ?_
    (case ha => simp (disch := first | omega | (simp; done) | fail) [wrap64c, if_pos, if_neg, opAnd, opOr, opXor, opDiff, opShr, opBit, gs0, hM, hln, e1, e3, e11, e12, e13, g2, hlt, q_x, g_x, l_x, r_x, z_x])
    by_cases hc : cmpL (toN (namedN n L[j] xs)) (toN ((L.take j).foldl (leastStep n xs) xs)) < 0
    · rw [leastStep, if_pos hc] at hs
      try simp (disch := first | omega | (simp; done) | fail) [wrap64c, if_pos, if_neg, opAnd, opOr, opXor, opDiff, opShr, opBit, gs0, hM, hln, e1, e3, e11, e12, e13, g2, hlt, q_x, g_x, l_x, r_x, z_x, hc]
      refine loopK_next _ ?hm ?hf ⟨j + 1, u2, rfl, (by simp (disch := first | omega | (simp; done) | fail) [wrap64c, if_pos, if_neg, opAnd, opOr, opXor, opDiff, opShr, opBit, gs0, hM, hln, e1, e3, e11, e12, e13, g2, hlt, q_x, g_x, l_x, r_x, z_x, hc] <;> omega), (by simp (disch := first | omega | (simp; done) | fail) [wrap64c, if_pos, if_neg, opAnd, opOr, opXor, opDiff, opShr, opBit, gs0, hM, hln, e1, e3, e11, e12, e13, g2, hlt, q_x, g_x, l_x, r_x, z_x, hc] <;> omega), (by first | omega | assumption | (simp (disch := first | omega | (simp; done) | fail) [wrap64c, if_pos, if_neg, opAnd, opOr, opXor, opDiff, opShr, opBit, gs0, hM, hln, e1, e3, e11, e12, e13, g2, hlt, q_x, g_x, l_x, r_x, z_x, hc] <;> omega)), (ha.trans ha2), (by rw [hs]; exact hI2)⟩
      (case hm => first | omega | (simp; omega))
      (case hf => simp [FrameL, gs0, hM, hln, e1, e3, e11, e12, e13, g2, hlt, q_x, g_x, l_x, r_x, z_x, hc, f1_0, f11_0, f12_0])
    · rw [leastStep, if_neg hc] at hs
      try simp (disch := first | omega | (simp; done) | fail) [wrap64c, if_pos, if_neg, opAnd, opOr, opXor, opDiff, opShr, opBit, gs0, hM, hln, e1, e3, e11, e12, e13, g2, hlt, q_x, g_x, l_x, r_x, z_x, hc]
      refine loopK_next _ ?hm ?hf ⟨j + 1, u, rfl, (by simp (disch := first | omega | (simp; done) | fail) [wrap64c, if_pos, if_neg, opAnd, opOr, opXor, opDiff, opShr, opBit, gs0, hM, hln, e1, e3, e11, e12, e13, g2, hlt, q_x, g_x, l_x, r_x, z_x, hc] <;> omega), (by simp (disch := first | omega | (simp; done) | fail) [wrap64c, if_pos, if_neg, opAnd, opOr, opXor, opDiff, opShr, opBit, gs0, hM, hln, e1, e3, e11, e12, e13, g2, hlt, q_x, g_x, l_x, r_x, z_x, hc] <;> omega), (by first | omega | assumption | (simp (disch := first | omega | (simp; done) | fail) [wrap64c, if_pos, if_neg, opAnd, opOr, opXor, opDiff, opShr, opBit, gs0, hM, hln, e1, e3, e11, e12, e13, g2, hlt, q_x, g_x, l_x, r_x, z_x, hc] <;> omega)), (ha.trans ha2), (by rw [hs]; exact hu.keep ha2.1)⟩
      (case hm => first | omega | (simp; omega))
      (case hf => simp [FrameL, gs0, hM, hln, e1, e3, e11, e12, e13, g2, hlt, q_x, g_x, l_x, r_x, z_x, hc, f1_0, f11_0, f12_0])
  · have hft : L.take j = L := List.take_of_length_le (by omega)
    rw [hft] at hu hfl
    try simp (disch := first | omega | (simp; done) | fail) [wrap64c, if_pos, if_neg, opAnd, opOr, opXor, opDiff, opShr, opBit, gs0, hM, hln, e1, e3, e11, e12, e13, g2, hlt]
    obtain ⟨u3, h3, hc3, ha3, hi3, _⟩ := l1Own_ok h' u _ hu (by simp; omega)
    refine callG_c (by simp) (by simp) ?ha (hc3) ?_
    (case ha => simp (disch := first | omega | (simp; done) | fail) [wrap64c, if_pos, if_neg, opAnd, opOr, opXor, opDiff, opShr, opBit, gs0, hM, hln, e1, e3, e11, e12, e13, g2, hlt])
    try simp (disch := first | omega | (simp; done) | fail) [wrap64c, if_pos, if_neg, opAnd, opOr, opXor, opDiff, opShr, opBit, gs0, hM, hln, e1, e3, e11, e12, e13, g2, hlt]
    have hn1 := (A1.trans ha).1.1
    refine done_ret rfl ⟨(A1.trans ha).trans ha3, ?_⟩
    rw [leastN, ← hLe]
    exact hi3.sub fun o ho => ⟨by have := ho.1; omega, ho.2⟩

noncomputable def leastRN (N : Int) (X : List Int) : Int := if fewB N X = true then N else 0
noncomputable def leastRX (N : Int) (X : List Int) : List Int := if fewB N X = true then toN (leastN N.toNat (natsOf X)) else []
theorem leastRX_len (N : Int) (X : List Int) : (leastRX N X).length ≤ 128 := by
  unfold leastRX
  split
  · rename_i h
    obtain ⟨n, xs, rfl, rfl, g, h5⟩ := fewB_true h
    have h1 := leastN_len g
    have h2 := bit7 g.n7
    simp at h1 ⊢; omega
  · simp

theorem implLeast_ok (h : Hp) (v : Value) (N : Int) (X : List Int) (hv : Space h v N X) (hl : X.length < 2 ^ 40) :
    ∃ v' h', CallOK Try.prog 36 #[v] h v' h' ∧ Adds h h' ∧ ∃ u, v' = .tuple #[u, .bool (fewB N X)] ∧ SpaceO (Btw h.next h'.next) h' u (leastRN N X) (leastRX N X) := by
  refine callY_L (args := [v]) 10 _ [.cell 2 32, .tmp 3] Try.func36 rfl rfl rfl ?_
  obtain ⟨b, rfl, hX⟩ := hv
  try simp (disch := first | omega | (simp; done) | fail) [wrap64c, if_pos, if_neg, opAnd, opOr, opXor, opDiff, opShr, opBit]
  first | refine WY_heap fun h0 q_h0 => ?_ | refine callG_heap fun h0 q_h0 => ?_ | refine callP_heap fun h0 q_h0 => ?_ | refine RY_heap fun h0 q_h0 => ?_ | refine PY_heap fun h0 q_h0 => ?_ | refine doneY_heap fun h0 q_h0 => ?_ | refine loopK_heap fun h0 q_h0 => ?_ | refine thenY_heap fun h0 q_h0 => ?_ | refine thenM_heap fun h0 q_h0 => ?_
  have k0 : Adds h h0 := by rw [q_h0]; exact (by first | exact aK | exact kK)
  have n0 : h0.next = h.next + 2 := by simp [q_h0]
  have gs0 : h0.get h.next = .cells [.int .i64 N, b] true true 1 := by simp [q_h0]
  have gr0 : h0.get (h.next + 1) = .cells [.int .i64 0, .slice none 0 0] true true 1 := by simp [q_h0]
  have hX0 := hX.keep k0.1
  try simp (disch := first | omega | (simp; done) | fail) [wrap64c, if_pos, if_neg, opAnd, opOr, opXor, opDiff, opShr, opBit, gs0, gr0]
  refine callG_c (by simp) (by simp) ?ha (isFew_ok h0 (.agg #[.int .i64 N, b]) N X (.mk hX0) hl) ?_
  (case ha => simp (disch := first | omega | (simp; done) | fail) [wrap64c, if_pos, if_neg, opAnd, opOr, opXor, opDiff, opShr, opBit, gs0, gr0])
  cases c1 : fewB N X
  · try simp (disch := first | omega | (simp; done) | fail) [wrap64c, if_pos, if_neg, opAnd, opOr, opXor, opDiff, opShr, opBit, gs0, gr0, c1, putCells]
    refine done_ret (by simp [putCells]; rfl) ⟨(by first | exact aK | exact kK), _, by simp [c1]; rfl, ?_⟩
    rw [leastRN, leastRX, if_neg (by simp [c1]), if_neg (by simp [c1])]
    exact .nil _ _
  · obtain ⟨n, xs, hN, hXe, g, h5⟩ := fewB_true c1
    have hNt : N = (n : Int) := hN
    obtain ⟨_, h2, hc2, ha2, d, rfl, hd⟩ := leastNamed_ok h0 (.agg #[.int .i64 (n : Int), b]) n xs (.mk (hXe ▸ hX0)) g
    try simp (disch := first | omega | (simp; done) | fail) [wrap64c, if_pos, if_neg, opAnd, opOr, opXor, opDiff, opShr, opBit, gs0, gr0, c1, hNt]
    refine callG_c (by simp) (by simp) ?ha (hc2) ?_
    (case ha => simp (disch := first | omega | (simp; done) | fail) [wrap64c, if_pos, if_neg, opAnd, opOr, opXor, opDiff, opShr, opBit, gs0, gr0, c1, hNt])
    have nt := hd.nt
    have cs := hd.cs
    have gr2 : h2.get (h.next + 1) = .cells [.int .i64 0, .slice none 0 0] true true 1 := by rw [ha2.1.2 _ (by omega)]; exact gr0
    try simp (disch := first | omega | (simp; done) | fail) [wrap64c, if_pos, if_neg, opAnd, opOr, opXor, opDiff, opShr, opBit, gs0, gr0, c1, hNt, nt, cs, gr2, putCells]
    have A2 := k0.trans ha2
    refine done_ret (by simp [putCells]; rfl) ⟨(by first | exact aK | exact kK), .agg #[.int .i64 N, d], by simp [show fewB (n : Int) X = true by rw [← hNt]; exact c1, hNt], d, by rw [leastRN, if_pos c1], ?_⟩
    rw [leastRX, if_pos c1, hXe, hN, natsOf_toN, Int.toNat_natCast]
    exact (hd.same (Same.put (Same.refl _ _) (by unfold Btw; omega) _)).sub fun o ho => ⟨by have := ho.1; omega, by simpa using ho.2⟩

theorem specLeast_ok (h : Hp) (v : Value) (N : Int) (X : List Int) (hv : Space h v N X) (hl : X.length < 2 ^ 40) :
    ∃ v' h', CallOK Try.prog 35 #[v] h v' h' ∧ Adds h h' ∧ ∃ u, v' = .tuple #[u, .bool (fewB N X)] ∧ SpaceO (Btw h.next h'.next) h' u (leastRN N X) (leastRX N X) := by
  refine callY_L (args := [v]) 13 _ [.cell 2 32, .tmp 3] Try.func35 rfl rfl rfl ?_
  obtain ⟨b, rfl, hX⟩ := hv
  try simp (disch := first | omega | (simp; done) | fail) [wrap64c, if_pos, if_neg, opAnd, opOr, opXor, opDiff, opShr, opBit]
  first | refine WY_heap fun h0 q_h0 => ?_ | refine callG_heap fun h0 q_h0 => ?_ | refine callP_heap fun h0 q_h0 => ?_ | refine RY_heap fun h0 q_h0 => ?_ | refine PY_heap fun h0 q_h0 => ?_ | refine doneY_heap fun h0 q_h0 => ?_ | refine loopK_heap fun h0 q_h0 => ?_ | refine thenY_heap fun h0 q_h0 => ?_ | refine thenM_heap fun h0 q_h0 => ?_
  have k0 : Adds h h0 := by rw [q_h0]; exact (by first | exact aK | exact kK)
  have n0 : h0.next = h.next + 2 := by simp [q_h0]
  have gs0 : h0.get h.next = .cells [.int .i64 N, b] true true 1 := by simp [q_h0]
  have gr0 : h0.get (h.next + 1) = .cells [.int .i64 0, .slice none 0 0] true true 1 := by simp [q_h0]
  have hX0 := hX.keep k0.1
  try simp (disch := first | omega | (simp; done) | fail) [wrap64c, if_pos, if_neg, opAnd, opOr, opXor, opDiff, opShr, opBit, gs0, gr0]
  refine callG_c (by simp) (by simp) ?ha (alFew_ok h0 (.agg #[.int .i64 N, b]) N X (.mk hX0) hl) ?_
  (case ha => simp (disch := first | omega | (simp; done) | fail) [wrap64c, if_pos, if_neg, opAnd, opOr, opXor, opDiff, opShr, opBit, gs0, gr0])
  cases c1 : fewB N X
  · try simp (disch := first | omega | (simp; done) | fail) [wrap64c, if_pos, if_neg, opAnd, opOr, opXor, opDiff, opShr, opBit, gs0, gr0, c1, putCells]
    refine done_ret (by simp [putCells]; rfl) ⟨(by first | exact aK | exact kK), _, by simp [c1]; rfl, ?_⟩
    rw [leastRN, leastRX, if_neg (by simp [c1]), if_neg (by simp [c1])]
    exact .nil _ _
  · obtain ⟨n, xs, hN, hXe, g, h5⟩ := fewB_true c1
    have hNt : N = (n : Int) := hN
    obtain ⟨d, h2, hc2, ha2, hd⟩ := alLeast_ok h0 (.agg #[.int .i64 (n : Int), b]) n xs (.mk (hXe ▸ hX0)) g
    try simp (disch := first | omega | (simp; done) | fail) [wrap64c, if_pos, if_neg, opAnd, opOr, opXor, opDiff, opShr, opBit, gs0, gr0, c1, hNt]
    refine WD_drawC 4 rfl (by kernel_rfl) ?_
    try simp (disch := first | omega | (simp; done) | fail) [wrap64c, if_pos, if_neg, opAnd, opOr, opXor, opDiff, opShr, opBit, gs0, gr0, c1, hNt]
    refine callP_c (by simp) (by simp) ?ha (hc2) ?hadd ?_
    (case ha => simp (disch := first | omega | (simp; done) | fail) [wrap64c, if_pos, if_neg, opAnd, opOr, opXor, opDiff, opShr, opBit, gs0, gr0, c1, hNt])
    (case hadd => first | assumption | exact adds_self _ | (simp; done))
    have nt := hd.nt
    have cs := hd.cs
    have gr2 : h2.get (h.next + 1) = .cells [.int .i64 0, .slice none 0 0] true true 1 := by rw [ha2.1.2 _ (by omega)]; exact gr0
    try simp (disch := first | omega | (simp; done) | fail) [wrap64c, if_pos, if_neg, opAnd, opOr, opXor, opDiff, opShr, opBit, gs0, gr0, c1, hNt, nt, cs, gr2, putCells]
    have A2 := k0.trans ha2
    refine done_ret (by simp [putCells]; rfl) ⟨(by first | exact aK | exact kK), .agg #[.int .i64 N, d], by simp [show fewB (n : Int) X = true by rw [← hNt]; exact c1, hNt], d, by rw [leastRN, if_pos c1], ?_⟩
    rw [leastRX, if_pos c1, hXe, hN, natsOf_toN, Int.toNat_natCast]
    exact (hd.same (Same.put (Same.refl _ _) (by unfold Btw; omega) _)).sub fun o ho => ⟨by have := ho.1; omega, by simpa using ho.2⟩
end Go.Proofs.Ytnjabaeajjhliaa
